/-
  Cells that rise: each is the first of its key that is not above its number; plain.
-/
import Derived.Test.YtgmnpgohkabfcaaBlockOrderPure
import Derived.Test.YtgmnpgohkabfcaaBlockSeek
namespace Go.Proofs.Ytgmnpgohkabfcaa.Bl
theorem rises_at : ∀ (l : List Cl) (k : Nat), risesB l = true → k + 1 < l.length → lessC (l.getD k default) (l.getD (k + 1) default) = true
  | a :: b :: r, 0, h, _ => by
    simp only [risesB, Bool.and_eq_true] at h
    exact h.1
  | a :: b :: r, k + 1, h, hk => by
    simp only [risesB, Bool.and_eq_true] at h
    have := rises_at (b :: r) k h.2 (by simpa using hk)
    simpa using this
  | [a], k, _, hk => by simp at hk
  | [], k, _, hk => by simp at hk
theorem rises_far (l : List Cl) (h : risesB l = true) (j : Nat) : ∀ d, j + d + 1 < l.length → lessC (l.getD j default) (l.getD (j + d + 1) default) = true
  | 0, hk => rises_at l j h hk
  | d + 1, hk => lessC_trans (rises_far l h j d (by omega)) (rises_at l (j + d + 1) h hk)
theorem riseN_rises {l : List Cl} (h : riseN l = 0) : risesB l = true := by
  unfold riseN at h
  split at h
  · split at h
    · assumption
    · cases h
  · cases h
/-- a cell behind is not hit by what an earlier one is asked -/
theorem not_hits {a b : Cl} (h : lessC a b = true) : hits b.key b.seq a = false := by
  rw [Bool.eq_false_iff]
  intro hh
  simp only [hits, Bool.and_eq_true, beq_iff_eq, decide_eq_true_eq] at hh
  simp only [lessC, Bool.or_eq_true, Bool.and_eq_true, decide_eq_true_eq, strLt, strEq_iff] at h
  rcases h with h | h
  · rw [hh.1, bytesLess_irrefl] at h; cases h
  · omega
theorem seek_back {l : List Cl} (h : riseN l = 0) {k : Nat} (hk : k < l.length) : seekC l (l.getD k default).key (l.getD k default).seq = (l.getD k default, true) := by
  refine seekC_at hk (fun j hj => ?_) (by simp [hits])
  have := rises_far l (riseN_rises h) j (k - j - 1) (by omega)
  rw [show j + (k - j - 1) + 1 = k from by omega] at this
  exact not_hits this
/-- by a greater number a newer cell, or the same -/
theorem seek_more {l : List Cl} (h : riseN l = 0) {key : ByteArray} {a b : Int} (hab : a ≤ b) (hx : (seekC l key a).2 = true) :
    (seekC l key b).2 = true ∧ (seekC l key a).1.seq ≤ (seekC l key b).1.seq ∧ (seekC l key a).1.seq ≤ a ∧ ((seekC l key a).1.key.toList == key.toList) = true := by
  unfold seekC at hx ⊢
  cases hf : l.find? (hits key a) with
  | none => rw [hf] at hx; cases hx
  | some c =>
    have hc := List.find?_some hf
    have hcm := List.mem_of_find?_eq_some hf
    simp only [hits, Bool.and_eq_true, decide_eq_true_eq] at hc
    cases hg : l.find? (hits key b) with
    | none =>
      rw [List.find?_eq_none] at hg
      refine (hg c hcm ?_).elim
      simp only [hits, Bool.and_eq_true, decide_eq_true_eq]
      exact ⟨hc.1, by omega⟩
    | some d =>
      refine ⟨rfl, ?_, hc.2, hc.1⟩
      have hd := List.find?_some hg
      simp only [hits, Bool.and_eq_true, decide_eq_true_eq] at hd
      show c.seq ≤ d.seq
      by_cases hs : c.seq ≤ d.seq
      · exact hs
      · exfalso
        obtain ⟨i, hi, rfl⟩ := List.getElem_of_mem hcm
        obtain ⟨j, hj, rfl⟩ := List.getElem_of_mem (List.mem_of_find?_eq_some hg)
        have e1 := hc.1
        have e2 := hd.1
        simp only [beq_iff_eq] at e1 e2
        have hlt : j < i ∨ i < j ∨ i = j := by omega
        rcases hlt with hlt | hlt | rfl
        · have := rises_far l (riseN_rises h) j (i - j - 1) (by omega)
          rw [show j + (i - j - 1) + 1 = i from by omega, getD_get hi, getD_get hj] at this
          simp only [lessC, Bool.or_eq_true, Bool.and_eq_true, decide_eq_true_eq, strLt, strEq_iff] at this
          rcases this with t | t
          · rw [e2, e1, bytesLess_irrefl] at t; cases t
          · omega
        · have h1 := List.find?_eq_some_iff_getElem.1 hg
          obtain ⟨_, j', hj', he, hall⟩ := h1
          have := rises_far l (riseN_rises h) i (j - i - 1) (by omega)
          rw [show i + (j - i - 1) + 1 = j from by omega, getD_get hi, getD_get hj] at this
          have hij : i < j' ∨ j' ≤ i := by omega
          rcases hij with hij | hij
          · have hn := hall i hij
            have hi2 : hits key b l[i] = true := by
              simp only [hits, Bool.and_eq_true, decide_eq_true_eq, beq_iff_eq]
              exact ⟨e1, by omega⟩
            simp [hi2] at hn
          · rw [← he] at hs this
            by_cases hji : j' = i
            · subst hji; omega
            · have t := rises_far l (riseN_rises h) j' (i - j' - 1) (by omega)
              rw [show j' + (i - j' - 1) + 1 = i from by omega, getD_get hi, getD_get hj'] at t
              simp only [lessC, Bool.or_eq_true, Bool.and_eq_true, decide_eq_true_eq, strLt, strEq_iff] at t
              rw [← he] at e2
              rcases t with t | t
              · rw [e2, e1, bytesLess_irrefl] at t; cases t
              · omega
        · omega
theorem seek_not_above {l : List Cl} {key : ByteArray} {b : Int} (hx : (seekC l key b).2 = true) : (seekC l key b).1.seq ≤ b := by
  unfold seekC at hx ⊢
  cases hf : l.find? (hits key b) with
  | none => rw [hf] at hx; cases hx
  | some c =>
    have hc := List.find?_some hf
    simp only [hits, Bool.and_eq_true, decide_eq_true_eq] at hc
    exact hc.2
end Go.Proofs.Ytgmnpgohkabfcaa.Bl
