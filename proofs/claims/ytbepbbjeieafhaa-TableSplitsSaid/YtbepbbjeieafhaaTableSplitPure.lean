/-
  What lies between two keys and what lies behind the second are what lies behind the first: plain.
-/
import Derived.Test.YtbepbbjeieafhaaM8
namespace Go.Proofs.Ytbepbbjeieafhaa.Tb
open L Oct Bl Fr BloomP
theorem rises_tail {c : Cl} {t : List Cl} (h : risesB (c :: t) = true) : risesB t = true := by
  cases t with
  | nil => rfl
  | cons d r => simp only [risesB, Bool.and_eq_true] at h; exact h.2
theorem rises_head {c : Cl} {t : List Cl} (h : risesB (c :: t) = true) {d : Cl} (hd : d ∈ t) : lessC c d = true := by
  obtain ⟨i, hi, rfl⟩ := List.getElem_of_mem hd
  have := rises_far (c :: t) h 0 i (by simp; omega)
  rw [Nat.zero_add] at this
  simpa [List.getD, hi] using this
theorem less_low {a b : Cl} {key : List UInt8} (h : lessC a b = true) (hk : Op.bytesLess b.key.toList key = true) : Op.bytesLess a.key.toList key = true := by
  simp only [lessC, strLt, strEq, Bool.or_eq_true, Bool.and_eq_true, beq_iff_eq] at h
  rcases h with h | ⟨h, _⟩
  · exact bl_trans _ _ _ h hk
  · rw [h]; exact hk
theorem filter_split {p q r s : Cl → Bool} : ∀ l : List Cl, risesB l = true → (∀ c, p c = (r c && s c)) → (∀ c, q c = !s c) → (∀ c, s c = false → r c = true) → (∀ c d, lessC c d = true → s d = true → s c = true) → l.filter p ++ l.filter q = l.filter r
  | [], _, _, _, _, _ => rfl
  | c :: t, h, hp, hq, hr, hs => by
    have ih := filter_split t (rises_tail h) hp hq hr hs
    cases hc : s c with
    | true =>
      have h1 : p c = r c := by rw [hp, hc, Bool.and_true]
      have h2 : ¬ q c = true := by rw [hq, hc]; simp
      rw [List.filter_cons_of_neg h2]
      cases hrc : r c with
      | true => rw [List.filter_cons_of_pos (by rw [h1, hrc]), List.filter_cons_of_pos hrc, List.cons_append, ih]
      | false => rw [List.filter_cons_of_neg (by rw [h1, hrc]; simp), List.filter_cons_of_neg (by rw [hrc]; simp), ih]
    | false =>
      have hall : ∀ d ∈ c :: t, s d = false := fun d hd => by
        rcases List.mem_cons.1 hd with rfl | hd
        · exact hc
        · cases hsd : s d with
          | false => rfl
          | true => rw [hs c d (rises_head h hd) hsd] at hc; cases hc
      have e1 : (c :: t).filter p = [] := List.filter_eq_nil_iff.2 fun d hd => by rw [hp, hall d hd]; simp
      have e2 : (c :: t).filter q = c :: t := List.filter_eq_self.2 fun d hd => by rw [hq, hall d hd]; rfl
      have e3 : (c :: t).filter r = c :: t := List.filter_eq_self.2 fun d hd => hr d (hall d hd)
      rw [e1, e2, e3]; rfl
theorem scan_split {l : List Cl} (h : risesB l = true) {a m : ByteArray} (ha : Op.bytesLess m.toList a.toList = false) (hm : m.toList ≠ []) : scanC l a m ++ scanC l m ⟨#[]⟩ = scanC l a ⟨#[]⟩ := by
  have e : (⟨#[]⟩ : ByteArray).toList = [] := by decide +kernel
  refine filter_split (s := fun c => Op.bytesLess c.key.toList m.toList) l h (fun c => ?_) (fun c => ?_) (fun c hc => ?_) (fun c d hcd hd => less_low hcd hd)
  · have hm' : (m.toList == []) = false := by simpa using hm
    simp only [inC, e, beq_self_eq_true, Bool.true_or, Bool.and_true, hm', Bool.false_or]
  · simp only [inC, e, beq_self_eq_true, Bool.true_or, Bool.and_true]
  · simp only [inC, e, beq_self_eq_true, Bool.true_or, Bool.and_true, Bool.not_eq_true']
    cases hca : Op.bytesLess c.key.toList a.toList with
    | false => rfl
    | true =>
      exfalso
      cases ham : Op.bytesLess a.toList m.toList with
      | true =>
        have := bl_trans _ _ _ hca ham
        have hc' : Op.bytesLess c.key.toList m.toList = false := hc
        rw [this] at hc'; cases hc'
      | false =>
        have := bl_tri _ _ ham ha
        have hc' : Op.bytesLess c.key.toList m.toList = false := hc
        rw [← this, hca] at hc'; cases hc'
end Go.Proofs.Ytbepbbjeieafhaa.Tb
