/-
  Texts that the proofs of this seat stand on, one behind the other: contracts of functions and plain lemmas. Conditions: those that each theorem states.
-/
import Derived.Test.YtkbfjgmgckbogaaGreatOctetClone
import Derived.Test.YtkbfjgmgckbogaaGreatF3
/-
  Bytes and rows of bytes: what the walks of all chapters share.
-/


namespace Go.Proofs.YtkbfjgmgckbogaaGreat.Oct
open Go.RowKit L
def ints (zs : List Int) : List Value := zs.map (Value.int .i64)
def u8ss (ls : List (List UInt8)) : List (List Value) := ls.map u8s
theorem u8ss_get (ls : List (List UInt8)) (k : Nat) : (u8ss ls).getD k [] = u8s (ls.getD k []) := by
  by_cases h : k < ls.length
  · simp [u8ss, List.getD, h]
  · simp [u8ss, List.getD, h, u8s]
/-- rows that are laid side by side as resources -/
theorem readsRows_one {W0 : World} {R : Asrt} {e : TypeId} {v v1 : Value} {l : List UInt8} (h1 : Reads W0 R 1 v1 l.length (u8s l)) :
    ReadsRows W0 ((Row e 1 v 1 [v1]).sep R) v [v1] (u8ss [l]) := by
  intro w hw
  refine ⟨hw.sl, fun i hi => ?_⟩
  simp [u8ss] at hi
  subst hi
  have := h1.at hw.drop1
  simpa [u8ss, u8s_length] using this
theorem readsRows_two {W0 : World} {R : Asrt} {e : TypeId} {v v1 v2 : Value} {l1 l2 : List UInt8} (h1 : Reads W0 R 1 v1 l1.length (u8s l1)) (h2 : Reads W0 R 1 v2 l2.length (u8s l2)) :
    ReadsRows W0 ((Row e 1 v 2 [v1, v2]).sep R) v [v1, v2] (u8ss [l1, l2]) := by
  intro w hw
  refine ⟨hw.sl, fun i hi => ?_⟩
  simp [u8ss] at hi
  have h1 := h1.at hw.drop1
  have h2 := h2.at hw.drop1
  have hi2 : i = 0 ∨ i = 1 := by omega
  rcases hi2 with rfl | rfl
  · simpa [u8ss, u8s_length] using h1
  · simpa [u8ss, u8s_length] using h2
theorem el8 : ElemOk Tryz.prog 22 5 1 1 := elemOk Tryz.underlying22 Tryz.info5 rfl (by decide)
theorem heavy_step {ls : List (List UInt8)} {k : Nat} (hk : k < ls.length) : (ls.take (k + 1)).flatten.length = (ls.take k).flatten.length + (ls.getD k []).length := by
  rw [List.take_succ_eq_append_getElem hk, List.flatten_append, List.length_append]
  simp only [List.flatten_cons, List.flatten_nil, List.append_nil, List.getD, List.getElem?_eq_getElem hk, Option.getD_some]
theorem flatten_take_le (ls : List (List UInt8)) (k : Nat) : (ls.take k).flatten.length ≤ ls.flatten.length := by
  conv => rhs; rw [← List.take_append_drop k ls, List.flatten_append, List.length_append]
  omega
theorem sl_prefix {w : World} {v : Value} {l x : List UInt8} (h : Sl w 1 v (l ++ x).length (u8s (l ++ x))) {t e : TypeId} (ht : Tryz.prog.underlying t = some (.slice e)) (hs : (Tryz.prog.info? e).map (fun i => i.size) = some 1) (hi : Value) (hhi : ∃ k, hi = .int k (l.length : Int)) :
    ∃ v', (∀ w' : World, (Instr.slice t v none (some hi) none).run Tryz.prog w' = .ok v' w') ∧ Sl w 1 v' l.length (u8s l) ∧ v'.ownBlock = v.ownBlock := by
  obtain ⟨k, rfl⟩ := hhi
  obtain ⟨v', h1, h2, h3⟩ := run_slice_sl (P := Tryz.prog) h ht hs none (some (.int k l.length)) 0 l.length (.inl ⟨rfl, rfl⟩) (.inr ⟨_, rfl⟩) (Nat.zero_le _) (by simp)
  refine ⟨v', h1, ?_, h3⟩
  simpa [u8s, List.take_append, List.take_of_length_le] using h2
theorem elR : ElemOk Tryz.prog 44 22 1 24 := elemOk Tryz.underlying44 Tryz.info22 rfl (by decide)
theorem rows_alloc {w : World} {v : Value} {ls : List (List UInt8)} (h : SlRows w v ls) (o : Obj) : SlRows (w.alloc o) v ls := h.below' ((Below.refl _ _).alloc (Nat.le_refl _) _)
theorem sl_alloc {w : World} {s n : Nat} {v : Value} {xs : List Value} (h : Sl w s v n xs) (o : Obj) : Sl (w.alloc o) s v n xs := h.below' ((Below.refl _ _).alloc (Nat.le_refl _) _)
/-- a literal of rows -/
theorem rowsLit {w : World} (vs : List Value) (ls : List (List UInt8)) (e : TypeId) (hl : vs.length = ls.length) (hm : vs.length ≤ 1000) (h : ∀ i, i < ls.length → Sl w 1 (vs.getD i undef) (ls.getD i []).length (u8s (ls.getD i []))) {b : Nat} (hb : w.heap.size = b) :
    SlRows (w.alloc (.cells vs.toArray e)) (.slice (some ⟨b, 0, none⟩) vs.length vs.length) ls := by
  subst hb
  have := sl_built w vs e (by unfold maxLen; omega)
  refine ⟨vs, by rw [← hl]; exact this, fun i hi => sl_alloc (h i hi) _⟩
theorem rowsLit1 {w : World} {v1 : Value} {l1 : List UInt8} (e : TypeId) (h1 : Sl w 1 v1 l1.length (u8s l1)) {b : Nat} (hb : w.heap.size = b) :
    SlRows (w.alloc (.cells #[v1] e)) (.slice (some ⟨b, 0, none⟩) 1 1) [l1] :=
  rowsLit [v1] [l1] e rfl (by simp) (fun i hi => by
    have : i = 0 := by simp at hi; omega
    subst this; exact h1) hb
theorem rowsLit2 {w : World} {v1 v2 : Value} {l1 l2 : List UInt8} (e : TypeId) (h1 : Sl w 1 v1 l1.length (u8s l1)) (h2 : Sl w 1 v2 l2.length (u8s l2)) {b : Nat} (hb : w.heap.size = b) :
    SlRows (w.alloc (.cells #[v1, v2] e)) (.slice (some ⟨b, 0, none⟩) 2 2) [l1, l2] :=
  rowsLit [v1, v2] [l1, l2] e rfl (by simp) (fun i hi => by
    have : i = 0 ∨ i = 1 := by simp at hi; omega
    rcases this with rfl | rfl
    · exact h1
    · exact h2) hb
theorem rowsNil (w : World) : SlRows w (.slice none 0 0) [] := ⟨[], Sl.nil w 1, fun i hi => by simp at hi⟩
/-- lists of rows, one behind the other -/
theorem rowsAppend {w : World} {v : Value} {vs1 vs2 : List Value} {l1 l2 : List (List UInt8)} (h : Sl w 1 v (l1.length + l2.length) (vs1 ++ vs2)) (hl1 : vs1.length = l1.length)
    (h1 : ∀ i, i < l1.length → Sl w 1 (vs1.getD i undef) (l1.getD i []).length (u8s (l1.getD i []))) (h2 : ∀ i, i < l2.length → Sl w 1 (vs2.getD i undef) (l2.getD i []).length (u8s (l2.getD i []))) : SlRows w v (l1 ++ l2) := by
  refine ⟨vs1 ++ vs2, by rw [List.length_append]; exact h, fun i hi => ?_⟩
  by_cases hi1 : i < l1.length
  · have := h1 i hi1
    simpa [List.getD, List.getElem?_append_left hi1, List.getElem?_append_left (show i < vs1.length by omega)] using this
  · have := h2 (i - l1.length) (by rw [List.length_append] at hi; omega)
    simpa [List.getD, List.getElem?_append_right (show l1.length ≤ i by omega), List.getElem?_append_right (show vs1.length ≤ i by omega), hl1] using this
theorem SlRows.mem {w : World} {v : Value} {ls : List (List UInt8)} (h : SlRows w v ls) : ls.length ≤ maxLen := by
  obtain ⟨vs, h1, _⟩ := h
  exact h1.le
theorem rows_ones {w : World} {vs : List Value} {ls : List (List UInt8)} (hl : vs.length = ls.length) (h : ∀ i, i < ls.length → Sl w 1 (vs.getD i undef) (ls.getD i []).length (u8s (ls.getD i []))) : ∀ u ∈ vs, u.oneCell' = true := by
  intro u hu
  obtain ⟨i, hi, rfl⟩ := List.getElem_of_mem hu
  have := (h i (by omega)).one
  simpa [List.getD, hi] using this
theorem _root_.Go.Proofs.YtkbfjgmgckbogaaGreat.L.Sl.shape {w : World} {s n : Nat} {v : Value} {xs : List Value} (h : Sl w s v n xs) : ∃ ao cap, v = .slice ao n cap := by
  obtain ⟨_, ao, cap, rfl, _⟩ := h
  exact ⟨_, _, rfl⟩
/-- a constant's bytes, as a conversion leaves them -/
theorem slConst (w : World) (l : List UInt8) (e : TypeId) (k : Nat) (hm : l.length ≤ 1000000) {b : Nat} (hb : w.heap.size = b) :
    Sl (w.alloc (.cells (u8s l).toArray e (k, k + 1))) 1 (.slice (some ⟨b, 0, none⟩) l.length l.length) l.length (u8s l) := by
  have h := ((Hold.start w).addConst (u8s l) e k (by rw [u8s_length]; unfold maxLen; omega) hb).ro
  rw [u8s_length] at h
  exact h
end Go.Proofs.YtkbfjgmgckbogaaGreat.Oct

/-
  Rows of bytes that a call makes: the outer cells, and each row, in memory of their own.
-/

namespace Go.Proofs.YtkbfjgmgckbogaaGreat.L
open Go.RowKit Oct
/-- the rows that some values are, read alone -/
def Inner (vs : List Value) (ls : List (List UInt8)) : Asrt where
  at_ F w := vs.length = ls.length ∧ (∀ i, i < ls.length → Sl w 1 (vs.getD i undef) (ls.getD i []).length (u8s (ls.getD i []))) ∧ ∀ k, F k ↔ ∃ i, i < ls.length ∧ (vs.getD i undef).ownBlock = some k ∧ 0 < (ls.getD i []).length
  stay := by
    rintro F w w' ⟨h1, h2, h3⟩ hk
    refine ⟨h1, fun i hi => ?_, h3⟩
    by_cases hl : 0 < (ls.getD i []).length
    · exact (h2 i hi).kept fun b hb => hk b ((h3 b).2 ⟨i, hi, hb, hl⟩)
    · exact (h2 i hi).none (by omega)
  lt := by
    rintro F w ⟨h1, h2, h3⟩ k hk
    obtain ⟨i, hi, hb, hl⟩ := (h3 k).1 hk
    exact (h2 i hi).lt (by omega) k hb
section
variable {W0 w w' : World} {R : Asrt} {vs : List Value} {ls : List (List UInt8)} {v : Value} {l : List UInt8}
theorem Hold.addInnerNil (h : Hold W0 R w) : Hold W0 ((Inner [] []).sep R) w :=
  h.add (Below.refl _ _) (A := Inner [] []) (F := fun _ => False) ⟨rfl, fun i hi => by simp at hi, fun k => by simp⟩ fun _ h => h.elim
theorem Hold.inner (h : Hold W0 ((Inner vs ls).sep R) w) : vs.length = ls.length ∧ ∀ i, i < ls.length → Sl w 1 (vs.getD i undef) (ls.getD i []).length (u8s (ls.getD i [])) := by
  obtain ⟨F, ⟨h1, h2, _⟩, _⟩ := h.take
  exact ⟨h1, h2⟩
/-- one row more -/
theorem Hold.addInner (h : Hold W0 ((Inner vs ls).sep R) w) (hb : Below w.heap.size w w') (ho : Own w' w.heap.size 5 1 v l.length (u8s l)) : Hold W0 ((Inner (vs ++ [v]) (ls ++ [l])).sep R) w' := by
  obtain ⟨F, hA, hge, hup⟩ := h.take
  have hA' := (Inner vs ls).stay hA fun k hk => hb.block k ((Inner vs ls).lt hA k hk)
  obtain ⟨h1, h2, h3⟩ := hA'
  have hlow : ∀ i, i < ls.length → (vs ++ [v]).getD i undef = vs.getD i undef ∧ (ls ++ [l]).getD i [] = ls.getD i [] := by
    intro i hi
    simp [List.getD, List.getElem?_append_left hi, List.getElem?_append_left (show i < vs.length by omega)]
  have hnew : (vs ++ [v]).getD ls.length undef = v ∧ (ls ++ [l]).getD ls.length [] = l := by
    rw [← h1]
    simp [List.getD, h1]
  refine hup w' (Inner (vs ++ [v]) (ls ++ [l])) (fun k => F k ∨ (v.ownBlock = some k ∧ 0 < l.length)) (Keeps.of_below hb) ⟨by simp [h1], fun i hi => ?_, fun k => ?_⟩ ?_
  · by_cases hi2 : i < ls.length
    · rw [(hlow i hi2).1, (hlow i hi2).2]
      exact h2 i hi2
    · have : i = ls.length := by simp at hi; omega
      subst this
      rw [hnew.1, hnew.2]
      exact ho.sl
  · constructor
    · rintro (hk | ⟨hk, hl⟩)
      · obtain ⟨i, hi, hb2, hl⟩ := (h3 k).1 hk
        exact ⟨i, by simp; omega, by rw [(hlow i hi).1]; exact hb2, by rw [(hlow i hi).2]; exact hl⟩
      · exact ⟨ls.length, by simp, by rw [hnew.1]; exact hk, by rw [hnew.2]; exact hl⟩
    · rintro ⟨i, hi, hb2, hl⟩
      by_cases hi2 : i < ls.length
      · rw [(hlow i hi2).1] at hb2
        rw [(hlow i hi2).2] at hl
        exact .inl ((h3 k).2 ⟨i, hi2, hb2, hl⟩)
      · have : i = ls.length := by simp at hi; omega
        subst this
        rw [hnew.1] at hb2
        rw [hnew.2] at hl
        exact .inr ⟨hb2, hl⟩
  · rintro k (hk | ⟨hk, _⟩)
    · exact .inl hk
    · exact .inr (ho.lt k hk).1
/-- outer cells and rows, read -/
theorem Hold.rowsAt {n : Nat} (h : Hold W0 ((Row 22 1 v n vs).sep ((Inner vs ls).sep R)) w) (hn : n = ls.length) : SlRows w v ls := by
  subst hn
  exact ⟨vs, h.sl, h.drop1.inner.2⟩
end
end Go.Proofs.YtkbfjgmgckbogaaGreat.L
