/-
  Rows of bytes in one world: literals, appended lists of rows; Join, Sum, same of them.
-/
import Derived.Test.YtmdkgggbibdkmaaOctetJoin
import Derived.Test.YtmdkgggbibdkmaaOctetHelp
namespace Go.Proofs.Ytmdkgggbibdkmaa.Oct
open Go.RowKit L
theorem elR : ElemOk Try.prog 38 23 1 24 := elemOk Try.underlying38 Try.info23 rfl (by decide)
theorem rows_alloc {w : World} {v : Value} {ls : List (List UInt8)} (h : SlRows w v ls) (o : Obj) : SlRows (w.alloc o) v ls := h.below' ((Below.refl _ _).alloc (Nat.le_refl _) _)
theorem sl_alloc {w : World} {s n : Nat} {v : Value} {xs : List Value} (h : Sl w s v n xs) (o : Obj) : Sl (w.alloc o) s v n xs := h.below' ((Below.refl _ _).alloc (Nat.le_refl _) _)
/-- a literal of rows -/
theorem rowsLit {w : World} (vs : List Value) (ls : List (List UInt8)) (e : TypeId) (hl : vs.length = ls.length) (hm : vs.length ≤ 1000) (h : ∀ i, i < ls.length → Sl w 1 (vs.getD i undef) (ls.getD i []).length (u8s (ls.getD i []))) {b : Nat} (hb : w.heap.size = b) :
    SlRows (w.alloc (.cells vs.toArray e)) (.slice (some ⟨b, 0, none⟩) vs.length vs.length) ls := by
  subst hb
  have := sl_built w vs e (by unfold maxLen; omega)
  refine ⟨vs, by rw [← hl]; exact this, fun i hi => sl_alloc (h i hi) _⟩
theorem rowsLit1 {w : World} {v1 : Value} {l1 : List UInt8} (e : TypeId) (h1 : Sl w 1 v1 l1.length (u8s l1)) {b : Nat} (hb : w.heap.size = b) :
    SlRows (w.alloc (.cells #[v1] e)) (.slice (some ⟨b, 0, none⟩) 1 1) [l1] :=
  rowsLit [v1] [l1] e rfl (by simp) (fun i hi => by
    have : i = 0 := by simp at hi; omega
    subst this; exact h1) hb
theorem rowsLit2 {w : World} {v1 v2 : Value} {l1 l2 : List UInt8} (e : TypeId) (h1 : Sl w 1 v1 l1.length (u8s l1)) (h2 : Sl w 1 v2 l2.length (u8s l2)) {b : Nat} (hb : w.heap.size = b) :
    SlRows (w.alloc (.cells #[v1, v2] e)) (.slice (some ⟨b, 0, none⟩) 2 2) [l1, l2] :=
  rowsLit [v1, v2] [l1, l2] e rfl (by simp) (fun i hi => by
    have : i = 0 ∨ i = 1 := by simp at hi; omega
    rcases this with rfl | rfl
    · exact h1
    · exact h2) hb
theorem rowsNil (w : World) : SlRows w (.slice none 0 0) [] := ⟨[], Sl.nil w 1, fun i hi => by simp at hi⟩
/-- lists of rows, one behind the other -/
theorem rowsAppend {w : World} {v : Value} {vs1 vs2 : List Value} {l1 l2 : List (List UInt8)} (h : Sl w 1 v (l1.length + l2.length) (vs1 ++ vs2)) (hl1 : vs1.length = l1.length)
    (h1 : ∀ i, i < l1.length → Sl w 1 (vs1.getD i undef) (l1.getD i []).length (u8s (l1.getD i []))) (h2 : ∀ i, i < l2.length → Sl w 1 (vs2.getD i undef) (l2.getD i []).length (u8s (l2.getD i []))) : SlRows w v (l1 ++ l2) := by
  refine ⟨vs1 ++ vs2, by rw [List.length_append]; exact h, fun i hi => ?_⟩
  by_cases hi1 : i < l1.length
  · have := h1 i hi1
    simpa [List.getD, List.getElem?_append_left hi1, List.getElem?_append_left (show i < vs1.length by omega)] using this
  · have := h2 (i - l1.length) (by rw [List.length_append] at hi; omega)
    simpa [List.getD, List.getElem?_append_right (show l1.length ≤ i by omega), List.getElem?_append_right (show vs1.length ≤ i by omega), hl1] using this
theorem SlRows.mem {w : World} {v : Value} {ls : List (List UInt8)} (h : SlRows w v ls) : ls.length ≤ maxLen := by
  obtain ⟨vs, h1, _⟩ := h
  exact h1.le
theorem rows_ones {w : World} {vs : List Value} {ls : List (List UInt8)} (hl : vs.length = ls.length) (h : ∀ i, i < ls.length → Sl w 1 (vs.getD i undef) (ls.getD i []).length (u8s (ls.getD i []))) : ∀ u ∈ vs, u.oneCell' = true := by
  intro u hu
  obtain ⟨i, hi, rfl⟩ := List.getElem_of_mem hu
  have := (h i (by omega)).one
  simpa [List.getD, hi] using this
theorem _root_.Go.Proofs.Ytmdkgggbibdkmaa.L.Sl.shape {w : World} {s n : Nat} {v : Value} {xs : List Value} (h : Sl w s v n xs) : ∃ ao cap, v = .slice ao n cap := by
  obtain ⟨_, ao, cap, rfl, _⟩ := h
  exact ⟨_, _, rfl⟩
theorem spoilB {w : World} {v : Value} {l : List UInt8} {W0 : World} (h : OwnB w W0.heap.size v l) (hb : Below W0.heap.size W0 w) (hl : l.length ≤ 100000000000) :
    Calls Try.prog 17 #[v] w fun e w' => e = .returned (.tuple #[]) ∧ Below W0.heap.size W0 w' := by
  rcases h with h | ⟨rfl, a, rfl⟩
  · exact (spoil_any ((Hold.start W0).addRow hb h) (by omega)).mono fun e w' ⟨he, hH⟩ => ⟨he, hH.old⟩
  · exact (spoil_zero a w).mono fun e w' ⟨he, hb'⟩ => ⟨he, hb.trans (hb'.mono hb.size)⟩
theorem OwnB.below {w w' : World} {B : Nat} {v : Value} {l : List UInt8} (h : OwnB w B v l) (hb : Below w.heap.size w w') : OwnB w' B v l := by
  rcases h with h | h
  · exact .inl (h.below hb)
  · exact .inr h
theorem u8ss_eq (ls : List (List UInt8)) : ls.map u8s = u8ss ls := rfl
theorem join_at {w : World} {va : Value} {ls : List (List UInt8)} (h : SlRows w va ls) (hn : ls.length ≤ 140737488355328) (hlen : ls.flatten.length ≤ 140737488355328) :
    Calls Try.prog 22 #[va] w (RetV fun v' w' => OwnB w' w.heap.size v' ls.flatten ∧ Below w.heap.size w w') := by
  obtain ⟨vs, hvs⟩ := h.reads
  exact join_any (Hold.start w) va vs ls (hvs _) hn hlen
theorem sum_at {w : World} {va : Value} {ls : List (List UInt8)} (h : SlRows w va ls) :
    Calls Try.prog 23 #[va] w fun e w' => e = .returned (.int .u32 (Crc.sum ls.flatten).toNat) ∧ w = w' := by
  obtain ⟨vs, hvs⟩ := h.reads
  exact sum_any (Hold.start w) va vs ls (hvs _)
end Go.Proofs.Ytmdkgggbibdkmaa.Oct
