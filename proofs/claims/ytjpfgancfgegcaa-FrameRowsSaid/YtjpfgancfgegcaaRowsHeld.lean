/-
  Rows of bytes that a call makes: the outer cells, and each row, in memory of their own.
-/
import Derived.Test.YtjpfgancfgegcaaOctetBase
namespace Go.Proofs.Ytjpfgancfgegcaa.L
open Go.RowKit Oct
/-- the rows that some values are, read alone -/
def Inner (vs : List Value) (ls : List (List UInt8)) : Asrt where
  at_ F w := vs.length = ls.length ∧ (∀ i, i < ls.length → Sl w 1 (vs.getD i undef) (ls.getD i []).length (u8s (ls.getD i []))) ∧ ∀ k, F k ↔ ∃ i, i < ls.length ∧ (vs.getD i undef).ownBlock = some k ∧ 0 < (ls.getD i []).length
  stay := by
    rintro F w w' ⟨h1, h2, h3⟩ hk
    refine ⟨h1, fun i hi => ?_, h3⟩
    by_cases hl : 0 < (ls.getD i []).length
    · exact (h2 i hi).kept fun b hb => hk b ((h3 b).2 ⟨i, hi, hb, hl⟩)
    · exact (h2 i hi).none (by omega)
  lt := by
    rintro F w ⟨h1, h2, h3⟩ k hk
    obtain ⟨i, hi, hb, hl⟩ := (h3 k).1 hk
    exact (h2 i hi).lt (by omega) k hb
section
variable {W0 w w' : World} {R : Asrt} {vs : List Value} {ls : List (List UInt8)} {v : Value} {l : List UInt8}
theorem Hold.addInnerNil (h : Hold W0 R w) : Hold W0 ((Inner [] []).sep R) w :=
  h.add (Below.refl _ _) (A := Inner [] []) (F := fun _ => False) ⟨rfl, fun i hi => by simp at hi, fun k => by simp⟩ fun _ h => h.elim
theorem Hold.inner (h : Hold W0 ((Inner vs ls).sep R) w) : vs.length = ls.length ∧ ∀ i, i < ls.length → Sl w 1 (vs.getD i undef) (ls.getD i []).length (u8s (ls.getD i [])) := by
  obtain ⟨F, ⟨h1, h2, _⟩, _⟩ := h.take
  exact ⟨h1, h2⟩
/-- one row more -/
theorem Hold.addInner (h : Hold W0 ((Inner vs ls).sep R) w) (hb : Below w.heap.size w w') (ho : Own w' w.heap.size 5 1 v l.length (u8s l)) : Hold W0 ((Inner (vs ++ [v]) (ls ++ [l])).sep R) w' := by
  obtain ⟨F, hA, hge, hup⟩ := h.take
  have hA' := (Inner vs ls).stay hA fun k hk => hb.block k ((Inner vs ls).lt hA k hk)
  obtain ⟨h1, h2, h3⟩ := hA'
  have hlow : ∀ i, i < ls.length → (vs ++ [v]).getD i undef = vs.getD i undef ∧ (ls ++ [l]).getD i [] = ls.getD i [] := by
    intro i hi
    simp [List.getD, List.getElem?_append_left hi, List.getElem?_append_left (show i < vs.length by omega)]
  have hnew : (vs ++ [v]).getD ls.length undef = v ∧ (ls ++ [l]).getD ls.length [] = l := by
    rw [← h1]
    simp [List.getD, h1]
  refine hup w' (Inner (vs ++ [v]) (ls ++ [l])) (fun k => F k ∨ (v.ownBlock = some k ∧ 0 < l.length)) (Keeps.of_below hb) ⟨by simp [h1], fun i hi => ?_, fun k => ?_⟩ ?_
  · by_cases hi2 : i < ls.length
    · rw [(hlow i hi2).1, (hlow i hi2).2]
      exact h2 i hi2
    · have : i = ls.length := by simp at hi; omega
      subst this
      rw [hnew.1, hnew.2]
      exact ho.sl
  · constructor
    · rintro (hk | ⟨hk, hl⟩)
      · obtain ⟨i, hi, hb2, hl⟩ := (h3 k).1 hk
        exact ⟨i, by simp; omega, by rw [(hlow i hi).1]; exact hb2, by rw [(hlow i hi).2]; exact hl⟩
      · exact ⟨ls.length, by simp, by rw [hnew.1]; exact hk, by rw [hnew.2]; exact hl⟩
    · rintro ⟨i, hi, hb2, hl⟩
      by_cases hi2 : i < ls.length
      · rw [(hlow i hi2).1] at hb2
        rw [(hlow i hi2).2] at hl
        exact .inl ((h3 k).2 ⟨i, hi2, hb2, hl⟩)
      · have : i = ls.length := by simp at hi; omega
        subst this
        rw [hnew.1] at hb2
        rw [hnew.2] at hl
        exact .inr ⟨hb2, hl⟩
  · rintro k (hk | ⟨hk, _⟩)
    · exact .inl hk
    · exact .inr (ho.lt k hk).1
/-- outer cells and rows, read -/
theorem Hold.rowsAt {n : Nat} (h : Hold W0 ((Row 22 1 v n vs).sep ((Inner vs ls).sep R)) w) (hn : n = ls.length) : SlRows w v ls := by
  subst hn
  exact ⟨vs, h.sl, h.drop1.inner.2⟩
end
end Go.Proofs.Ytjpfgancfgegcaa.L
