/-
  The Reader of chapter 1: NewReader, Bad, Good, Whole, Left, Raw, Num, Bytes: what they take.
-/
import Derived.Test.YtgmnpgohkabfcaaOctetWr
namespace Go.Proofs.Ytgmnpgohkabfcaa.Oct
open Go.RowKit L
/-- a Reader at a block of its own: what is left, and whether it erred -/
def Rd (b : Nat) (l : List UInt8) (bad : Bool) : Asrt where
  at_ F w := ∃ v, w.heap[b]? = some (.cells #[v, .bool bad] 77 (0, 0)) ∧ Sl w 1 v l.length (u8s l) ∧ (0 < l.length → v.ownBlock ≠ some b) ∧ ∀ k, F k ↔ k = b ∨ (v.ownBlock = some k ∧ 0 < l.length)
  stay := by
    rintro F w w' ⟨v, h1, h2, h3, h4⟩ hk
    refine ⟨v, by rw [hk b ((h4 b).2 (.inl rfl))]; exact h1, ?_, h3, h4⟩
    by_cases hl : 0 < l.length
    · exact h2.kept fun k e => hk k ((h4 k).2 (.inr ⟨e, hl⟩))
    · exact h2.none (by omega)
  lt := by
    rintro F w ⟨v, h1, h2, h3, h4⟩ k hk
    rcases (h4 k).1 hk with rfl | ⟨h, hl⟩
    · exact (Array.getElem?_eq_some_iff.1 h1).1
    · exact h2.lt (by omega) k h
theorem addRd {W0 w w1 : World} {R : Asrt} {v : Value} {l : List UInt8} (h : Hold W0 R w) (hb : Below w.heap.size w w1) (ho : Own w1 w.heap.size 5 1 v l.length (u8s l)) :
    Hold W0 ((Rd w1.heap.size l false).sep R) (w1.alloc (.cells #[v, .bool false] 77)) := by
  refine h.add (hb.alloc hb.size _) (A := Rd w1.heap.size l false) (F := fun k => k = w1.heap.size ∨ (v.ownBlock = some k ∧ 0 < l.length)) ⟨v, heap_alloc_new w1 _, (ho.alloc _).sl, fun _ e => ?_, fun k => Iff.rfl⟩ ?_
  · have := (ho.lt _ e).2
    omega
  · rintro k (rfl | ⟨e, _⟩)
    · exact hb.size
    · exact (ho.lt k e).1
theorem newReader_any {W0 w : World} {R : Asrt} (h : Hold W0 R w) (v : Value) (l : List UInt8) (hv : Sl w 1 v l.length (u8s l)) (hn : l.length ≤ 140737488355328) :
    Calls Try.prog 35 #[v] w (RetV fun p w' => ∃ b, p = .pointer (some ⟨b, 0, none⟩) ∧ Hold W0 ((Rd b l false).sep R) w') := by
  go_enter Try.func35, Try.ntmps35
  go_wp2_with fail
  refine (clone_any v l _ hv hn).mono ?_
  rintro e w1 ⟨v', rfl, hown, hb⟩
  obtain ⟨ao, cap, rfl⟩ := hown.shape
  have hH := addRd h hb hown
  have HH := Lib.hid hH
  clear hH hown hb
  go_wp2
  go_ret
  exact ⟨_, rfl, _, rfl, HH.out⟩
theorem bad_any {W0 w : World} {R : Asrt} {b : Nat} {l : List UInt8} {bad : Bool} (h : Hold W0 ((Rd b l bad).sep R) w) :
    Calls Try.prog 47 #[.pointer (some ⟨b, 0, none⟩)] w fun e w' => e = .returned (.tuple #[]) ∧ Hold W0 ((Rd b [] true).sep R) w' := by
  obtain ⟨F, ⟨v, hb, hsl, hne, hF⟩, hge, hup⟩ := h.take
  have hc0 : w.cell? ⟨b, 0, none⟩ = some v := blk_cell hb 0
  have hc1 : w.cell? ⟨b, 1, none⟩ = some (.bool bad) := blk_cell hb 1
  have hf0 := blk_free hb 0
  have hf1 := blk_free hb 1
  have hs0 := blk_set hb 0 (.slice none 0 0)
  have hs1 := blk_set hs0 1 (.bool true)
  have hfin := hup ((w.setCell ⟨b, 0, none⟩ (.slice none 0 0)).setCell ⟨b, 1, none⟩ (.bool true)) (Rd b [] true) (fun k => k = b)
    (((Keeps.refl F w).setCell (fun _ => (hF b).2 (.inl rfl)) _).setCell (fun _ => (hF b).2 (.inl rfl)) _)
    ⟨.slice none 0 0, hs1, Sl.nil _ _, by simp, fun k => by simp⟩ (fun k hk => .inl ((hF k).2 (.inl hk)))
  have hc1' := blk_cell hs0 1
  have hf1' := blk_free hs0 1
  have Hfin := Lib.hid hfin
  clear hfin hup hge hs1 hs0
  go_enter Try.func47, Try.ntmps47
  go_wp2
  go_end0
  exact ⟨rfl, Hfin.out⟩
theorem good_any {W0 w : World} {R : Asrt} {b : Nat} {l : List UInt8} {bad : Bool} (h : Hold W0 ((Rd b l bad).sep R) w) :
    Calls Try.prog 48 #[.pointer (some ⟨b, 0, none⟩)] w fun e w' => e = .returned (.bool !bad) ∧ w = w' := by
  obtain ⟨F, v, hb, hsl, hne, hF⟩ := h.fst
  have hc1 : w.cell? ⟨b, 1, none⟩ = some (.bool bad) := blk_cell hb 1
  go_enter Try.func48, Try.ntmps48
  go_wp2
  go_ret
  exact ⟨rfl, rfl⟩
end Go.Proofs.Ytgmnpgohkabfcaa.Oct
