/-
  Texts that the proofs of this seat stand on, one behind the other: contracts of functions and plain lemmas. Conditions: those that each theorem states.
-/
import Derived.Test.YtkbfjgmgckbogaaOctetWr
/-
  The Reader of chapter 1: NewReader, Bad, Good, Whole, Left, Raw, Num, Bytes: what they take.
-/

namespace Go.Proofs.Ytkbfjgmgckbogaa.Oct
open Go.RowKit L
/-- a Reader at a block of its own: what is left, and whether it erred -/
def Rd (b : Nat) (l : List UInt8) (bad : Bool) : Asrt where
  at_ F w := ∃ v, w.heap[b]? = some (.cells #[v, .bool bad] 96 (0, 0)) ∧ Sl w 1 v l.length (u8s l) ∧ (0 < l.length → v.ownBlock ≠ some b) ∧ ∀ k, F k ↔ k = b ∨ (v.ownBlock = some k ∧ 0 < l.length)
  stay := by
    rintro F w w' ⟨v, h1, h2, h3, h4⟩ hk
    refine ⟨v, by rw [hk b ((h4 b).2 (.inl rfl))]; exact h1, ?_, h3, h4⟩
    by_cases hl : 0 < l.length
    · exact h2.kept fun k e => hk k ((h4 k).2 (.inr ⟨e, hl⟩))
    · exact h2.none (by omega)
  lt := by
    rintro F w ⟨v, h1, h2, h3, h4⟩ k hk
    rcases (h4 k).1 hk with rfl | ⟨h, hl⟩
    · exact (Array.getElem?_eq_some_iff.1 h1).1
    · exact h2.lt (by omega) k h
theorem addRd {W0 w w1 : World} {R : Asrt} {v : Value} {l : List UInt8} (h : Hold W0 R w) (hb : Below w.heap.size w w1) (ho : Own w1 w.heap.size 5 1 v l.length (u8s l)) :
    Hold W0 ((Rd w1.heap.size l false).sep R) (w1.alloc (.cells #[v, .bool false] 96)) := by
  refine h.add (hb.alloc hb.size _) (A := Rd w1.heap.size l false) (F := fun k => k = w1.heap.size ∨ (v.ownBlock = some k ∧ 0 < l.length)) ⟨v, heap_alloc_new w1 _, (ho.alloc _).sl, fun _ e => ?_, fun k => Iff.rfl⟩ ?_
  · have := (ho.lt _ e).2
    omega
  · rintro k (rfl | ⟨e, _⟩)
    · exact hb.size
    · exact (ho.lt k e).1
theorem newReader_any {W0 w : World} {R : Asrt} (h : Hold W0 R w) (v : Value) (l : List UInt8) (hv : Sl w 1 v l.length (u8s l)) (hn : l.length ≤ 140737488355328) :
    Calls Try.prog 39 #[v] w (RetV fun p w' => ∃ b, p = .pointer (some ⟨b, 0, none⟩) ∧ Hold W0 ((Rd b l false).sep R) w') := by
  go_enter Try.func39, Try.ntmps39
  go_wp2_with fail
  refine (clone_any v l _ hv hn).mono ?_
  rintro e w1 ⟨v', rfl, hown, hb⟩
  obtain ⟨ao, cap, rfl⟩ := hown.shape
  have hH := addRd h hb hown
  have HH := Lib.hid hH
  clear hH hown hb
  go_wp2
  go_ret
  exact ⟨_, rfl, _, rfl, HH.out⟩
theorem bad_any {W0 w : World} {R : Asrt} {b : Nat} {l : List UInt8} {bad : Bool} (h : Hold W0 ((Rd b l bad).sep R) w) :
    Calls Try.prog 58 #[.pointer (some ⟨b, 0, none⟩)] w fun e w' => e = .returned (.tuple #[]) ∧ Hold W0 ((Rd b [] true).sep R) w' := by
  obtain ⟨F, ⟨v, hb, hsl, hne, hF⟩, hge, hup⟩ := h.take
  have hc0 : w.cell? ⟨b, 0, none⟩ = some v := blk_cell hb 0
  have hc1 : w.cell? ⟨b, 1, none⟩ = some (.bool bad) := blk_cell hb 1
  have hf0 := blk_free hb 0
  have hf1 := blk_free hb 1
  have hs0 := blk_set hb 0 (.slice none 0 0)
  have hs1 := blk_set hs0 1 (.bool true)
  have hfin := hup ((w.setCell ⟨b, 0, none⟩ (.slice none 0 0)).setCell ⟨b, 1, none⟩ (.bool true)) (Rd b [] true) (fun k => k = b)
    (((Keeps.refl F w).setCell (fun _ => (hF b).2 (.inl rfl)) _).setCell (fun _ => (hF b).2 (.inl rfl)) _)
    ⟨.slice none 0 0, hs1, Sl.nil _ _, by simp, fun k => by simp⟩ (fun k hk => .inl ((hF k).2 (.inl hk)))
  have hc1' := blk_cell hs0 1
  have hf1' := blk_free hs0 1
  have Hfin := Lib.hid hfin
  clear hfin hup hge hs1 hs0
  go_enter Try.func58, Try.ntmps58
  go_wp2
  go_end0
  exact ⟨rfl, Hfin.out⟩
theorem good_any {W0 w : World} {R : Asrt} {b : Nat} {l : List UInt8} {bad : Bool} (h : Hold W0 ((Rd b l bad).sep R) w) :
    Calls Try.prog 60 #[.pointer (some ⟨b, 0, none⟩)] w fun e w' => e = .returned (.bool !bad) ∧ w = w' := by
  obtain ⟨F, v, hb, hsl, hne, hF⟩ := h.fst
  have hc1 : w.cell? ⟨b, 1, none⟩ = some (.bool bad) := blk_cell hb 1
  go_enter Try.func60, Try.ntmps60
  go_wp2
  go_ret
  exact ⟨rfl, rfl⟩
end Go.Proofs.Ytkbfjgmgckbogaa.Oct

/-
  The Reader of chapter 1: Left, Whole, Raw, Num, Bytes: what they take.
-/

namespace Go.Proofs.Ytkbfjgmgckbogaa.Oct
open Go.RowKit L
/-- what was taken, or d; what is left, or nothing -/
def got {α : Type} (d : α) (o : Option (α × List UInt8)) : α := (o.map Prod.fst).getD d
def left {α : Type} (o : Option (α × List UInt8)) : List UInt8 := (o.map Prod.snd).getD []
/-- raw bytes taken -/
def decRaw (n : Int) (l : List UInt8) : Option (List UInt8 × List UInt8) := if 0 ≤ n ∧ n ≤ l.length then some (l.take n.toNat, l.drop n.toNat) else none
theorem decRow_raw (l : List UInt8) (bad : Bool) : got [] (decRow l) = got [] (decRaw (got 0 (dec 0 0 l) : Nat) (left (dec 0 0 l))) ∧ left (decRow l) = left (decRaw (got 0 (dec 0 0 l) : Nat) (left (dec 0 0 l))) ∧
    (bad || (decRow l).isNone) = ((bad || (dec 0 0 l).isNone) || (decRaw (got 0 (dec 0 0 l) : Nat) (left (dec 0 0 l))).isNone) := by
  unfold decRow
  cases h : dec 0 0 l with
  | none => simp [got, left, decRaw]
  | some p =>
    obtain ⟨n, r⟩ := p
    by_cases hn : n ≤ r.length
    · simp [got, left, decRaw, hn]
    · simp [got, left, decRaw, hn]
theorem whole_any {W0 w : World} {R : Asrt} {b : Nat} {l : List UInt8} {bad : Bool} (h : Hold W0 ((Rd b l bad).sep R) w) :
    Calls Try.prog 42 #[.pointer (some ⟨b, 0, none⟩)] w fun e w' => e = .returned (.bool (!bad && l.isEmpty)) ∧ w = w' := by
  obtain ⟨F, v, hb, hsl, hne, hF⟩ := h.fst
  have hc0 : w.cell? ⟨b, 0, none⟩ = some v := blk_cell hb 0
  have hlen := hsl.run_len Try.underlying33
  go_enter Try.func42, Try.ntmps42
  go_wp2_with fail
  refine (good_any h).mono ?_
  rintro e w1 ⟨rfl, rfl⟩
  cases bad with
  | true =>
    go_wp2
    go_ret
    exact ⟨rfl, rfl⟩
  | false =>
    go_wp2
    go_ret
    exact ⟨ret_bool (by cases l <;> simp <;> omega), rfl⟩
/-- the beginning of what is left is taken -/
theorem rd_cut {W0 w : World} {R : Asrt} {b : Nat} {l : List UInt8} {bad : Bool} {v v' : Value} (h : Hold W0 ((Rd b l bad).sep R) w) (hb : w.heap[b]? = some (.cells #[v, .bool bad] 96 (0, 0))) (n : Nat)
    (hsl : Sl w 1 v' (l.length - n) (u8s (l.drop n))) (ho : v'.ownBlock = v.ownBlock) : Hold W0 ((Rd b (l.drop n) bad).sep R) (w.setCell ⟨b, 0, none⟩ v') := by
  obtain ⟨F, ⟨v0, hb0, hsl0, hne, hF⟩, hge, hup⟩ := h.take
  rw [hb] at hb0
  simp only [Option.some.injEq, Obj.cells.injEq, and_true] at hb0
  have hv : v = v0 := by
    have := congrArg (fun a : Array Value => a[0]?) hb0
    simpa using this
  subst hv
  have hll : (l.drop n).length = l.length - n := by simp
  refine hup _ (Rd b (l.drop n) bad) (fun k => k = b ∨ (v'.ownBlock = some k ∧ 0 < (l.drop n).length)) ((Keeps.refl F w).setCell (fun _ => (hF b).2 (.inl rfl)) _) ⟨v', blk_set hb 0 v', ?_, ?_, fun k => Iff.rfl⟩ ?_
  · rw [hll]
    by_cases hl : 0 < l.length - n
    · refine hsl.kept fun k e => Below.heap_setCell _ _ _ _ fun e2 => hne (by omega) ?_
      rw [← ho, e, e2]
    · exact hsl.none (by omega)
  · intro hl
    rw [ho]
    exact hne (by omega)
  · rintro k (rfl | ⟨e, hl⟩)
    · exact .inl ((hF k).2 (.inl rfl))
    · exact .inl ((hF k).2 (.inr ⟨by rw [← ho]; exact e, by omega⟩))
theorem rd_heap {w w' : World} {b : Nat} {bad : Bool} {v : Value} (hb : w.heap[b]? = some (.cells #[v, .bool bad] 96 (0, 0))) (hk : Below w.heap.size w w') : w'.heap[b]? = some (.cells #[v, .bool bad] 96 (0, 0)) := by
  rw [hk.block b (Array.getElem?_eq_some_iff.1 hb).1, hb]
theorem u8s_drop (l : List UInt8) (n : Nat) : (u8s l).drop n = u8s (l.drop n) := by simp [u8s]
theorem u8s_take (l : List UInt8) (n : Nat) : (u8s l).take n = u8s (l.take n) := by simp [u8s]
set_option maxHeartbeats 800000 in
theorem rraw_any {W0 w : World} {R : Asrt} {b : Nat} {l : List UInt8} {bad : Bool} (h : Hold W0 ((Rd b l bad).sep R) w) (n : Int) (hl : l.length ≤ 140737488355328) :
    Calls Try.prog 59 #[.pointer (some ⟨b, 0, none⟩), .int .i64 n] w (RetV fun v' w' => Hold W0 ((Row 5 1 v' (got [] (decRaw n l)).length (u8s (got [] (decRaw n l)))).sep ((Rd b (left (decRaw n l)) (bad || (decRaw n l).isNone)).sep R)) w') := by
  obtain ⟨F, v, hb, hsl, hne, hF⟩ := h.fst
  have hc0 : w.cell? ⟨b, 0, none⟩ = some v := blk_cell hb 0
  have hlen := hsl.run_len Try.underlying33
  by_cases hok : 0 ≤ n ∧ n ≤ l.length
  · obtain ⟨m, rfl⟩ : ∃ m : Nat, n = m := ⟨n.toNat, by omega⟩
    have hm : m ≤ l.length := by omega
    have e0 : decRaw (m : Int) l = some (l.take m, l.drop m) := by simp [decRaw, hm]
    rw [e0]
    obtain ⟨v1, hr1, hs1, ho1⟩ := run_slice_sl (P := Try.prog) hsl Try.underlying33 Try.size5 none (some (.int .i64 (m : Int))) 0 m (.inl ⟨rfl, rfl⟩) (.inr ⟨_, rfl⟩) (Nat.zero_le _) hm
    have hx1 : Sl w 1 v1 (l.take m).length (u8s (l.take m)) := by
      rw [List.length_take, Nat.min_eq_left hm]
      simpa [u8s_take] using hs1
    have Hne := Lib.hid hne
    have HF := Lib.hid hF
    have Hb := Lib.hid hb
    clear hne hF hb hs1
    obtain ⟨h1, h2⟩ := hok
    go_enter Try.func59, Try.ntmps59
    go_wp2_with fail
    refine (clone_any v1 (l.take m) w hx1 (by rw [List.length_take]; omega)).mono ?_
    rintro e w1 ⟨vc, rfl, hown, hbl⟩
    have hbl' := rd_heap Hb.out hbl
    have hc1 : w1.cell? ⟨b, 0, none⟩ = some v := blk_cell hbl' 0
    have hf1 := blk_free hbl' 0
    obtain ⟨v2, hr2, hs2, ho2⟩ := run_slice_sl (P := Try.prog) (hsl.below' hbl) Try.underlying33 Try.size5 (some (.int .i64 (m : Int))) none m l.length (.inr ⟨_, rfl⟩) (.inl ⟨rfl, rfl⟩) hm (Nat.le_refl _)
    have hcut : Sl w1 1 v2 (l.length - m) (u8s (l.drop m)) := by
      rw [Nat.mul_one, Nat.mul_one, u8s_drop, List.take_of_length_le (by rw [u8s_length]; simp)] at hs2
      exact hs2
    have hH2 := (rd_cut (h.addRow hbl hown).up2 hbl' m hcut ho2).up2
    obtain ⟨ao2, cap2, rfl⟩ : ∃ ao cap, v2 = .slice ao (l.length - m) cap := by
      obtain ⟨_, ao, cap, rfl, _⟩ := hs2
      exact ⟨_, _, rfl⟩
    have HH := Lib.hid hH2
    clear hH2 hcut hs2 hown ho2 ho1 hbl hbl'
    go_wp2
    go_ret
    exact ⟨vc, rfl, by simpa [got, left] using HH.out⟩
  · have e0 : decRaw n l = none := by simp only [decRaw, if_neg hok]
    rw [e0]
    have Hne := Lib.hid hne
    have HF := Lib.hid hF
    clear hne hF
    by_cases hn : n < 0
    all_goals
      go_enter Try.func59, Try.ntmps59
      go_wp2_with fail
      refine (bad_any h).mono ?_
      rintro e w1 ⟨rfl, hH⟩
      have HH := Lib.hid (hH.addRow (Below.refl _ _) (Own.nil w1 w1.heap.size 5 1))
      clear hH
      go_wp2
      go_ret
      exact ⟨_, rfl, by simpa [got, left, u8s] using HH.out⟩
end Go.Proofs.Ytkbfjgmgckbogaa.Oct
