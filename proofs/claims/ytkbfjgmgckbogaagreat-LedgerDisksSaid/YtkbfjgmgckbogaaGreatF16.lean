/-
  Texts that the proofs of this seat stand on, one behind the other: contracts of functions and plain lemmas. Conditions: those that each theorem states.
-/
import Derived.Test.YtkbfjgmgckbogaaGreatOctetWr
import Derived.Test.YtkbfjgmgckbogaaGreatF5
/-
  The Reader of chapter 1: NewReader, Bad, Good, Whole, Left, Raw, Num, Bytes: what they take.
-/

namespace Go.Proofs.YtkbfjgmgckbogaaGreat.Oct
open Go.RowKit L
/-- a Reader at a block of its own: what is left, and whether it erred -/
def Rd (b : Nat) (l : List UInt8) (bad : Bool) : Asrt where
  at_ F w := ∃ v, w.heap[b]? = some (.cells #[v, .bool bad] 132 (0, 0)) ∧ Sl w 1 v l.length (u8s l) ∧ (0 < l.length → v.ownBlock ≠ some b) ∧ ∀ k, F k ↔ k = b ∨ (v.ownBlock = some k ∧ 0 < l.length)
  stay := by
    rintro F w w' ⟨v, h1, h2, h3, h4⟩ hk
    refine ⟨v, by rw [hk b ((h4 b).2 (.inl rfl))]; exact h1, ?_, h3, h4⟩
    by_cases hl : 0 < l.length
    · exact h2.kept fun k e => hk k ((h4 k).2 (.inr ⟨e, hl⟩))
    · exact h2.none (by omega)
  lt := by
    rintro F w ⟨v, h1, h2, h3, h4⟩ k hk
    rcases (h4 k).1 hk with rfl | ⟨h, hl⟩
    · exact (Array.getElem?_eq_some_iff.1 h1).1
    · exact h2.lt (by omega) k h
theorem addRd {W0 w w1 : World} {R : Asrt} {v : Value} {l : List UInt8} (h : Hold W0 R w) (hb : Below w.heap.size w w1) (ho : Own w1 w.heap.size 5 1 v l.length (u8s l)) :
    Hold W0 ((Rd w1.heap.size l false).sep R) (w1.alloc (.cells #[v, .bool false] 132)) := by
  refine h.add (hb.alloc hb.size _) (A := Rd w1.heap.size l false) (F := fun k => k = w1.heap.size ∨ (v.ownBlock = some k ∧ 0 < l.length)) ⟨v, heap_alloc_new w1 _, (ho.alloc _).sl, fun _ e => ?_, fun k => Iff.rfl⟩ ?_
  · have := (ho.lt _ e).2
    omega
  · rintro k (rfl | ⟨e, _⟩)
    · exact hb.size
    · exact (ho.lt k e).1
theorem newReader_any {W0 w : World} {R : Asrt} (h : Hold W0 R w) (v : Value) (l : List UInt8) (hv : Sl w 1 v l.length (u8s l)) (hn : l.length ≤ 140737488355328) :
    Calls Tryz.prog 56 #[v] w (RetV fun p w' => ∃ b, p = .pointer (some ⟨b, 0, none⟩) ∧ Hold W0 ((Rd b l false).sep R) w') := by
  go_enter Tryz.func56, Tryz.ntmps56
  go_wp2_with fail
  refine (clone_any v l _ hv hn).mono ?_
  rintro e w1 ⟨v', rfl, hown, hb⟩
  obtain ⟨ao, cap, rfl⟩ := hown.shape
  have hH := addRd h hb hown
  have HH := Lib.hid hH
  clear hH hown hb
  go_wp2
  go_ret
  exact ⟨_, rfl, _, rfl, HH.out⟩
theorem bad_any {W0 w : World} {R : Asrt} {b : Nat} {l : List UInt8} {bad : Bool} (h : Hold W0 ((Rd b l bad).sep R) w) :
    Calls Tryz.prog 82 #[.pointer (some ⟨b, 0, none⟩)] w fun e w' => e = .returned (.tuple #[]) ∧ Hold W0 ((Rd b [] true).sep R) w' := by
  obtain ⟨F, ⟨v, hb, hsl, hne, hF⟩, hge, hup⟩ := h.take
  have hc0 : w.cell? ⟨b, 0, none⟩ = some v := blk_cell hb 0
  have hc1 : w.cell? ⟨b, 1, none⟩ = some (.bool bad) := blk_cell hb 1
  have hf0 := blk_free hb 0
  have hf1 := blk_free hb 1
  have hs0 := blk_set hb 0 (.slice none 0 0)
  have hs1 := blk_set hs0 1 (.bool true)
  have hfin := hup ((w.setCell ⟨b, 0, none⟩ (.slice none 0 0)).setCell ⟨b, 1, none⟩ (.bool true)) (Rd b [] true) (fun k => k = b)
    (((Keeps.refl F w).setCell (fun _ => (hF b).2 (.inl rfl)) _).setCell (fun _ => (hF b).2 (.inl rfl)) _)
    ⟨.slice none 0 0, hs1, Sl.nil _ _, by simp, fun k => by simp⟩ (fun k hk => .inl ((hF k).2 (.inl hk)))
  have hc1' := blk_cell hs0 1
  have hf1' := blk_free hs0 1
  have Hfin := Lib.hid hfin
  clear hfin hup hge hs1 hs0
  go_enter Tryz.func82, Tryz.ntmps82
  go_wp2
  go_end0
  exact ⟨rfl, Hfin.out⟩
theorem good_any {W0 w : World} {R : Asrt} {b : Nat} {l : List UInt8} {bad : Bool} (h : Hold W0 ((Rd b l bad).sep R) w) :
    Calls Tryz.prog 84 #[.pointer (some ⟨b, 0, none⟩)] w fun e w' => e = .returned (.bool !bad) ∧ w = w' := by
  obtain ⟨F, v, hb, hsl, hne, hF⟩ := h.fst
  have hc1 : w.cell? ⟨b, 1, none⟩ = some (.bool bad) := blk_cell hb 1
  go_enter Tryz.func84, Tryz.ntmps84
  go_wp2
  go_ret
  exact ⟨rfl, rfl⟩
end Go.Proofs.YtkbfjgmgckbogaaGreat.Oct

/-
  The Reader of chapter 1: Left, Whole, Raw, Num, Bytes: what they take.
-/

namespace Go.Proofs.YtkbfjgmgckbogaaGreat.Oct
open Go.RowKit L
/-- what was taken, or d; what is left, or nothing -/
def got {α : Type} (d : α) (o : Option (α × List UInt8)) : α := (o.map Prod.fst).getD d
def left {α : Type} (o : Option (α × List UInt8)) : List UInt8 := (o.map Prod.snd).getD []
/-- raw bytes taken -/
def decRaw (n : Int) (l : List UInt8) : Option (List UInt8 × List UInt8) := if 0 ≤ n ∧ n ≤ l.length then some (l.take n.toNat, l.drop n.toNat) else none
theorem decRow_raw (l : List UInt8) (bad : Bool) : got [] (decRow l) = got [] (decRaw (got 0 (dec 0 0 l) : Nat) (left (dec 0 0 l))) ∧ left (decRow l) = left (decRaw (got 0 (dec 0 0 l) : Nat) (left (dec 0 0 l))) ∧
    (bad || (decRow l).isNone) = ((bad || (dec 0 0 l).isNone) || (decRaw (got 0 (dec 0 0 l) : Nat) (left (dec 0 0 l))).isNone) := by
  unfold decRow
  cases h : dec 0 0 l with
  | none => simp [got, left, decRaw]
  | some p =>
    obtain ⟨n, r⟩ := p
    by_cases hn : n ≤ r.length
    · simp [got, left, decRaw, hn]
    · simp [got, left, decRaw, hn]
theorem whole_any {W0 w : World} {R : Asrt} {b : Nat} {l : List UInt8} {bad : Bool} (h : Hold W0 ((Rd b l bad).sep R) w) :
    Calls Tryz.prog 59 #[.pointer (some ⟨b, 0, none⟩)] w fun e w' => e = .returned (.bool (!bad && l.isEmpty)) ∧ w = w' := by
  obtain ⟨F, v, hb, hsl, hne, hF⟩ := h.fst
  have hc0 : w.cell? ⟨b, 0, none⟩ = some v := blk_cell hb 0
  have hlen := hsl.run_len Tryz.underlying22
  go_enter Tryz.func59, Tryz.ntmps59
  go_wp2_with fail
  refine (good_any h).mono ?_
  rintro e w1 ⟨rfl, rfl⟩
  cases bad with
  | true =>
    go_wp2
    go_ret
    exact ⟨rfl, rfl⟩
  | false =>
    go_wp2
    go_ret
    exact ⟨ret_bool (by cases l <;> simp <;> omega), rfl⟩
/-- the beginning of what is left is taken -/
theorem rd_cut {W0 w : World} {R : Asrt} {b : Nat} {l : List UInt8} {bad : Bool} {v v' : Value} (h : Hold W0 ((Rd b l bad).sep R) w) (hb : w.heap[b]? = some (.cells #[v, .bool bad] 132 (0, 0))) (n : Nat)
    (hsl : Sl w 1 v' (l.length - n) (u8s (l.drop n))) (ho : v'.ownBlock = v.ownBlock) : Hold W0 ((Rd b (l.drop n) bad).sep R) (w.setCell ⟨b, 0, none⟩ v') := by
  obtain ⟨F, ⟨v0, hb0, hsl0, hne, hF⟩, hge, hup⟩ := h.take
  rw [hb] at hb0
  simp only [Option.some.injEq, Obj.cells.injEq, and_true] at hb0
  have hv : v = v0 := by
    have := congrArg (fun a : Array Value => a[0]?) hb0
    simpa using this
  subst hv
  have hll : (l.drop n).length = l.length - n := by simp
  refine hup _ (Rd b (l.drop n) bad) (fun k => k = b ∨ (v'.ownBlock = some k ∧ 0 < (l.drop n).length)) ((Keeps.refl F w).setCell (fun _ => (hF b).2 (.inl rfl)) _) ⟨v', blk_set hb 0 v', ?_, ?_, fun k => Iff.rfl⟩ ?_
  · rw [hll]
    by_cases hl : 0 < l.length - n
    · refine hsl.kept fun k e => Below.heap_setCell _ _ _ _ fun e2 => hne (by omega) ?_
      rw [← ho, e, e2]
    · exact hsl.none (by omega)
  · intro hl
    rw [ho]
    exact hne (by omega)
  · rintro k (rfl | ⟨e, hl⟩)
    · exact .inl ((hF k).2 (.inl rfl))
    · exact .inl ((hF k).2 (.inr ⟨by rw [← ho]; exact e, by omega⟩))
theorem rd_heap {w w' : World} {b : Nat} {bad : Bool} {v : Value} (hb : w.heap[b]? = some (.cells #[v, .bool bad] 132 (0, 0))) (hk : Below w.heap.size w w') : w'.heap[b]? = some (.cells #[v, .bool bad] 132 (0, 0)) := by
  rw [hk.block b (Array.getElem?_eq_some_iff.1 hb).1, hb]
theorem u8s_drop (l : List UInt8) (n : Nat) : (u8s l).drop n = u8s (l.drop n) := by simp [u8s]
theorem u8s_take (l : List UInt8) (n : Nat) : (u8s l).take n = u8s (l.take n) := by simp [u8s]
set_option maxHeartbeats 800000 in
theorem rraw_any {W0 w : World} {R : Asrt} {b : Nat} {l : List UInt8} {bad : Bool} (h : Hold W0 ((Rd b l bad).sep R) w) (n : Int) (hl : l.length ≤ 140737488355328) :
    Calls Tryz.prog 83 #[.pointer (some ⟨b, 0, none⟩), .int .i64 n] w (RetV fun v' w' => Hold W0 ((Row 5 1 v' (got [] (decRaw n l)).length (u8s (got [] (decRaw n l)))).sep ((Rd b (left (decRaw n l)) (bad || (decRaw n l).isNone)).sep R)) w') := by
  obtain ⟨F, v, hb, hsl, hne, hF⟩ := h.fst
  have hc0 : w.cell? ⟨b, 0, none⟩ = some v := blk_cell hb 0
  have hlen := hsl.run_len Tryz.underlying22
  by_cases hok : 0 ≤ n ∧ n ≤ l.length
  · obtain ⟨m, rfl⟩ : ∃ m : Nat, n = m := ⟨n.toNat, by omega⟩
    have hm : m ≤ l.length := by omega
    have e0 : decRaw (m : Int) l = some (l.take m, l.drop m) := by simp [decRaw, hm]
    rw [e0]
    obtain ⟨v1, hr1, hs1, ho1⟩ := run_slice_sl (P := Tryz.prog) hsl Tryz.underlying22 Tryz.size5 none (some (.int .i64 (m : Int))) 0 m (.inl ⟨rfl, rfl⟩) (.inr ⟨_, rfl⟩) (Nat.zero_le _) hm
    have hx1 : Sl w 1 v1 (l.take m).length (u8s (l.take m)) := by
      rw [List.length_take, Nat.min_eq_left hm]
      simpa [u8s_take] using hs1
    have Hne := Lib.hid hne
    have HF := Lib.hid hF
    have Hb := Lib.hid hb
    clear hne hF hb hs1
    obtain ⟨h1, h2⟩ := hok
    go_enter Tryz.func83, Tryz.ntmps83
    go_wp2_with fail
    refine (clone_any v1 (l.take m) w hx1 (by rw [List.length_take]; omega)).mono ?_
    rintro e w1 ⟨vc, rfl, hown, hbl⟩
    have hbl' := rd_heap Hb.out hbl
    have hc1 : w1.cell? ⟨b, 0, none⟩ = some v := blk_cell hbl' 0
    have hf1 := blk_free hbl' 0
    obtain ⟨v2, hr2, hs2, ho2⟩ := run_slice_sl (P := Tryz.prog) (hsl.below' hbl) Tryz.underlying22 Tryz.size5 (some (.int .i64 (m : Int))) none m l.length (.inr ⟨_, rfl⟩) (.inl ⟨rfl, rfl⟩) hm (Nat.le_refl _)
    have hcut : Sl w1 1 v2 (l.length - m) (u8s (l.drop m)) := by
      rw [Nat.mul_one, Nat.mul_one, u8s_drop, List.take_of_length_le (by rw [u8s_length]; simp)] at hs2
      exact hs2
    have hH2 := (rd_cut (h.addRow hbl hown).up2 hbl' m hcut ho2).up2
    obtain ⟨ao2, cap2, rfl⟩ : ∃ ao cap, v2 = .slice ao (l.length - m) cap := by
      obtain ⟨_, ao, cap, rfl, _⟩ := hs2
      exact ⟨_, _, rfl⟩
    have HH := Lib.hid hH2
    clear hH2 hcut hs2 hown ho2 ho1 hbl hbl'
    go_wp2
    go_ret
    exact ⟨vc, rfl, by simpa [got, left] using HH.out⟩
  · have e0 : decRaw n l = none := by simp only [decRaw, if_neg hok]
    rw [e0]
    have Hne := Lib.hid hne
    have HF := Lib.hid hF
    clear hne hF
    by_cases hn : n < 0
    all_goals
      go_enter Tryz.func83, Tryz.ntmps83
      go_wp2_with fail
      refine (bad_any h).mono ?_
      rintro e w1 ⟨rfl, hH⟩
      have HH := Lib.hid (hH.addRow (Below.refl _ _) (Own.nil w1 w1.heap.size 5 1))
      clear hH
      go_wp2
      go_ret
      exact ⟨_, rfl, by simpa [got, left, u8s] using HH.out⟩
end Go.Proofs.YtkbfjgmgckbogaaGreat.Oct

/-
  Reader.Num of chapter 1: a number is taken; Reader.Bytes: a row.
-/

namespace Go.Proofs.YtkbfjgmgckbogaaGreat.Oct
open Go.RowKit L
theorem u8_and127 (c : UInt8) : bits .and .u8 (c.toNat : Int) 127 = ((c.toNat % 128 : Nat) : Int) := by
  have h : ∀ c : UInt8, bits .and .u8 (c.toNat : Int) 127 = ((c.toNat % 128 : Nat) : Int) := by
    intro c
    have h2 : ∀ a : Fin 256, bits .and .u8 (a.val : Int) 127 = ((a.val % 128 : Nat) : Int) := by decide +kernel
    exact h2 ⟨c.toNat, c.toNat_lt⟩
  exact h c
theorem or_digit (k m d : Nat) (hk : k < 9) (hm : m < 2 ^ (7 * k)) (hd : d < 128) : bits .or .u64 (m : Int) (IntKind.u64.wrap ((d : Int) * 2 ^ (7 * k))) = ((m + d * 2 ^ (7 * k) : Nat) : Int) := by
  have hp : 2 ^ (7 * k) ≤ 2 ^ 56 := Nat.pow_le_pow_right (by omega) (by omega)
  have h1 : d * 2 ^ (7 * k) ≤ 127 * 2 ^ 56 := Nat.mul_le_mul (by omega) hp
  have e1 : ((d : Int) * 2 ^ (7 * k)) = ((d * 2 ^ (7 * k) : Nat) : Int) := by simp
  have e2 : IntKind.u64.wrap ((d * 2 ^ (7 * k) : Nat) : Int) = ((d * 2 ^ (7 * k) : Nat) : Int) := by
    exact IntWalk.u64_in _ (by omega)
  rw [e1, e2, u64_or_nat _ _ (by omega) (by omega)]
  congr 1
  rw [Nat.or_comm, Nat.add_comm, ← Nat.shiftLeft_eq, Nat.shiftLeft_add_eq_or_of_lt hm]
set_option maxRecDepth 100000 in
set_option maxHeartbeats 1600000 in
theorem num_any {W0 w : World} {R : Asrt} {b : Nat} {l : List UInt8} {bad : Bool} (h : Hold W0 ((Rd b l bad).sep R) w) (hl : l.length ≤ 140737488355328) :
    Calls Tryz.prog 57 #[.pointer (some ⟨b, 0, none⟩)] w fun e w' => e = .returned (.int .i64 (got 0 (dec 0 0 l) : Nat)) ∧ Hold W0 ((Rd b (left (dec 0 0 l)) (bad || (dec 0 0 l).isNone)).sep R) w' := by
  obtain ⟨F, v, hb, hsl, hne, hF⟩ := h.fst
  have hlen := hsl.run_len Tryz.underlying22
  have hc0 : w.cell? ⟨b, 0, none⟩ = some v := blk_cell hb 0
  clear hne hF
  have Hb := Lib.hid hb
  clear hb
  obtain ⟨D, hD⟩ : ∃ D, D = dec 0 0 l := ⟨_, rfl⟩
  rw [← hD]
  go_enter Tryz.func57, Tryz.ntmps57
  go_wp2
  clear hc0
  go_loopw [13, 3] (fun i u wr => ∃ (k m : Nat), k ≤ l.length ∧ k ≤ 9 ∧ i = .int .i64 k ∧ u = .int .u64 m ∧ m < 2 ^ (7 * k) ∧ D = dec k m (l.drop k) ∧ Below w.heap.size w wr) (fun i _ _ => l.length - (intOf i).toNat)
  case atStart => exact ⟨0, 0, Nat.zero_le _, Nat.zero_le _, rfl, rfl, by decide, by simpa using hD, Below.refl _ _⟩
  case round =>
    clear hD
    obtain ⟨k, m, hk, hk9, rfl, rfl, hm, hDk, hbr⟩ := hrel
    have HH := h.keeps hbr
    by_cases hlt : k < l.length
    · obtain ⟨A, hA, hblk, hcell⟩ := run_indexAt_sl (P := Tryz.prog) (hsl.below' hbr) Tryz.underlying22 Tryz.size5 .i64 (k : Int) (by omega) (by omega)
      have hc := hcell 0 (by omega)
      rw [u8s_get _ _ (by omega)] at hc
      simp only [add_zero, Int.toNat_natCast, Nat.mul_one, Nat.add_zero] at hc
      obtain ⟨c, hcx⟩ : ∃ c, c = l.getD k 0 := ⟨_, rfl⟩
      rw [← hcx] at hc
      have hdr : l.drop k = c :: l.drop (k + 1) := by
        rw [List.drop_eq_getElem_cons hlt, hcx]
        simp [List.getD, hlt]
      rw [hdr] at hDk
      simp only [dec] at hDk
      clear hcell hcx hdr
      have hcl := c.toNat_lt
      by_cases hbrk : 9 ≤ k ∨ (0 < k ∧ c.toNat = 0)
      · rw [if_pos hbrk] at hDk
        subst hDk
        by_cases h9 : 9 ≤ k
        · go_wp2_with fail
          refine (bad_any HH).mono ?_
          rintro e w1 ⟨rfl, hH⟩
          go_wp2
          go_ret
          exact ⟨rfl, by simpa [left] using hH⟩
        · have hk0 : 0 < k := by omega
          have hc0 : c.toNat = 0 := by omega
          have hcc : ((c.toNat : Int) == 0) = true := by simp [hc0]
          clear hbrk
          go_wp2_with fail
          refine (bad_any HH).mono ?_
          rintro e w1 ⟨rfl, hH⟩
          go_wp2
          go_ret
          exact ⟨rfl, by simpa [left] using hH⟩
      · rw [if_neg hbrk] at hDk
        have hk9' : k < 9 := by omega
        obtain ⟨X, hX⟩ : ∃ X, X = m + c.toNat % 128 * 2 ^ (7 * k) := ⟨_, rfl⟩
        have hor : bits .or .u64 (m : Int) (IntKind.u64.wrap (IntKind.u64.wrap (bits .and .u8 (c.toNat : Int) 127) * 2 ^ (7 * k))) = (X : Int) := by
          have := or_digit k m (c.toNat % 128) hk9' hm (by omega)
          rw [← hX] at this
          rw [u8_and127, IntWalk.u64_in ((c.toNat % 128 : Nat) : Int) (by omega)]
          exact this
        have hXlt : X < 2 ^ (7 * (k + 1)) := by
          have h1 : 2 ^ (7 * (k + 1)) = 128 * 2 ^ (7 * k) := by rw [Nat.mul_succ, Nat.pow_add]; omega
          have h2 : c.toNat % 128 * 2 ^ (7 * k) ≤ 127 * 2 ^ (7 * k) := Nat.mul_le_mul_right _ (by omega)
          omega
        by_cases h128 : c.toNat < 128
        · rw [if_pos h128, ← show X = m + c.toNat * 2 ^ (7 * k) from by rw [hX, Nat.mod_eq_of_lt h128]] at hDk
          clear hX hXlt hm
          by_cases hbig : 4611686018427387904 < X
          · rw [if_pos hbig] at hDk
            subst hDk
            by_cases hk0 : 0 < k
            · have hcc : ((c.toNat : Int) == 0) = false := by simp; omega
              clear hbrk
              go_wp2_with fail
              refine (bad_any HH).mono ?_
              rintro e w1 ⟨rfl, hH⟩
              go_wp2
              go_ret
              exact ⟨rfl, by simpa [left] using hH⟩
            · clear hbrk
              go_wp2_with fail
              refine (bad_any HH).mono ?_
              rintro e w1 ⟨rfl, hH⟩
              go_wp2
              go_ret
              exact ⟨rfl, by simpa [left] using hH⟩
          · rw [if_neg hbig] at hDk
            subst hDk
            have hbr' := rd_heap Hb.out hbr
            have hc0 : wr.cell? ⟨b, 0, none⟩ = some v := blk_cell hbr' 0
            have hf0 := blk_free hbr' 0
            obtain ⟨v2, hr2, hs2, ho2⟩ := run_slice_sl (P := Tryz.prog) (hsl.below' hbr) Tryz.underlying22 Tryz.size5 (some (.int .i64 ((k : Int) + 1))) none (k + 1) l.length (.inr ⟨.i64, rfl⟩) (.inl ⟨rfl, rfl⟩) (by omega) (Nat.le_refl _)
            have hcut : Sl wr 1 v2 (l.length - (k + 1)) (u8s (l.drop (k + 1))) := by
              rw [Nat.mul_one, Nat.mul_one, u8s_drop, List.take_of_length_le (by rw [u8s_length]; simp)] at hs2
              exact hs2
            have hH2 := rd_cut HH hbr' (k + 1) hcut ho2
            obtain ⟨ao2, cap2, rfl⟩ : ∃ ao cap, v2 = .slice ao (l.length - (k + 1)) cap := by
              obtain ⟨_, ao, cap, rfl, _⟩ := hs2
              exact ⟨_, _, rfl⟩
            have HH2 := Lib.hid hH2
            clear hH2 hcut hs2 ho2 hbr'
            by_cases hk0 : 0 < k
            · have hcc : ((c.toNat : Int) == 0) = false := by simp; omega
              clear hbrk
              go_wp2
              go_ret
              exact ⟨rfl, by simpa [left] using HH2.out⟩
            · clear hbrk
              go_wp2
              go_ret
              exact ⟨rfl, by simpa [left] using HH2.out⟩
        · rw [if_neg h128, show (c.toNat - 128) = c.toNat % 128 from by omega, ← hX] at hDk
          have HD := Lib.hid hDk
          have HX := Lib.hid hXlt
          clear hX hm hXlt hDk
          have hcc : ((c.toNat : Int) == 0) = false := by simp; omega
          by_cases hk0 : 0 < k
          · clear hbrk
            go_wp2
            go_roundw
            case rel => exact ⟨k + 1, X, by omega, by omega, by go_num, rfl, HX.out, HD.out, hbr⟩
            case measure => simp [intOf]; omega
          · clear hbrk
            go_wp2
            go_roundw
            case rel => exact ⟨k + 1, X, by omega, by omega, by go_num, rfl, HX.out, HD.out, hbr⟩
            case measure => simp [intOf]; omega
    · obtain rfl : k = l.length := by omega
      rw [List.drop_length] at hDk
      simp only [dec] at hDk
      subst hDk
      go_wp2_with fail
      refine (bad_any HH).mono ?_
      rintro e w1 ⟨rfl, hH⟩
      go_wp2
      go_ret
      exact ⟨rfl, by simpa [left] using hH⟩
set_option maxHeartbeats 800000 in
theorem rbytes_any {W0 w : World} {R : Asrt} {b : Nat} {l : List UInt8} {bad : Bool} (h : Hold W0 ((Rd b l bad).sep R) w) (hl : l.length ≤ 140737488355328) :
    Calls Tryz.prog 58 #[.pointer (some ⟨b, 0, none⟩)] w (RetV fun v' w' => Hold W0 ((Row 5 1 v' (got [] (decRow l)).length (u8s (got [] (decRow l)))).sep ((Rd b (left (decRow l)) (bad || (decRow l).isNone)).sep R)) w') := by
  obtain ⟨e1, e2, e3⟩ := decRow_raw l bad
  rw [e1, e2, e3]
  have hll : (left (dec 0 0 l)).length ≤ 140737488355328 := by
    cases hd : dec 0 0 l with
    | none => simp [left]
    | some p =>
      obtain ⟨n, r⟩ := p
      have := dec_length l 0 0 n r hd
      simp [left]; omega
  clear e1 e2 e3
  go_enter Tryz.func58, Tryz.ntmps58
  go_wp2_with fail
  refine (num_any h hl).mono ?_
  rintro e w1 ⟨rfl, h1⟩
  go_wp2_with fail
  refine (rraw_any h1 _ hll).mono ?_
  rintro e w2 ⟨v', rfl, h2⟩
  have H2 := Lib.hid h2
  clear h1 h2
  go_wp2
  go_ret
  exact ⟨v', rfl, H2.out⟩
end Go.Proofs.YtkbfjgmgckbogaaGreat.Oct

/-
  The reference's Num and Nums of chapter 1: what they answer.
-/


namespace Go.Proofs.YtkbfjgmgckbogaaGreat.Oct
open Go.RowKit L
theorem and127 (u : Nat) (hu : u ≤ 4611686018427387904) : bits .or .u8 (bits .and .u64 (u : Int) 127 % 256) 128 = ((UInt8.ofNat (u % 128 + 128)).toNat : Int) := by
  have e : (u &&& 127) = u % 128 := Nat.and_two_pow_sub_one_eq_mod u 7
  rw [show (127 : Int) = ((127 : Nat) : Int) from rfl, u64_and_nat u 127 (by omega) (by omega), e, ← or128 u]
  have h1 : ((u % 128 : Nat) : Int) % 256 = ((u % 128 : Nat) : Int) := by omega
  rw [h1, show ((u : Int) % 256) = ((u % 256 : Nat) : Int) from by omega]
  rw [show (128 : Int) = ((128 : Nat) : Int) from rfl, u8_or_nat _ _ (by omega) (by omega), u8_or_nat _ _ (by omega) (by omega)]
  congr 1
  have h2 : ∀ a : Fin 256, (a.val % 128 ||| 128) = (a.val ||| 128) := by decide +kernel
  have := h2 ⟨u % 256, by omega⟩
  simp only at this
  rw [← this]
  congr 1
  omega
end Go.Proofs.YtkbfjgmgckbogaaGreat.Oct
