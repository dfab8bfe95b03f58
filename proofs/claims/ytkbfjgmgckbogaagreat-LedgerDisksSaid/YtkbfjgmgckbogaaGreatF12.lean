/-
  Texts that the proofs of this seat stand on, one behind the other: contracts of functions and plain lemmas. Conditions: those that each theorem states.
-/
import Derived.Test.YtkbfjgmgckbogaaGreatF5
import Derived.Test.YtkbfjgmgckbogaaGreatF10
import Derived.Test.YtkbfjgmgckbogaaGreatOctetRefRd
/-
  The check sum in the program and in the reference; 'same'.
-/


namespace Go.Proofs.YtkbfjgmgckbogaaGreat.Oct
open Go.RowKit L
theorem xor_byte (c : UInt32) (x : UInt8) : bits .xor .u32 (c.toNat : Int) ((x.toNat : Int) % 4294967296) = ((c ^^^ x.toUInt32).toNat : Int) := by
  have hc := c.toNat_lt
  have hx := x.toNat_lt
  rw [Int.emod_eq_of_lt (a := (x.toNat : Int)) (by omega) (by omega), u32_xor_nat _ _ (by omega) (by omega), UInt32.toNat_xor, UInt8.toNat_toUInt32]
theorem xor_poly (c : UInt32) : bits .xor .u32 ((c.toNat : Int) / 2) 3988292384 = (((c >>> 1) ^^^ 3988292384).toNat : Int) := by
  have hc := c.toNat_lt
  rw [show ((c.toNat : Int) / 2) = ((c.toNat / 2 : Nat) : Int) from by omega, show (3988292384 : Int) = ((3988292384 : Nat) : Int) from rfl, u32_xor_nat _ _ (by omega) (by omega), UInt32.toNat_xor, Crc.shr_toNat]
  rfl
theorem xor_max (c : UInt32) : bits .xor .u32 IntKind.u32.max (c.toNat : Int) = ((~~~c).toNat : Int) := by
  have hc := c.toNat_lt
  rw [show IntKind.u32.max = ((4294967295 : Nat) : Int) from rfl, u32_xor_nat _ _ (by omega) (by omega), UInt32.toNat_not]
  congr 1
  have e1 : (4294967295 : Nat) ^^^ c.toNat = (BitVec.allOnes 32 ^^^ c.toBitVec).toNat := by rw [BitVec.toNat_xor]; rfl
  rw [e1, BitVec.allOnes_xor, BitVec.toNat_not]
  rfl
theorem and_one (c : UInt32) : (bits .and .u32 (c.toNat : Int) 1 == 1) = decide (c.toNat % 2 = 1) := by
  have hc := c.toNat_lt
  rw [show (1 : Int) = ((1 : Nat) : Int) from rfl, u32_and_nat _ _ (by omega) (by omega), Nat.and_one_is_mod, Bool.eq_iff_iff]
  simp only [beq_iff_eq, decide_eq_true_eq]
  omega
set_option maxHeartbeats 800000 in
theorem rsum_any (v : Value) (l : List UInt8) (w : World) (hv : Sl w 1 v l.length (u8s l)) :
    Calls Tryz.prog 99 #[v] w fun e w' => e = .returned (.int .u32 (Crc.sum l).toNat) ∧ w = w' := by
  have hlen := hv.run_len Tryz.underlying22
  have hmx := hv.le
  unfold maxLen at hmx
  go_enter Tryz.func99, Tryz.ntmps99
  go_wp2
  go_loop [3, 4] (fun c i => ∃ k : Nat, k ≤ l.length ∧ i = .int .i64 k ∧ c = .int .u32 (Crc.run 4294967295 (l.take k)).toNat) (fun _ i => l.length - (intOf i).toNat)
  case atStart => exact ⟨0, Nat.zero_le _, rfl, rfl⟩
  case round =>
    obtain ⟨k, hk, rfl, rfl⟩ := hrel
    by_cases hlt : k < l.length
    · obtain ⟨A, hA, hblk, hcell⟩ := run_indexAt_sl (P := Tryz.prog) hv Tryz.underlying22 Tryz.size5 .i64 (k : Int) (by omega) (by omega)
      have hc := hcell 0 (by omega)
      rw [u8s_get _ _ (by omega)] at hc
      simp only [add_zero, Int.toNat_natCast, Nat.mul_one, Nat.add_zero] at hc
      clear hcell
      obtain ⟨x, hx⟩ : ∃ x, x = l.getD k 0 := ⟨_, rfl⟩
      rw [← hx] at hc
      obtain ⟨C, hC⟩ : ∃ C, C = Crc.run 4294967295 (l.take k) := ⟨_, rfl⟩
      rw [← hC]
      have Hx := Lib.hid hx
      have HC := Lib.hid hC
      clear hx hC
      have hxb := xor_byte C x
      obtain ⟨D, hD⟩ : ∃ D, D = C ^^^ x.toUInt32 := ⟨_, rfl⟩
      rw [← hD] at hxb
      have HD := Lib.hid hD
      clear hD
      go_wp2
      go_loop [3, 5] (fun c i => ∃ j : Nat, j ≤ 8 ∧ i = .int .i64 j ∧ c = .int .u32 (Crc.bits8 D j).toNat) (fun _ i => 8 - (intOf i).toNat)
      case atStart => exact ⟨0, Nat.zero_le _, rfl, rfl⟩
      case round =>
        obtain ⟨j, hj, rfl, rfl⟩ := hrel
        obtain ⟨E, hE⟩ : ∃ E, E = Crc.bits8 D j := ⟨_, rfl⟩
        rw [← hE]
        have HE := Lib.hid hE
        clear hE
        have hpoly := xor_poly E
        by_cases hjl : j < 8
        · go_wp2
          · have ht : (bits .and .u32 (E.toNat : Int) 1 == 1) = true := by assumption
            rw [and_one] at ht
            have h1 : E.toNat % 2 = 1 := by simpa using ht
            go_round
            case rel => exact ⟨j + 1, by omega, by go_num, by show _ = Value.int .u32 ((Crc.bit (Crc.bits8 D j)).toNat : Nat); rw [← HE.out, Crc.bit, if_pos h1, UInt32.toNat_xor, UInt32.toNat_shiftRight]; rfl⟩
            case measure => simp [intOf]; omega
          · have ht : (bits .and .u32 (E.toNat : Int) 1 == 1) = false := by assumption
            rw [and_one] at ht
            have h1 : ¬ E.toNat % 2 = 1 := by simpa using ht
            go_round
            case rel => exact ⟨j + 1, by omega, by go_num, by show _ = Value.int .u32 ((Crc.bit (Crc.bits8 D j)).toNat : Nat); rw [← HE.out, Crc.bit, if_neg h1, Crc.shr_toNat]; congr 1⟩
            case measure => simp [intOf]; omega
        · go_wp2
          obtain rfl : j = 8 := by omega
          go_round
          case rel => exact ⟨k + 1, by omega, by go_num, by rw [List.take_succ_eq_append_getElem hlt, Crc.run_snoc, ← HC.out, HE.out, HD.out, Hx.out]; simp [List.getD, hlt, Crc.byte]⟩
          case measure => simp [intOf]; omega
    · go_wp2
      go_ret
      obtain rfl : k = l.length := by omega
      rw [List.take_length]
      exact ⟨ret_int (xor_max _), rfl⟩
theorem sum_bit (c : UInt32) : bits .xor .u32 ((c.toNat : Int) / 2) (bits .and .u32 3988292384 (-bits .and .u32 (c.toNat : Int) 1 % 4294967296)) = ((Crc.bit c).toNat : Int) := by
  have hc := c.toNat_lt
  rw [show (1 : Int) = ((1 : Nat) : Int) from rfl, u32_and_nat c.toNat 1 (by omega) (by omega), Nat.and_one_is_mod]
  unfold Crc.bit
  by_cases h : c.toNat % 2 = 1
  · rw [if_pos h, h, show (-((1 : Nat) : Int) % 4294967296) = ((4294967295 : Nat) : Int) from by decide, show (3988292384 : Int) = ((3988292384 : Nat) : Int) from rfl, u32_and_nat _ _ (by omega) (by omega)]
    rw [show (3988292384 &&& 4294967295 : Nat) = 3988292384 from by decide]
    exact xor_poly c
  · have h0 : c.toNat % 2 = 0 := by omega
    rw [if_neg h, h0, show (-((0 : Nat) : Int) % 4294967296) = ((0 : Nat) : Int) from by decide, show (3988292384 : Int) = ((3988292384 : Nat) : Int) from rfl, u32_and_nat _ _ (by omega) (by omega)]
    rw [show (3988292384 &&& 0 : Nat) = 0 from by decide, show ((c.toNat : Int) / 2) = ((c.toNat / 2 : Nat) : Int) from by omega, u32_xor_nat _ _ (by omega) (by omega), Nat.xor_zero, Crc.shr_toNat]
set_option maxHeartbeats 2000000 in
theorem sum_any {W0 w : World} {R : Asrt} (h : Hold W0 R w) (va : Value) (vs : List Value) (ls : List (List UInt8)) (ha : ReadsRows W0 R va vs (u8ss ls)) :
    Calls Tryz.prog 76 #[va] w fun e w' => e = .returned (.int .u32 (Crc.sum ls.flatten).toNat) ∧ w = w' := by
  have hll : (u8ss ls).length = ls.length := by simp [u8ss]
  have hsl := ha.outer h
  rw [hll] at hsl
  have hlen := hsl.run_len Tryz.underlying44
  have hmx := hsl.le
  unfold maxLen at hmx
  have Hsl := Lib.hid hsl
  have hin : ∀ k, k < ls.length → Sl w 1 (vs.getD k undef) (ls.getD k []).length (u8s (ls.getD k [])) := by
    intro k hk
    have := (ha.inner (i := k) (by rw [hll]; exact hk)).at h
    rwa [u8ss_get, u8s_length] at this
  have Hin := Lib.hid hin
  clear ha hsl hll hin
  go_enter Tryz.func76, Tryz.ntmps76
  go_wp2
  go_loop [3, 10] (fun c i => ∃ k : Nat, k ≤ ls.length ∧ i = .int .i64 k ∧ c = .int .u32 (Crc.run 4294967295 (ls.take k).flatten).toNat) (fun _ i => ls.length - (intOf i).toNat)
  case atStart => exact ⟨0, Nat.zero_le _, rfl, rfl⟩
  case round =>
    obtain ⟨k, hk, rfl, rfl⟩ := hrel
    by_cases hlt : k < ls.length
    · obtain ⟨A, hA, hblk, hcell⟩ := run_indexAt_sl (P := Tryz.prog) Hsl.out Tryz.underlying44 Tryz.size22 .i64 (k : Int) (by omega) (by omega)
      have hc := hcell 0 (by omega)
      simp only [add_zero, Int.toNat_natCast, Nat.mul_one, Nat.add_zero] at hc
      have hi := Hin.out k hlt
      obtain ⟨l, hl⟩ : ∃ l, l = ls.getD k [] := ⟨_, rfl⟩
      obtain ⟨v, hv⟩ : ∃ v, v = vs.getD k undef := ⟨_, rfl⟩
      rw [← hl, ← hv] at hi
      rw [← hv] at hc
      have hlen2 := hi.run_len Tryz.underlying22
      have hmx2 := hi.le
      unfold maxLen at hmx2
      obtain ⟨C0, hC0⟩ : ∃ C0, C0 = Crc.run 4294967295 (ls.take k).flatten := ⟨_, rfl⟩
      rw [← hC0]
      have HC0 := Lib.hid hC0
      have Hl := Lib.hid hl
      have Hi := Lib.hid hi
      clear hC0 hl hi hcell hv
      go_wp2
      go_loop [3, 16] (fun c i => ∃ m : Nat, m ≤ l.length ∧ i = .int .i64 m ∧ c = .int .u32 (Crc.run C0 (l.take m)).toNat) (fun _ i => l.length - (intOf i).toNat)
      case atStart => exact ⟨0, Nat.zero_le _, rfl, rfl⟩
      case round =>
        obtain ⟨m, hm, rfl, rfl⟩ := hrel
        by_cases hlm : m < l.length
        · obtain ⟨A2, hA2, hblk2, hcell2⟩ := run_indexAt_sl (P := Tryz.prog) Hi.out Tryz.underlying22 Tryz.size5 .i64 (m : Int) (by omega) (by omega)
          have hc2 := hcell2 0 (by omega)
          rw [u8s_get _ _ (by omega)] at hc2
          simp only [add_zero, Int.toNat_natCast, Nat.mul_one, Nat.add_zero] at hc2
          clear hcell2
          obtain ⟨x, hx⟩ : ∃ x, x = l.getD m 0 := ⟨_, rfl⟩
          rw [← hx] at hc2
          obtain ⟨C, hC⟩ : ∃ C, C = Crc.run C0 (l.take m) := ⟨_, rfl⟩
          rw [← hC]
          have Hx := Lib.hid hx
          have HC := Lib.hid hC
          clear hx hC
          have hxb := xor_byte C x
          obtain ⟨D, hD⟩ : ∃ D, D = C ^^^ x.toUInt32 := ⟨_, rfl⟩
          rw [← hD] at hxb
          have HD := Lib.hid hD
          clear hD
          go_wp2
          go_loop [3, 24] (fun c i => ∃ j : Nat, j ≤ 8 ∧ i = .int .i64 j ∧ c = .int .u32 (Crc.bits8 D j).toNat) (fun _ i => 8 - (intOf i).toNat)
          case atStart => exact ⟨0, Nat.zero_le _, rfl, rfl⟩
          case round =>
            obtain ⟨j, hj, rfl, rfl⟩ := hrel
            obtain ⟨E, hE⟩ : ∃ E, E = Crc.bits8 D j := ⟨_, rfl⟩
            rw [← hE]
            have HE := Lib.hid hE
            clear hE
            by_cases hjl : j < 8
            · go_wp2
              go_round
              case rel => exact ⟨j + 1, by omega, by go_num, by show _ = Value.int .u32 ((Crc.bit (Crc.bits8 D j)).toNat : Nat); rw [← HE.out, ← sum_bit]⟩
              case measure => simp [intOf]; omega
            · go_wp2
              obtain rfl : j = 8 := by omega
              go_round
              case rel => exact ⟨m + 1, by omega, by go_num, by rw [List.take_succ_eq_append_getElem hlm, Crc.run_snoc, ← HC.out, HE.out, HD.out, Hx.out]; simp [List.getD, hlm, Crc.byte]⟩
              case measure => simp [intOf]; omega
        · go_wp2
          obtain rfl : m = l.length := by omega
          go_round
          case rel => exact ⟨k + 1, by omega, by go_num, by rw [List.take_length, List.take_succ_eq_append_getElem hlt, List.flatten_append, Crc.run_append, ← HC0.out, Hl.out]; simp [List.getD, hlt]⟩
          case measure => simp [intOf]; omega
    · go_wp2
      go_ret
      obtain rfl : k = ls.length := by omega
      rw [List.take_length]
      exact ⟨ret_int (xor_max _), rfl⟩
end Go.Proofs.YtkbfjgmgckbogaaGreat.Oct

/-
  The reference's Reader of chapter 1: Whole.
-/

namespace Go.Proofs.YtkbfjgmgckbogaaGreat.Oct
open Go.RowKit L
theorem xwhole_any {W0 w : World} {R : Asrt} {b : Nat} {l : List UInt8} {bad : Bool} (h : Hold W0 ((Xd W0 b l bad).sep R) w) :
    Calls Tryz.prog 69 #[.pointer (some ⟨b, 0, none⟩)] w fun e w' => e = .returned (.bool (!bad && l.isEmpty)) ∧ w = w' := by
  obtain ⟨v, hb, h2, hsl, h3⟩ := xd_open h
  have hc0 : w.cell? ⟨b, 0, none⟩ = some v := blk_cell hb 0
  have hc1 : w.cell? ⟨b, 1, none⟩ = some (.bool bad) := blk_cell hb 1
  have hlen := hsl.run_len Tryz.underlying22
  clear h2 h3 hb hsl h
  go_enter Tryz.func69, Tryz.ntmps69
  cases bad with
  | true =>
    go_wp2
    go_ret
    exact ⟨rfl, rfl⟩
  | false =>
    go_wp2
    go_ret
    exact ⟨ret_bool (by cases l <;> simp <;> omega), rfl⟩
end Go.Proofs.YtkbfjgmgckbogaaGreat.Oct
