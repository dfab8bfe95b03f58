/-
  Texts that the proofs of this seat stand on, one behind the other: contracts of functions and plain lemmas. Conditions: those that each theorem states.
-/
import Derived.Test.YtkbfjgmgckbogaaF3
import Derived.Test.YtkbfjgmgckbogaaF8
import Derived.Test.YtkbfjgmgckbogaaF14
/-
  The check sum in the program and in the reference; 'same'.
-/


namespace Go.Proofs.Ytkbfjgmgckbogaa.Oct
open Go.RowKit L
theorem xor_byte (c : UInt32) (x : UInt8) : bits .xor .u32 (c.toNat : Int) ((x.toNat : Int) % 4294967296) = ((c ^^^ x.toUInt32).toNat : Int) := by
  have hc := c.toNat_lt
  have hx := x.toNat_lt
  rw [Int.emod_eq_of_lt (a := (x.toNat : Int)) (by omega) (by omega), u32_xor_nat _ _ (by omega) (by omega), UInt32.toNat_xor, UInt8.toNat_toUInt32]
theorem xor_poly (c : UInt32) : bits .xor .u32 ((c.toNat : Int) / 2) 3988292384 = (((c >>> 1) ^^^ 3988292384).toNat : Int) := by
  have hc := c.toNat_lt
  rw [show ((c.toNat : Int) / 2) = ((c.toNat / 2 : Nat) : Int) from by omega, show (3988292384 : Int) = ((3988292384 : Nat) : Int) from rfl, u32_xor_nat _ _ (by omega) (by omega), UInt32.toNat_xor, Crc.shr_toNat]
  rfl
theorem xor_max (c : UInt32) : bits .xor .u32 IntKind.u32.max (c.toNat : Int) = ((~~~c).toNat : Int) := by
  have hc := c.toNat_lt
  rw [show IntKind.u32.max = ((4294967295 : Nat) : Int) from rfl, u32_xor_nat _ _ (by omega) (by omega), UInt32.toNat_not]
  congr 1
  have e1 : (4294967295 : Nat) ^^^ c.toNat = (BitVec.allOnes 32 ^^^ c.toBitVec).toNat := by rw [BitVec.toNat_xor]; rfl
  rw [e1, BitVec.allOnes_xor, BitVec.toNat_not]
  rfl
theorem and_one (c : UInt32) : (bits .and .u32 (c.toNat : Int) 1 == 1) = decide (c.toNat % 2 = 1) := by
  have hc := c.toNat_lt
  rw [show (1 : Int) = ((1 : Nat) : Int) from rfl, u32_and_nat _ _ (by omega) (by omega), Nat.and_one_is_mod, Bool.eq_iff_iff]
  simp only [beq_iff_eq, decide_eq_true_eq]
  omega
theorem sum_bit (c : UInt32) : bits .xor .u32 ((c.toNat : Int) / 2) (bits .and .u32 3988292384 (-bits .and .u32 (c.toNat : Int) 1 % 4294967296)) = ((Crc.bit c).toNat : Int) := by
  have hc := c.toNat_lt
  rw [show (1 : Int) = ((1 : Nat) : Int) from rfl, u32_and_nat c.toNat 1 (by omega) (by omega), Nat.and_one_is_mod]
  unfold Crc.bit
  by_cases h : c.toNat % 2 = 1
  · rw [if_pos h, h, show (-((1 : Nat) : Int) % 4294967296) = ((4294967295 : Nat) : Int) from by decide, show (3988292384 : Int) = ((3988292384 : Nat) : Int) from rfl, u32_and_nat _ _ (by omega) (by omega)]
    rw [show (3988292384 &&& 4294967295 : Nat) = 3988292384 from by decide]
    exact xor_poly c
  · have h0 : c.toNat % 2 = 0 := by omega
    rw [if_neg h, h0, show (-((0 : Nat) : Int) % 4294967296) = ((0 : Nat) : Int) from by decide, show (3988292384 : Int) = ((3988292384 : Nat) : Int) from rfl, u32_and_nat _ _ (by omega) (by omega)]
    rw [show (3988292384 &&& 0 : Nat) = 0 from by decide, show ((c.toNat : Int) / 2) = ((c.toNat / 2 : Nat) : Int) from by omega, u32_xor_nat _ _ (by omega) (by omega), Nat.xor_zero, Crc.shr_toNat]
set_option maxHeartbeats 2000000 in
theorem sum_any {W0 w : World} {R : Asrt} (h : Hold W0 R w) (va : Value) (vs : List Value) (ls : List (List UInt8)) (ha : ReadsRows W0 R va vs (u8ss ls)) :
    Calls Try.prog 51 #[va] w fun e w' => e = .returned (.int .u32 (Crc.sum ls.flatten).toNat) ∧ w = w' := by
  have hll : (u8ss ls).length = ls.length := by simp [u8ss]
  have hsl := ha.outer h
  rw [hll] at hsl
  have hlen := hsl.run_len Try.underlying45
  have hmx := hsl.le
  unfold maxLen at hmx
  have Hsl := Lib.hid hsl
  have hin : ∀ k, k < ls.length → Sl w 1 (vs.getD k undef) (ls.getD k []).length (u8s (ls.getD k [])) := by
    intro k hk
    have := (ha.inner (i := k) (by rw [hll]; exact hk)).at h
    rwa [u8ss_get, u8s_length] at this
  have Hin := Lib.hid hin
  clear ha hsl hll hin
  go_enter Try.func51, Try.ntmps51
  go_wp2
  go_loop [3, 10] (fun c i => ∃ k : Nat, k ≤ ls.length ∧ i = .int .i64 k ∧ c = .int .u32 (Crc.run 4294967295 (ls.take k).flatten).toNat) (fun _ i => ls.length - (intOf i).toNat)
  case atStart => exact ⟨0, Nat.zero_le _, rfl, rfl⟩
  case round =>
    obtain ⟨k, hk, rfl, rfl⟩ := hrel
    by_cases hlt : k < ls.length
    · obtain ⟨A, hA, hblk, hcell⟩ := run_indexAt_sl (P := Try.prog) Hsl.out Try.underlying45 Try.size33 .i64 (k : Int) (by omega) (by omega)
      have hc := hcell 0 (by omega)
      simp only [add_zero, Int.toNat_natCast, Nat.mul_one, Nat.add_zero] at hc
      have hi := Hin.out k hlt
      obtain ⟨l, hl⟩ : ∃ l, l = ls.getD k [] := ⟨_, rfl⟩
      obtain ⟨v, hv⟩ : ∃ v, v = vs.getD k undef := ⟨_, rfl⟩
      rw [← hl, ← hv] at hi
      rw [← hv] at hc
      have hlen2 := hi.run_len Try.underlying33
      have hmx2 := hi.le
      unfold maxLen at hmx2
      obtain ⟨C0, hC0⟩ : ∃ C0, C0 = Crc.run 4294967295 (ls.take k).flatten := ⟨_, rfl⟩
      rw [← hC0]
      have HC0 := Lib.hid hC0
      have Hl := Lib.hid hl
      have Hi := Lib.hid hi
      clear hC0 hl hi hcell hv
      go_wp2
      go_loop [3, 16] (fun c i => ∃ m : Nat, m ≤ l.length ∧ i = .int .i64 m ∧ c = .int .u32 (Crc.run C0 (l.take m)).toNat) (fun _ i => l.length - (intOf i).toNat)
      case atStart => exact ⟨0, Nat.zero_le _, rfl, rfl⟩
      case round =>
        obtain ⟨m, hm, rfl, rfl⟩ := hrel
        by_cases hlm : m < l.length
        · obtain ⟨A2, hA2, hblk2, hcell2⟩ := run_indexAt_sl (P := Try.prog) Hi.out Try.underlying33 Try.size5 .i64 (m : Int) (by omega) (by omega)
          have hc2 := hcell2 0 (by omega)
          rw [u8s_get _ _ (by omega)] at hc2
          simp only [add_zero, Int.toNat_natCast, Nat.mul_one, Nat.add_zero] at hc2
          clear hcell2
          obtain ⟨x, hx⟩ : ∃ x, x = l.getD m 0 := ⟨_, rfl⟩
          rw [← hx] at hc2
          obtain ⟨C, hC⟩ : ∃ C, C = Crc.run C0 (l.take m) := ⟨_, rfl⟩
          rw [← hC]
          have Hx := Lib.hid hx
          have HC := Lib.hid hC
          clear hx hC
          have hxb := xor_byte C x
          obtain ⟨D, hD⟩ : ∃ D, D = C ^^^ x.toUInt32 := ⟨_, rfl⟩
          rw [← hD] at hxb
          have HD := Lib.hid hD
          clear hD
          go_wp2
          go_loop [3, 24] (fun c i => ∃ j : Nat, j ≤ 8 ∧ i = .int .i64 j ∧ c = .int .u32 (Crc.bits8 D j).toNat) (fun _ i => 8 - (intOf i).toNat)
          case atStart => exact ⟨0, Nat.zero_le _, rfl, rfl⟩
          case round =>
            obtain ⟨j, hj, rfl, rfl⟩ := hrel
            obtain ⟨E, hE⟩ : ∃ E, E = Crc.bits8 D j := ⟨_, rfl⟩
            rw [← hE]
            have HE := Lib.hid hE
            clear hE
            by_cases hjl : j < 8
            · go_wp2
              go_round
              case rel => exact ⟨j + 1, by omega, by go_num, by show _ = Value.int .u32 ((Crc.bit (Crc.bits8 D j)).toNat : Nat); rw [← HE.out, ← sum_bit]⟩
              case measure => simp [intOf]; omega
            · go_wp2
              obtain rfl : j = 8 := by omega
              go_round
              case rel => exact ⟨m + 1, by omega, by go_num, by rw [List.take_succ_eq_append_getElem hlm, Crc.run_snoc, ← HC.out, HE.out, HD.out, Hx.out]; simp [List.getD, hlm, Crc.byte]⟩
              case measure => simp [intOf]; omega
        · go_wp2
          obtain rfl : m = l.length := by omega
          go_round
          case rel => exact ⟨k + 1, by omega, by go_num, by rw [List.take_length, List.take_succ_eq_append_getElem hlt, List.flatten_append, Crc.run_append, ← HC0.out, Hl.out]; simp [List.getD, hlt]⟩
          case measure => simp [intOf]; omega
    · go_wp2
      go_ret
      obtain rfl : k = ls.length := by omega
      rw [List.take_length]
      exact ⟨ret_int (xor_max _), rfl⟩
end Go.Proofs.Ytkbfjgmgckbogaa.Oct

/-
  Reader.Num of chapter 1: a number is taken; Reader.Bytes: a row.
-/

namespace Go.Proofs.Ytkbfjgmgckbogaa.Oct
open Go.RowKit L
theorem u8_and127 (c : UInt8) : bits .and .u8 (c.toNat : Int) 127 = ((c.toNat % 128 : Nat) : Int) := by
  have h : ∀ c : UInt8, bits .and .u8 (c.toNat : Int) 127 = ((c.toNat % 128 : Nat) : Int) := by
    intro c
    have h2 : ∀ a : Fin 256, bits .and .u8 (a.val : Int) 127 = ((a.val % 128 : Nat) : Int) := by decide +kernel
    exact h2 ⟨c.toNat, c.toNat_lt⟩
  exact h c
theorem or_digit (k m d : Nat) (hk : k < 9) (hm : m < 2 ^ (7 * k)) (hd : d < 128) : bits .or .u64 (m : Int) (IntKind.u64.wrap ((d : Int) * 2 ^ (7 * k))) = ((m + d * 2 ^ (7 * k) : Nat) : Int) := by
  have hp : 2 ^ (7 * k) ≤ 2 ^ 56 := Nat.pow_le_pow_right (by omega) (by omega)
  have h1 : d * 2 ^ (7 * k) ≤ 127 * 2 ^ 56 := Nat.mul_le_mul (by omega) hp
  have e1 : ((d : Int) * 2 ^ (7 * k)) = ((d * 2 ^ (7 * k) : Nat) : Int) := by simp
  have e2 : IntKind.u64.wrap ((d * 2 ^ (7 * k) : Nat) : Int) = ((d * 2 ^ (7 * k) : Nat) : Int) := by
    exact IntWalk.u64_in _ (by omega)
  rw [e1, e2, u64_or_nat _ _ (by omega) (by omega)]
  congr 1
  rw [Nat.or_comm, Nat.add_comm, ← Nat.shiftLeft_eq, Nat.shiftLeft_add_eq_or_of_lt hm]
set_option maxRecDepth 100000 in
set_option maxHeartbeats 1600000 in
theorem num_any {W0 w : World} {R : Asrt} {b : Nat} {l : List UInt8} {bad : Bool} (h : Hold W0 ((Rd b l bad).sep R) w) (hl : l.length ≤ 140737488355328) :
    Calls Try.prog 40 #[.pointer (some ⟨b, 0, none⟩)] w fun e w' => e = .returned (.int .i64 (got 0 (dec 0 0 l) : Nat)) ∧ Hold W0 ((Rd b (left (dec 0 0 l)) (bad || (dec 0 0 l).isNone)).sep R) w' := by
  obtain ⟨F, v, hb, hsl, hne, hF⟩ := h.fst
  have hlen := hsl.run_len Try.underlying33
  have hc0 : w.cell? ⟨b, 0, none⟩ = some v := blk_cell hb 0
  clear hne hF
  have Hb := Lib.hid hb
  clear hb
  obtain ⟨D, hD⟩ : ∃ D, D = dec 0 0 l := ⟨_, rfl⟩
  rw [← hD]
  go_enter Try.func40, Try.ntmps40
  go_wp2
  clear hc0
  go_loopw [13, 3] (fun i u wr => ∃ (k m : Nat), k ≤ l.length ∧ k ≤ 9 ∧ i = .int .i64 k ∧ u = .int .u64 m ∧ m < 2 ^ (7 * k) ∧ D = dec k m (l.drop k) ∧ Below w.heap.size w wr) (fun i _ _ => l.length - (intOf i).toNat)
  case atStart => exact ⟨0, 0, Nat.zero_le _, Nat.zero_le _, rfl, rfl, by decide, by simpa using hD, Below.refl _ _⟩
  case round =>
    clear hD
    obtain ⟨k, m, hk, hk9, rfl, rfl, hm, hDk, hbr⟩ := hrel
    have HH := h.keeps hbr
    by_cases hlt : k < l.length
    · obtain ⟨A, hA, hblk, hcell⟩ := run_indexAt_sl (P := Try.prog) (hsl.below' hbr) Try.underlying33 Try.size5 .i64 (k : Int) (by omega) (by omega)
      have hc := hcell 0 (by omega)
      rw [u8s_get _ _ (by omega)] at hc
      simp only [add_zero, Int.toNat_natCast, Nat.mul_one, Nat.add_zero] at hc
      obtain ⟨c, hcx⟩ : ∃ c, c = l.getD k 0 := ⟨_, rfl⟩
      rw [← hcx] at hc
      have hdr : l.drop k = c :: l.drop (k + 1) := by
        rw [List.drop_eq_getElem_cons hlt, hcx]
        simp [List.getD, hlt]
      rw [hdr] at hDk
      simp only [dec] at hDk
      clear hcell hcx hdr
      have hcl := c.toNat_lt
      by_cases hbrk : 9 ≤ k ∨ (0 < k ∧ c.toNat = 0)
      · rw [if_pos hbrk] at hDk
        subst hDk
        by_cases h9 : 9 ≤ k
        · go_wp2_with fail
          refine (bad_any HH).mono ?_
          rintro e w1 ⟨rfl, hH⟩
          go_wp2
          go_ret
          exact ⟨rfl, by simpa [left] using hH⟩
        · have hk0 : 0 < k := by omega
          have hc0 : c.toNat = 0 := by omega
          have hcc : ((c.toNat : Int) == 0) = true := by simp [hc0]
          clear hbrk
          go_wp2_with fail
          refine (bad_any HH).mono ?_
          rintro e w1 ⟨rfl, hH⟩
          go_wp2
          go_ret
          exact ⟨rfl, by simpa [left] using hH⟩
      · rw [if_neg hbrk] at hDk
        have hk9' : k < 9 := by omega
        obtain ⟨X, hX⟩ : ∃ X, X = m + c.toNat % 128 * 2 ^ (7 * k) := ⟨_, rfl⟩
        have hor : bits .or .u64 (m : Int) (IntKind.u64.wrap (IntKind.u64.wrap (bits .and .u8 (c.toNat : Int) 127) * 2 ^ (7 * k))) = (X : Int) := by
          have := or_digit k m (c.toNat % 128) hk9' hm (by omega)
          rw [← hX] at this
          rw [u8_and127, IntWalk.u64_in ((c.toNat % 128 : Nat) : Int) (by omega)]
          exact this
        have hXlt : X < 2 ^ (7 * (k + 1)) := by
          have h1 : 2 ^ (7 * (k + 1)) = 128 * 2 ^ (7 * k) := by rw [Nat.mul_succ, Nat.pow_add]; omega
          have h2 : c.toNat % 128 * 2 ^ (7 * k) ≤ 127 * 2 ^ (7 * k) := Nat.mul_le_mul_right _ (by omega)
          omega
        by_cases h128 : c.toNat < 128
        · rw [if_pos h128, ← show X = m + c.toNat * 2 ^ (7 * k) from by rw [hX, Nat.mod_eq_of_lt h128]] at hDk
          clear hX hXlt hm
          by_cases hbig : 4611686018427387904 < X
          · rw [if_pos hbig] at hDk
            subst hDk
            by_cases hk0 : 0 < k
            · have hcc : ((c.toNat : Int) == 0) = false := by simp; omega
              clear hbrk
              go_wp2_with fail
              refine (bad_any HH).mono ?_
              rintro e w1 ⟨rfl, hH⟩
              go_wp2
              go_ret
              exact ⟨rfl, by simpa [left] using hH⟩
            · clear hbrk
              go_wp2_with fail
              refine (bad_any HH).mono ?_
              rintro e w1 ⟨rfl, hH⟩
              go_wp2
              go_ret
              exact ⟨rfl, by simpa [left] using hH⟩
          · rw [if_neg hbig] at hDk
            subst hDk
            have hbr' := rd_heap Hb.out hbr
            have hc0 : wr.cell? ⟨b, 0, none⟩ = some v := blk_cell hbr' 0
            have hf0 := blk_free hbr' 0
            obtain ⟨v2, hr2, hs2, ho2⟩ := run_slice_sl (P := Try.prog) (hsl.below' hbr) Try.underlying33 Try.size5 (some (.int .i64 ((k : Int) + 1))) none (k + 1) l.length (.inr ⟨.i64, rfl⟩) (.inl ⟨rfl, rfl⟩) (by omega) (Nat.le_refl _)
            have hcut : Sl wr 1 v2 (l.length - (k + 1)) (u8s (l.drop (k + 1))) := by
              rw [Nat.mul_one, Nat.mul_one, u8s_drop, List.take_of_length_le (by rw [u8s_length]; simp)] at hs2
              exact hs2
            have hH2 := rd_cut HH hbr' (k + 1) hcut ho2
            obtain ⟨ao2, cap2, rfl⟩ : ∃ ao cap, v2 = .slice ao (l.length - (k + 1)) cap := by
              obtain ⟨_, ao, cap, rfl, _⟩ := hs2
              exact ⟨_, _, rfl⟩
            have HH2 := Lib.hid hH2
            clear hH2 hcut hs2 ho2 hbr'
            by_cases hk0 : 0 < k
            · have hcc : ((c.toNat : Int) == 0) = false := by simp; omega
              clear hbrk
              go_wp2
              go_ret
              exact ⟨rfl, by simpa [left] using HH2.out⟩
            · clear hbrk
              go_wp2
              go_ret
              exact ⟨rfl, by simpa [left] using HH2.out⟩
        · rw [if_neg h128, show (c.toNat - 128) = c.toNat % 128 from by omega, ← hX] at hDk
          have HD := Lib.hid hDk
          have HX := Lib.hid hXlt
          clear hX hm hXlt hDk
          have hcc : ((c.toNat : Int) == 0) = false := by simp; omega
          by_cases hk0 : 0 < k
          · clear hbrk
            go_wp2
            go_roundw
            case rel => exact ⟨k + 1, X, by omega, by omega, by go_num, rfl, HX.out, HD.out, hbr⟩
            case measure => simp [intOf]; omega
          · clear hbrk
            go_wp2
            go_roundw
            case rel => exact ⟨k + 1, X, by omega, by omega, by go_num, rfl, HX.out, HD.out, hbr⟩
            case measure => simp [intOf]; omega
    · obtain rfl : k = l.length := by omega
      rw [List.drop_length] at hDk
      simp only [dec] at hDk
      subst hDk
      go_wp2_with fail
      refine (bad_any HH).mono ?_
      rintro e w1 ⟨rfl, hH⟩
      go_wp2
      go_ret
      exact ⟨rfl, by simpa [left] using hH⟩
set_option maxHeartbeats 800000 in
theorem rbytes_any {W0 w : World} {R : Asrt} {b : Nat} {l : List UInt8} {bad : Bool} (h : Hold W0 ((Rd b l bad).sep R) w) (hl : l.length ≤ 140737488355328) :
    Calls Try.prog 41 #[.pointer (some ⟨b, 0, none⟩)] w (RetV fun v' w' => Hold W0 ((Row 5 1 v' (got [] (decRow l)).length (u8s (got [] (decRow l)))).sep ((Rd b (left (decRow l)) (bad || (decRow l).isNone)).sep R)) w') := by
  obtain ⟨e1, e2, e3⟩ := decRow_raw l bad
  rw [e1, e2, e3]
  have hll : (left (dec 0 0 l)).length ≤ 140737488355328 := by
    cases hd : dec 0 0 l with
    | none => simp [left]
    | some p =>
      obtain ⟨n, r⟩ := p
      have := dec_length l 0 0 n r hd
      simp [left]; omega
  clear e1 e2 e3
  go_enter Try.func41, Try.ntmps41
  go_wp2_with fail
  refine (num_any h hl).mono ?_
  rintro e w1 ⟨rfl, h1⟩
  go_wp2_with fail
  refine (rraw_any h1 _ hll).mono ?_
  rintro e w2 ⟨v', rfl, h2⟩
  have H2 := Lib.hid h2
  clear h1 h2
  go_wp2
  go_ret
  exact ⟨v', rfl, H2.out⟩
end Go.Proofs.Ytkbfjgmgckbogaa.Oct
