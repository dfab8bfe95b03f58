/-
  Bloom (chapter 6): contracts of Hash, places, bit, May in the program and in the reference.
-/
import Derived.Test.YtkmceojjnoaapaaFacts
import Derived.Test.YtkmceojjnoaapaaLaws
import Derived.Test.YtkmceojjnoaapaaBytes
import Derived.Test.YtkmceojjnoaapaaBloomPure
import Derived.Deep.QuietTactic
import Derived.BigQuiet
import Derived.WalkSmall
namespace Go.Proofs.Ytkmceojjnoaapaa.Bloom
open Go.RowKit BloomP L
theorem num_snoc (l : List UInt8) (c : UInt8) : num (l ++ [c]) = hashStep (num l) c := by simp [num]
theorem step_eq (h : UInt32) (c : UInt8) : bits .xor .u32 (h.toNat : Int) (((c.toNat : Int)) % 4294967296) * 16777619 % 4294967296 = ((hashStep h c).toNat : Int) := by
  have hc := c.toNat_lt
  have hh := h.toNat_lt
  rw [Int.emod_eq_of_lt (a := (c.toNat : Int)) (by omega) (by omega), u32_xor_nat _ _ (by omega) (by omega)]
  simp only [hashStep, UInt32.toNat_mul, UInt32.toNat_xor, UInt8.toNat_toUInt32]
  show ((h.toNat ^^^ c.toNat : Nat) : Int) * 16777619 % 4294967296 = (((h.toNat ^^^ c.toNat) * 16777619 % 4294967296 : Nat) : Int)
  omega
set_option maxHeartbeats 400000 in
theorem hash_any (s : ByteArray) (w : World) (hs : s.size ≤ 9223372036854775807) :
    Calls Try.prog 10 #[.string s] w fun e w' => e = .returned (.int .u32 (num s.data.toList).toNat) ∧ w = w' := by
  go_enter Try.func10, Try.ntmps10
  go_wp2
  go_loop [3, 7] (fun h i => ∃ k : Nat, k ≤ s.size ∧ i = .int .i64 k ∧ h = .int .u32 (num (s.data.toList.take k)).toNat) (fun _ i => s.size - (intOf i).toNat)
  case atStart => exact ⟨0, Nat.zero_le _, rfl, rfl⟩
  case round =>
    obtain ⟨k, hk, rfl, rfl⟩ := hrel
    go_wp2
    · have hlt : k < s.size := by assumption
      go_round
      case rel => exact ⟨k + 1, by omega, by go_num, by rw [take_snoc s k hlt, num_snoc, step_eq]⟩
      case measure => simp [intOf]; omega
    · go_ret
      have : ¬ k < s.size := by assumption
      exact ⟨ret_int (by rw [List.take_of_length_le (by simp; omega)]), rfl⟩
set_option maxHeartbeats 400000 in
theorem hash_ref (s : ByteArray) (w : World) (hs : s.size ≤ 9223372036854775807) :
    Calls Try.prog 11 #[.string s] w fun e w' => e = .returned (.int .u32 (num s.data.toList).toNat) ∧ w = w' := by
  go_enter Try.func11, Try.ntmps11
  go_wp2
  go_loop [3, 4] (fun h i => ∃ k : Nat, k ≤ s.size ∧ i = .int .i64 k ∧ h = .int .u32 (num (s.data.toList.take k)).toNat) (fun _ i => s.size - (intOf i).toNat)
  case atStart => exact ⟨0, Nat.zero_le _, rfl, rfl⟩
  case round =>
    obtain ⟨k, hk, rfl, rfl⟩ := hrel
    go_wp2
    · have hlt : k < s.size := by assumption
      go_round
      case rel => exact ⟨k + 1, by omega, by go_num, by rw [take_snoc s k hlt, num_snoc, step_eq]⟩
      case measure => simp [intOf]; omega
    · go_ret
      have : ¬ k < s.size := by assumption
      exact ⟨ret_int (by rw [List.take_of_length_le (by simp; omega)]), rfl⟩
theorem turn_eq (h : UInt32) : bits .or .u32 ((h.toNat : Int) / 131072) ((h.toNat : Int) * 32768 % 4294967296) = ((turn h).toNat : Int) := by
  have hh := h.toNat_lt
  rw [show ((h.toNat : Int) / 131072) = ((h.toNat / 131072 : Nat) : Int) from by omega, show ((h.toNat : Int) * 32768 % 4294967296) = ((h.toNat * 32768 % 4294967296 : Nat) : Int) from by omega,
    u32_or_nat _ _ (by omega) (by omega)]
  simp only [turn, UInt32.toNat_or, UInt32.toNat_shiftRight, UInt32.toNat_shiftLeft]
  show _ = ((h.toNat >>> 17 ||| h.toNat <<< 15 % 4294967296 : Nat) : Int)
  rw [Nat.shiftRight_eq_div_pow, Nat.shiftLeft_eq]
theorem place_eq (l : List UInt8) (n i : Nat) (hi : i < 6) : (((num l).toNat : Int) + (i : Int) * bits .or .u32 (((num l).toNat : Int) / 131072) (((num l).toNat : Int) * 32768 % 4294967296)) % 4294967296 % (n : Int) = (place l n i : Nat) := by
  rw [turn_eq]
  simp only [place, UInt32.toNat_add, UInt32.toNat_mul, UInt32.toNat_ofNat']
  show _ = ((((num l).toNat + i % 4294967296 * (turn (num l)).toNat % 4294967296) % 4294967296 % n : Nat) : Int)
  rw [Nat.mod_eq_of_lt (show i < 4294967296 by omega)]
  simp
theorem place_w (l : List UInt8) (n i : Nat) (hi : i < 6) (hn : 1 ≤ n) (hn2 : n ≤ 9223372036854775807) :
    wrap64 ((((num l).toNat : Int) + (i : Int) * bits .or .u32 (((num l).toNat : Int) / 131072) (((num l).toNat : Int) * 32768 % 4294967296)) % 4294967296 % (n : Int)) = (place l n i : Nat) := by
  have h2 := place_lt l i (show 0 < n by omega)
  rw [place_eq l n i hi]
  exact IntWalk.wrap64_in _ ⟨by omega, by omega⟩
set_option maxHeartbeats 400000 in
theorem places_nat (s : ByteArray) (n : Nat) (w : World) (hs : s.size ≤ 9223372036854775807) (hn : 1 ≤ n) (hn2 : n ≤ 9223372036854775807) :
    Calls Try.prog 15 #[.string s, .int .i64 n] w fun e w' => e = .returned (.agg #[.int .i64 (place s.data.toList n 0), .int .i64 (place s.data.toList n 1), .int .i64 (place s.data.toList n 2), .int .i64 (place s.data.toList n 3), .int .i64 (place s.data.toList n 4), .int .i64 (place s.data.toList n 5)]) ∧ Below w.heap.size w w' := by
  have H0 := place_w s.data.toList n 0 (by omega) hn hn2
  have H1 := place_w s.data.toList n 1 (by omega) hn hn2
  have H2 := place_w s.data.toList n 2 (by omega) hn hn2
  have H3 := place_w s.data.toList n 3 (by omega) hn hn2
  have H4 := place_w s.data.toList n 4 (by omega) hn hn2
  have H5 := place_w s.data.toList n 5 (by omega) hn hn2
  simp only [Int.natCast_zero, Int.zero_mul, Int.add_zero] at H0
  simp only [Int.natCast_one, Int.one_mul] at H1
  have K0 := Lib.hid H0
  have K1 := Lib.hid H1
  have K2 := Lib.hid H2
  have K3 := Lib.hid H3
  have K4 := Lib.hid H4
  have K5 := Lib.hid H5
  clear H0 H1 H2 H3 H4 H5
  go_enter Try.func15, Try.ntmps15
  go_wp2_with (go_at_call 10; refine (hash_any _ _ hs).mono ?_; rintro e w' ⟨rfl, rfl⟩)
  refine wp_loop_rounds 7 ?_
  rw [rounds_succ]
  go_wp2
  rw [rounds_succ]
  go_wp2
  rw [rounds_succ]
  go_wp2
  rw [rounds_succ]
  go_wp2
  rw [rounds_succ]
  go_wp2
  rw [rounds_succ]
  go_wp2
  rw [rounds_succ]
  go_wp2
  rw [K0.out, K1.out]
  refine bodyPost_ret (v := .agg #[.int .i64 (place s.data.toList n 0), .int .i64 (place s.data.toList n 1), .int .i64 (place s.data.toList n 2), .int .i64 (place s.data.toList n 3), .int .i64 (place s.data.toList n 4), .int .i64 (place s.data.toList n 5)]) ?_ rfl ⟨rfl, ?_⟩
  · have k2 := K2.out
    have k3 := K3.out
    have k4 := K4.out
    have k5 := K5.out
    rw [show ((2 : Nat) : Int) = 2 from rfl] at k2
    rw [show ((3 : Nat) : Int) = 3 from rfl] at k3
    rw [show ((4 : Nat) : Int) = 4 from rfl] at k4
    rw [show ((5 : Nat) : Int) = 5 from rfl] at k5
    rw [k2, k3, k4, k5]
    simp [results, Try.results15, go_sem]
  · exact ((Below.refl _ _).alloc (Nat.le_refl _) _).alloc (by simp) _
theorem bit_nat (s : ByteArray) (i n : Nat) (w : World) (hs : s.size ≤ 9223372036854775807) (hn : 1 ≤ n) (hn2 : n ≤ 4294967295) (hi : i < 6) :
    Calls Try.prog 16 #[.string s, .int .i64 i, .int .i64 n] w fun e w' => e = .returned (.int .i64 (place s.data.toList n i)) ∧ w = w' := by
  go_enter Try.func16, Try.ntmps16
  go_wp2_with (go_at_call 11; refine (hash_ref _ _ hs).mono ?_; rintro e w' ⟨rfl, rfl⟩)
  go_ret
  have h1 := place_eq s.data.toList n i hi
  have h2 := place_lt s.data.toList i (show 0 < n by omega)
  refine ⟨ret_int ?_, rfl⟩
  rw [h1]
  exact IntWalk.wrap64_in _ ⟨by omega, by omega⟩
theorem places_any (s : ByteArray) (n : Int) (w : World) (hs : s.size ≤ 9223372036854775807) (hn : 1 ≤ n) (hn2 : n ≤ 9223372036854775807) :
    Calls Try.prog 15 #[.string s, .int .i64 n] w fun e w' => e = .returned (.agg #[.int .i64 (place s.data.toList n.toNat 0), .int .i64 (place s.data.toList n.toNat 1), .int .i64 (place s.data.toList n.toNat 2), .int .i64 (place s.data.toList n.toNat 3), .int .i64 (place s.data.toList n.toNat 4), .int .i64 (place s.data.toList n.toNat 5)]) ∧ Below w.heap.size w w' := by
  obtain ⟨m, rfl⟩ := Int.eq_ofNat_of_zero_le (show 0 ≤ n by omega)
  exact places_nat s m w hs (by omega) (by omega)
theorem bit_any (s : ByteArray) (i : Nat) (n : Int) (w : World) (hs : s.size ≤ 9223372036854775807) (hn : 1 ≤ n) (hn2 : n ≤ 4294967295) (hi : i < 6) :
    Calls Try.prog 16 #[.string s, .int .i64 i, .int .i64 n] w fun e w' => e = .returned (.int .i64 (place s.data.toList n.toNat i)) ∧ w = w' := by
  obtain ⟨m, rfl⟩ := Int.eq_ofNat_of_zero_le (show 0 ≤ n by omega)
  exact bit_nat s i m w hs (by omega) (by omega) hi
theorem run_index6 (p : Nat → Int) : ∀ k : Nat, k < 6 → ∀ (w : World), (Instr.index 33 (.agg #[.int .i64 (p 0), .int .i64 (p 1), .int .i64 (p 2), .int .i64 (p 3), .int .i64 (p 4), .int .i64 (p 5)]) (.int .i64 (k : Int))).run Try.prog w = .ok (.int .i64 (p k)) w
  | 0, _, w => by kernel_rfl
  | 1, _, w => by kernel_rfl
  | 2, _, w => by kernel_rfl
  | 3, _, w => by kernel_rfl
  | 4, _, w => by kernel_rfl
  | 5, _, w => by kernel_rfl
theorem bit_test (l : List UInt8) (p : Nat) : (bits .and .u8 ((l[p / 8]?.getD 0).toNat : Int) ((2 : Int) ^ (p % 8) % 256) == 0) = !(has l p) := by
  have h8 : p % 8 < 8 := Nat.mod_lt _ (by omega)
  have hc := (l[p / 8]?.getD 0).toNat_lt
  rw [mask_int _ h8, u8_and_nat _ _ (by omega) (mask_lt _ h8), ← mask_toNat _ h8, ← UInt8.toNat_and]
  unfold has
  simp only [List.getD]
  rw [Bool.eq_iff_iff]
  simp only [beq_iff_eq, Bool.not_eq_true', bne_eq_false_iff_eq]
  constructor
  · intro h; apply UInt8.toNat_inj.1; simpa using h
  · intro h; rw [h]; rfl
theorem bit_test2 (l : List UInt8) (p : Nat) : (bits .and .u8 (((l[p / 8]?.getD 0).toNat : Int) / (2 : Int) ^ (p % 8)) 1 == 0) = !(has l p) := by
  have h8 : p % 8 < 8 := Nat.mod_lt _ (by omega)
  have hc := (l[p / 8]?.getD 0).toNat_lt
  have e : (((l[p / 8]?.getD 0).toNat : Int) / (2 : Int) ^ (p % 8)) = (((l[p / 8]?.getD 0).toNat / 2 ^ (p % 8) : Nat) : Int) := by simp
  have hd := Nat.div_le_self (l[p / 8]?.getD 0).toNat (2 ^ (p % 8))
  rw [← bit_test, e, mask_int _ h8, u8_and_nat _ _ (by omega) (mask_lt _ h8), show (1 : Int) = ((1 : Nat) : Int) from rfl, u8_and_nat _ _ (by omega) (by omega), Nat.and_one_is_mod]
  have hb : (l[p / 8]?.getD 0).toNat &&& 2 ^ (p % 8) = (l[p / 8]?.getD 0).toNat / 2 ^ (p % 8) % 2 * 2 ^ (p % 8) := nat_bit _ _
  rw [hb]
  have hp : 0 < 2 ^ (p % 8) := Nat.two_pow_pos _
  have h2 : (l[p / 8]?.getD 0).toNat / 2 ^ (p % 8) % 2 = 0 ∨ (l[p / 8]?.getD 0).toNat / 2 ^ (p % 8) % 2 = 1 := by omega
  rcases h2 with h2 | h2
  · rw [h2]; simp
  · rw [h2, Bool.eq_iff_iff]
    simp only [beq_iff_eq]
    generalize 2 ^ (p % 8) = m at hp
    omega
theorem mayTo_false (l key : List UInt8) (k : Nat) (h : k < 6) (hh : has l (place key (8 * l.length) k) = false) : mayTo l key 6 = false := by
  cases e : mayTo l key 6 with
  | false => rfl
  | true => rw [(mayTo_iff l key 6).1 e k h] at hh; cases hh
theorem mayTo_true (l key : List UInt8) (k : Nat) (h : mayTo l key k = true) (hh : has l (place key (8 * l.length) k) = true) : mayTo l key (k + 1) = true := by
  simp [mayTo, h, hh]
set_option maxHeartbeats 400000 in
theorem may_any (v : Value) (n : Nat) (l : List UInt8) (s : ByteArray) (w : World) (hv : Sl w 1 v n (u8s l)) (hn : 1 ≤ n) (hn2 : n ≤ 1152921504606846975) (hs : s.size ≤ 9223372036854775807) :
    Calls Try.prog 13 #[v, .string s] w fun e w' => e = .returned (.bool (mayTo l s.data.toList 6)) ∧ Below w.heap.size w w' := by
  have hlen := hv.run_len Try.underlying24
  have hl : l.length = n := by simpa [u8s] using hv.length
  have Hl := Lib.hid hl
  clear hl
  go_enter Try.func13, Try.ntmps13
  go_wp2_with (go_at_call 15; refine (places_any _ _ _ hs (by omega) (by omega)).mono ?_; rintro e w1 ⟨rfl, hb⟩)
  go_loopw [15] (fun i wr => ∃ k : Nat, k ≤ 6 ∧ i = .int .i64 k ∧ Below w.heap.size w wr ∧ mayTo l s.data.toList k = true) (fun i _ => 6 - (intOf i).toNat)
  case atStart => exact ⟨0, by omega, rfl, hb, rfl⟩
  case round =>
    obtain ⟨k, hk, rfl, hbr, hm⟩ := hrel
    have hidx := run_index6 (fun i => (place s.data.toList ((n : Int) * 8).toNat i : Nat))
    by_cases hlt : k < 6
    · have hidx' := hidx k hlt
      clear hidx
      have hp := place_lt s.data.toList k (show 0 < ((n : Int) * 8).toNat by omega)
      obtain ⟨p, hpe⟩ : ∃ p, p = place s.data.toList ((n : Int) * 8).toNat k := ⟨_, rfl⟩
      simp only [← hpe] at hidx' hp
      have eplace : place s.data.toList ((n : Int) * 8).toNat k = place s.data.toList (8 * l.length) k := by rw [Hl.out]; congr 1; omega
      have Eplace := Lib.hid eplace
      clear eplace
      have HP := Lib.hid hpe
      clear hpe
      obtain ⟨A, hA, hblk, hcell⟩ := run_indexAt_sl (P := Try.prog) (hv.below' hbr) Try.underlying24 Try.size5 .i64 ((p : Int) / 8) (by omega) (by omega)
      have hc := hcell 0 (by omega)
      rw [u8s_get _ _ (by rw [Hl.out]; omega)] at hc
      simp only [add_zero] at hc
      clear hcell
      have h7 := i64_and7 p
      have h7b : (0 : Int) ≤ (p : Int) % 8 := by omega
      have h7c : (p : Int) % 8 < 8 := by omega
      go_wp2
      go_quiet (fail)
      go_wp2
      · go_ret
        have ht : (bits .and .u8 ((l[p / 8]?.getD 0).toNat : Int) ((2 : Int) ^ (p % 8) % 256) == 0) = true := by assumption
        refine ⟨ret_bool ?_, below_drewN hbr _⟩
        rw [bit_test] at ht
        exact (mayTo_false l _ k hlt (by rw [← Eplace.out, ← HP.out]; simpa using ht)).symm
      · have ht : (bits .and .u8 ((l[p / 8]?.getD 0).toNat : Int) ((2 : Int) ^ (p % 8) % 256) == 0) = false := by assumption
        rw [bit_test] at ht
        go_roundw
        case rel => exact ⟨k + 1, by omega, by go_num, below_drewN hbr _, mayTo_true l _ k hm (by rw [← Eplace.out, ← HP.out]; simpa using ht)⟩
        case measure => simp [intOf]; omega
    · clear hidx
      go_wp2
      go_ret
      obtain rfl : k = 6 := by omega
      exact ⟨ret_bool hm.symm, hbr⟩
set_option maxHeartbeats 400000 in
theorem may_ref (v : Value) (n : Nat) (l : List UInt8) (s : ByteArray) (w : World) (hv : Sl w 1 v n (u8s l)) (hn : 1 ≤ n) (hn2 : n ≤ 1000) (hs : s.size ≤ 9223372036854775807) :
    Calls Try.prog 14 #[v, .string s] w fun e w' => e = .returned (.bool (mayTo l s.data.toList 6)) ∧ Below w.heap.size w w' := by
  have hlen := hv.run_len Try.underlying24
  have hl : l.length = n := by simpa [u8s] using hv.length
  have Hl := Lib.hid hl
  clear hl
  go_enter Try.func14, Try.ntmps14
  go_wp2
  go_loopw [5] (fun i wr => ∃ k : Nat, k ≤ 6 ∧ i = .int .i64 k ∧ Below w.heap.size w wr ∧ mayTo l s.data.toList k = true) (fun i _ => 6 - (intOf i).toNat)
  case atStart => exact ⟨0, by omega, rfl, Below.refl _ _, rfl⟩
  case round =>
    obtain ⟨k, hk, rfl, hbr, hm⟩ := hrel
    by_cases hlt : k < 6
    · have hp := place_lt s.data.toList k (show 0 < (8 * (n : Int)).toNat by omega)
      obtain ⟨p, hpe⟩ : ∃ p, p = place s.data.toList (8 * (n : Int)).toNat k := ⟨_, rfl⟩
      simp only [← hpe] at hp
      have eplace : place s.data.toList (8 * (n : Int)).toNat k = place s.data.toList (8 * l.length) k := by rw [Hl.out]; congr 1
      have Eplace := Lib.hid eplace
      clear eplace
      have HP := Lib.hid hpe
      clear hpe
      obtain ⟨A, hA, hblk, hcell⟩ := run_indexAt_sl (P := Try.prog) (hv.below' hbr) Try.underlying24 Try.size5 .i64 ((p : Int) / 8) (by omega) (by omega)
      have hc := hcell 0 (by omega)
      rw [u8s_get _ _ (by rw [Hl.out]; omega)] at hc
      simp only [add_zero] at hc
      clear hcell
      have h7b : (0 : Int) ≤ (p : Int) % 8 := by omega
      have h7c : (p : Int) % 8 < 8 := by omega
      go_wp2_with fail
      refine (bit_any s k _ _ hs (by omega) (by omega) hlt).mono ?_
      rintro e w1 ⟨he, rfl⟩
      rw [← HP.out] at he
      subst he
      go_wp2
      · go_ret
        have ht : (bits .and .u8 (((l[p / 8]?.getD 0).toNat : Int) / (2 : Int) ^ (p % 8)) 1 == 0) = true := by assumption
        refine ⟨ret_bool ?_, hbr⟩
        rw [bit_test2] at ht
        exact (mayTo_false l _ k hlt (by rw [← Eplace.out, ← HP.out]; simpa using ht)).symm
      · have ht : (bits .and .u8 (((l[p / 8]?.getD 0).toNat : Int) / (2 : Int) ^ (p % 8)) 1 == 0) = false := by assumption
        rw [bit_test2] at ht
        go_roundw
        case rel => exact ⟨k + 1, by omega, by go_num, hbr, mayTo_true l _ k hm (by rw [← Eplace.out, ← HP.out]; simpa using ht)⟩
        case measure => simp [intOf]; omega
    · go_wp2
      go_ret
      obtain rfl : k = 6 := by omega
      exact ⟨ret_bool hm.symm, hbr⟩
end Go.Proofs.Ytkmceojjnoaapaa.Bloom
