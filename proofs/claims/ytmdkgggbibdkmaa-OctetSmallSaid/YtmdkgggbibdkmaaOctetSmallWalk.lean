/-
  The walk of the law OctetSmall: it answers true, for every number.
-/
import Derived.Test.YtmdkgggbibdkmaaOctetKnown
namespace Go.Proofs.Ytmdkgggbibdkmaa.octetSmall
open Go.RowKit L Oct
def most (x : Nat) : Nat := if x = 0 then 0 else (enc x).length
theorem most_step (x : Nat) (h : 0 < x) : most x = 1 + most (x / 128) := by
  unfold most
  rw [if_neg (by omega)]
  by_cases h1 : x < 128
  · rw [enc_lt h1, if_pos (by omega)]; rfl
  · rw [enc_ge (by omega), if_neg (by omega), List.length_cons]; omega
theorem enc_most (x : Nat) : (enc x).length = 1 + most (x / 128) := by
  by_cases h : x = 0
  · subst h
    rw [enc_lt (by omega)]
    rfl
  · have := most_step x (by omega)
    unfold most at this
    rw [if_neg h] at this
    exact this
theorem enc_head (x : Nat) : ((enc x).getD 0 0).toNat = if x < 128 then x else x % 128 + 128 := by
  by_cases h : x < 128
  · rw [enc_lt h, if_pos h]
    show (UInt8.ofNat x).toNat = x
    rw [UInt8.toNat_ofNat']; show x % 256 = x; omega
  · rw [enc_ge (by omega), if_neg h]
    show (UInt8.ofNat (x % 128 + 128)).toNat = _
    rw [UInt8.toNat_ofNat']; show (x % 128 + 128) % 256 = _; omega
theorem enc_last : ∀ (x : Nat), 0 < x → ((enc x).getD ((enc x).length - 1) 0).toNat ≠ 0 := by
  intro x
  induction x using Nat.strongRecOn with
  | _ x ih =>
    intro h0
    by_cases h : x < 128
    · rw [enc_lt h]
      show (UInt8.ofNat x).toNat ≠ 0
      rw [UInt8.toNat_ofNat']; show x % 256 ≠ 0; omega
    · have h1 := ih (x / 128) (by omega) (by omega)
      have h2 := enc_pos (x / 128)
      rw [enc_ge (by omega), List.length_cons]
      obtain ⟨m, hm⟩ : ∃ m, (enc (x / 128)).length = m + 1 := ⟨(enc (x / 128)).length - 1, by omega⟩
      rw [hm] at h1 ⊢
      simpa [List.getD] using h1
set_option maxRecDepth 100000 in
set_option maxHeartbeats 1600000 in
theorem walkIn {w : World} (x : Nat) (hx : x ≤ 4611686018427387904) :
    Calls Try.prog 3 #[.int .i64 x] w fun e w' => e = .returned (.bool true) ∧ Below w.heap.size w w' := by
  have hx0 : (0 : Int) ≤ x := by omega
  have hx1 : (x : Int) ≤ 4611686018427387904 := by omega
  have hcl : clamp (x : Int) = x := by unfold clamp; omega
  have hml := enc_most x
  have h9 := enc_le9 hx
  have hen : encs [(x : Int)] = enc x := by simp [encs, hcl]
  have Hen := Lib.hid hen
  clear hen hcl
  obtain ⟨L, hL⟩ : ∃ L, L = enc x := ⟨_, rfl⟩
  have hhead := enc_head x
  have hlast := enc_last x
  rw [← hL] at hml h9 hhead hlast
  have HL := Lib.hid hL
  have Hhead := Lib.hid hhead
  have Hlast := Lib.hid hlast
  have Hml := Lib.hid hml
  clear hL hhead hlast hml
  go_enter Try.func3, Try.ntmps3
  go_wp2_with fail
  have h1 := ((addWr (Hold.start w) rfl).addLits (ints [(x : Int)]) 3 (by simp [ints, maxLen]) (b := w.heap.size + 1) (by simp)).up2
  refine (nums_any h1 _ [(x : Int)] Reads.row (by intro z hz; simp at hz; omega) (by simp)).mono ?_
  rintro e w1 ⟨rfl, h2⟩
  have h3 := h2.up2.drop1
  rw [Hen.out, List.nil_append, ← HL.out] at h3
  clear h1 h2
  go_wp2_with fail
  refine (out_any h3 (by omega)).mono ?_
  rintro e w2 ⟨v', rfl, hown, hb2⟩
  have h4 := h3.keeps hb2
  have hsl := Own.sl hown
  have hlen := hsl.run_len Try.underlying23
  have Hb4 := Lib.hid h4.old
  clear h3 h4 hb2
  go_wp2
  go_loop [5, 6] (fun n y => ∃ k m : Nat, k ≤ 4611686018427387904 ∧ m ≤ L.length ∧ y = .int .i64 k ∧ n = .int .i64 m ∧ m + most k = L.length) (fun _ y => (intOf y).toNat)
  case atStart => exact ⟨x / 128, 1, by omega, by have := Hml.out; omega, by first | rfl | (congr 1; omega), rfl, Hml.out.symm⟩
  case round =>
    obtain ⟨k, m, hk, hm, rfl, rfl, hkm⟩ := hrel
    have Hkm := Lib.hid hkm
    clear hkm
    by_cases hk0 : 0 < k
    · have hst := most_step k hk0
      go_wp2
      go_round
      case rel => exact ⟨k / 128, m + 1, by omega, by have := Hkm.out; omega, by first | rfl | (congr 1; omega), by go_num, by have := Hkm.out; omega⟩
      case measure => simp [intOf]; omega
    · obtain rfl : k = 0 := by omega
      have hmL : m = L.length := by have := Hkm.out; simpa [most] using this
      have hlp : 1 ≤ L.length := by have := Hml.out; omega
      subst hmL
      obtain ⟨A, hA, hblk, hcell⟩ := run_indexAt_sl (P := Try.prog) hsl Try.underlying23 Try.size5 .i64 (0 : Int) (by omega) (by omega)
      have hc := hcell 0 (by omega)
      rw [u8s_get _ _ (by simp; omega)] at hc
      obtain ⟨A2, hA2, hblk2, hcell2⟩ := run_indexAt_sl (P := Try.prog) hsl Try.underlying23 Try.size5 .i64 ((L.length : Int) - 1) (by omega) (by omega)
      have hc2 := hcell2 0 (by omega)
      rw [show ((L.length : Int) - 1).toNat * 1 + 0 = L.length - 1 from by omega, u8s_get _ _ (by omega)] at hc2
      simp only [add_zero] at hc hc2
      simp only [Int.toNat_zero, Nat.zero_mul, Nat.add_zero] at hc
      clear hcell hcell2
      by_cases h128 : x < 128
      · have hl1 : most (x / 128) = 0 := by rw [show x / 128 = 0 from by omega]; rfl
        have hL1 : L.length = 1 := by have := Hml.out; omega
        obtain ⟨c, hc'⟩ : ∃ c, c = L.getD 0 0 := ⟨_, rfl⟩
        have hcx : (c.toNat : Int) < 128 := by have := Hhead.out; rw [← hc', if_pos h128] at this; omega
        rw [← hc'] at hc
        clear hc' hl1
        have e1 : ((L.length : Int) == (L.length : Int)) = true := by simp
        have e2 : ((L.length : Int) == 1) = true := by simp [hL1]
        clear hL1
        go_wp2_with fail
        refine (known_any _).mono ?_
        rintro e w3 ⟨rfl, hb⟩
        go_wp2
        go_ret
        exact ⟨rfl, Hb4.out.trans (hb.mono Hb4.out.size)⟩
      · have hl1 : 1 ≤ most (x / 128) := by unfold most; rw [if_neg (by omega)]; exact enc_pos _
        have hL2 : 2 ≤ L.length := by have := Hml.out; omega
        obtain ⟨c, hc'⟩ : ∃ c, c = L.getD 0 0 := ⟨_, rfl⟩
        have hcx : ¬ (c.toNat : Int) < 128 := by have := Hhead.out; rw [← hc', if_neg h128] at this; omega
        obtain ⟨d, hd'⟩ : ∃ d, d = L.getD (L.length - 1) 0 := ⟨_, rfl⟩
        have hdx : ((d.toNat : Int) != 0) = true := by
          have := Hlast.out (by omega)
          rw [← hd'] at this
          simp only [bne_iff_ne, ne_eq]
          omega
        rw [← hc'] at hc
        rw [← hd'] at hc2
        clear hc' hl1 hd'
        have e1 : ((L.length : Int) == (L.length : Int)) = true := by simp
        have e2 : ((L.length : Int) == 1) = false := by simp; omega
        go_wp2_with fail
        refine (known_any _).mono ?_
        rintro e w3 ⟨rfl, hb⟩
        go_wp2
        go_ret
        exact ⟨ret_bool (a := !decide ((x : Int) < 128)) (by simp; omega), Hb4.out.trans (hb.mono Hb4.out.size)⟩
theorem walk {w : World} (a0 : Int) (w0 : (Lit.int .i64 a0).wf = true) :
    Calls Try.prog 3 #[.int .i64 a0] w fun e w' => e = .returned (.bool true) ∧ Below w.heap.size w w' := by
  have hx : -9223372036854775808 ≤ a0 ∧ a0 ≤ 9223372036854775807 := by simpa [Lit.wf, IntKind.min, IntKind.max, IntKind.signed, IntKind.bits] using w0
  by_cases h0 : a0 < 0
  · go_enter Try.func3, Try.ntmps3
    go_wp2_with fail
    refine (known_any _).mono ?_
    rintro e w1 ⟨rfl, hb⟩
    go_wp2
    go_ret
    exact ⟨rfl, hb⟩
  by_cases h1 : 4611686018427387904 < a0
  · go_enter Try.func3, Try.ntmps3
    go_wp2_with fail
    refine (known_any _).mono ?_
    rintro e w1 ⟨rfl, hb⟩
    go_wp2
    go_ret
    exact ⟨rfl, hb⟩
  obtain ⟨x, rfl⟩ := Int.eq_ofNat_of_zero_le (show 0 ≤ a0 by omega)
  exact walkIn x (by omega)
end Go.Proofs.Ytmdkgggbibdkmaa.octetSmall
