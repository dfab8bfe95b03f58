/-
  Texts that the proofs of this seat stand on, one behind the other: contracts of functions and plain lemmas. Conditions: those that each theorem states.
-/
import Derived.Test.YtfkingloapohjaaOctetClone
import Derived.Deep.QuietTactic
import Derived.BigQuiet
/-
  'same' of the laws: are two rows of bytes alike?
-/



namespace Go.Proofs.Ytfkingloapohjaa.Oct
open Go.RowKit L
theorem take_eq_snoc {a b : List UInt8} {k : Nat} (ha : k < a.length) (hb : k < b.length) (h : a.take k = b.take k) (h2 : a.getD k 0 = b.getD k 0) : a.take (k + 1) = b.take (k + 1) := by
  rw [List.take_succ_eq_append_getElem ha, List.take_succ_eq_append_getElem hb, h]
  simp only [List.getD, List.getElem?_eq_getElem ha, List.getElem?_eq_getElem hb, Option.getD_some] at h2
  rw [h2]
set_option maxHeartbeats 800000 in
theorem same_any (va vb : Value) (a b : List UInt8) (w : World) (ha : Sl w 1 va a.length (u8s a)) (hb : Sl w 1 vb b.length (u8s b)) :
    Calls Try.prog 13 #[va, vb] w fun e w' => e = .returned (.bool (decide (a = b))) ∧ Below w.heap.size w w' := by
  have hlena := ha.run_len Try.underlying23
  have hlenb := hb.run_len Try.underlying23
  have hma := ha.le
  have hmb := hb.le
  unfold maxLen at hma hmb
  by_cases hne : a.length = b.length
  · have hd : ((a.length : Int) != (b.length : Int)) = false := by simp [hne]
    have hlt0 : a.length ≤ b.length := by omega
    have hlt1 : b.length ≤ a.length := by omega
    clear hne
    go_enter Try.func13, Try.ntmps13
    go_wp2
    go_loopw [5] (fun i wr => ∃ k : Nat, k ≤ a.length ∧ i = .int .i64 k ∧ a.take k = b.take k ∧ Below w.heap.size w wr) (fun i _ => a.length - (intOf i).toNat)
    case atStart => exact ⟨0, Nat.zero_le _, rfl, rfl, Below.refl _ _⟩
    case round =>
      obtain ⟨k, hk, rfl, htk, hbr⟩ := hrel
      have Htk := Lib.hid htk
      clear htk
      by_cases hlt : k < a.length
      · obtain ⟨A, hA, hblk, hcell⟩ := run_indexAt_sl (P := Try.prog) (ha.below' hbr) Try.underlying23 Try.size5 .i64 (k : Int) (by omega) (by omega)
        have hc := hcell 0 (by omega)
        rw [u8s_get _ _ (by omega)] at hc
        obtain ⟨A2, hA2, hblk2, hcell2⟩ := run_indexAt_sl (P := Try.prog) (hb.below' hbr) Try.underlying23 Try.size5 .i64 (k : Int) (by omega) (by omega)
        have hc2 := hcell2 0 (by omega)
        rw [u8s_get _ _ (by omega)] at hc2
        simp only [add_zero, Int.toNat_natCast, Nat.mul_one, Nat.add_zero] at hc hc2
        obtain ⟨x, hx⟩ : ∃ x, x = a.getD k 0 := ⟨_, rfl⟩
        obtain ⟨y, hy⟩ : ∃ y, y = b.getD k 0 := ⟨_, rfl⟩
        rw [← hx] at hc
        rw [← hy] at hc2
        have Hx := Lib.hid hx
        have Hy := Lib.hid hy
        clear hcell hcell2 hx hy
        by_cases hxy : x = y
        · subst hxy
          go_wp2
          go_quiet (fail)
          go_wp2
          go_roundw
          case rel => exact ⟨k + 1, by omega, by go_num, take_eq_snoc hlt (by omega) Htk.out (Hx.out.symm.trans Hy.out), below_drewN hbr _⟩
          case measure => simp [intOf]; omega
        · have hb1 : ((x.toNat : Int) != (y.toNat : Int)) = true := by
            simp only [bne_iff_ne, ne_eq]
            intro h
            exact hxy (UInt8.toNat_inj.1 (by omega))
          have hfin : a ≠ b := by
            intro h
            apply hxy
            rw [Hx.out, Hy.out, h]
          go_wp2
          go_quiet (fail)
          go_wp2
          go_ret
          exact ⟨ret_bool (by simp [hfin]), below_drewN hbr _⟩
      · have hab : a = b := by
          have h1 : a.take k = a := List.take_of_length_le (by omega)
          have h2 : b.take k = b := List.take_of_length_le (by omega)
          have := Htk.out
          rwa [h1, h2] at this
        have Hab := Lib.hid hab
        clear hab
        go_wp2
        go_ret
        exact ⟨ret_bool (by rw [Hab.out]; simp), hbr⟩
  · have hd : ((a.length : Int) != (b.length : Int)) = true := by simp; omega
    have hfin : a ≠ b := by intro h; exact hne (by rw [h])
    go_enter Try.func13, Try.ntmps13
    go_wp2
    go_ret
    exact ⟨ret_bool (by simp [hfin]), Below.refl _ _⟩
end Go.Proofs.Ytfkingloapohjaa.Oct

/-
  'texts' of the laws: are two lists of texts alike?
-/

namespace Go.Proofs.Ytfkingloapohjaa.Oct
open Go.RowKit L
theorem take_eq_snocS {a b : List ByteArray} {k : Nat} (ha : k < a.length) (hb : k < b.length) (h : a.take k = b.take k) (h2 : a.getD k ByteArray.empty = b.getD k ByteArray.empty) : a.take (k + 1) = b.take (k + 1) := by
  rw [List.take_succ_eq_append_getElem ha, List.take_succ_eq_append_getElem hb, h]
  simp only [List.getD, List.getElem?_eq_getElem ha, List.getElem?_eq_getElem hb, Option.getD_some] at h2
  rw [h2]
set_option maxHeartbeats 800000 in
theorem texts_any (va vb : Value) (a b : List ByteArray) (w : World) (ha : Sl w 1 va a.length (strs a)) (hb : Sl w 1 vb b.length (strs b)) :
    Calls Try.prog 15 #[va, vb] w fun e w' => e = .returned (.bool (decide (a = b))) ∧ Below w.heap.size w w' := by
  have hlena := ha.run_len Try.underlying38
  have hlenb := hb.run_len Try.underlying38
  have hma := ha.le
  have hmb := hb.le
  unfold maxLen at hma hmb
  by_cases hne : a.length = b.length
  · have hd : ((a.length : Int) != (b.length : Int)) = false := by simp [hne]
    have hlt0 : a.length ≤ b.length := by omega
    have hlt1 : b.length ≤ a.length := by omega
    clear hne
    go_enter Try.func15, Try.ntmps15
    go_wp2
    go_loopw [5] (fun i wr => ∃ k : Nat, k ≤ a.length ∧ i = .int .i64 k ∧ a.take k = b.take k ∧ Below w.heap.size w wr) (fun i _ => a.length - (intOf i).toNat)
    case atStart => exact ⟨0, Nat.zero_le _, rfl, rfl, Below.refl _ _⟩
    case round =>
      obtain ⟨k, hk, rfl, htk, hbr⟩ := hrel
      have Htk := Lib.hid htk
      clear htk
      by_cases hlt : k < a.length
      · obtain ⟨A, hA, hblk, hcell⟩ := run_indexAt_sl (P := Try.prog) (ha.below' hbr) Try.underlying38 Try.size9 .i64 (k : Int) (by omega) (by omega)
        have hc := hcell 0 (by omega)
        rw [strs_get _ _ (by omega)] at hc
        obtain ⟨A2, hA2, hblk2, hcell2⟩ := run_indexAt_sl (P := Try.prog) (hb.below' hbr) Try.underlying38 Try.size9 .i64 (k : Int) (by omega) (by omega)
        have hc2 := hcell2 0 (by omega)
        rw [strs_get _ _ (by omega)] at hc2
        simp only [add_zero, Int.toNat_natCast, Nat.mul_one, Nat.add_zero] at hc hc2
        obtain ⟨x, hx⟩ : ∃ x, x = a.getD k ByteArray.empty := ⟨_, rfl⟩
        obtain ⟨y, hy⟩ : ∃ y, y = b.getD k ByteArray.empty := ⟨_, rfl⟩
        rw [← hx] at hc
        rw [← hy] at hc2
        have Hx := Lib.hid hx
        have Hy := Lib.hid hy
        clear hcell hcell2 hx hy
        by_cases hxy : x = y
        · subst hxy
          go_wp2
          go_quiet (fail)
          go_wp2
          go_roundw
          case rel => exact ⟨k + 1, by omega, by go_num, take_eq_snocS hlt (by omega) Htk.out (Hx.out.symm.trans Hy.out), below_drewN hbr _⟩
          case measure => simp [intOf]; omega
        · have hb1 : (x.toList == y.toList) = false := by
            rw [beq_eq_false_iff_ne]
            intro e
            rw [ByteArray.toList_eq, ByteArray.toList_eq] at e
            exact hxy (ByteArray.ext (Array.toList_inj.1 e))
          have hfin : a ≠ b := by
            intro h
            apply hxy
            rw [Hx.out, Hy.out, h]
          go_wp2
          go_quiet (fail)
          go_wp2
          go_ret
          exact ⟨ret_bool (by simp [hfin]), below_drewN hbr _⟩
      · have hab : a = b := by
          have h1 : a.take k = a := List.take_of_length_le (by omega)
          have h2 : b.take k = b := List.take_of_length_le (by omega)
          have := Htk.out
          rwa [h1, h2] at this
        have Hab := Lib.hid hab
        clear hab
        go_wp2
        go_ret
        exact ⟨ret_bool (by rw [Hab.out]; simp), hbr⟩
  · have hd : ((a.length : Int) != (b.length : Int)) = true := by simp; omega
    have hfin : a ≠ b := by intro h; exact hne (by rw [h])
    go_enter Try.func15, Try.ntmps15
    go_wp2
    go_ret
    exact ⟨ret_bool (by simp [hfin]), Below.refl _ _⟩
end Go.Proofs.Ytfkingloapohjaa.Oct
