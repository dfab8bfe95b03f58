/-
  'texts' of the laws: are two lists of texts alike?
-/
import Derived.Test.YtindlfiifckdnaaDoorSchType
import Derived.Test.YtindlfiifckdnaaDoorFetch
import Derived.Deep.QuietTactic
import Derived.BigQuiet
namespace Go.Proofs.YtindlfiifckdnaaDoor.Sc
open Go.RowKit L
theorem take_eq_snocS {a b : List ByteArray} {k : Nat} (ha : k < a.length) (hb : k < b.length) (h : a.take k = b.take k) (h2 : a.getD k ByteArray.empty = b.getD k ByteArray.empty) : a.take (k + 1) = b.take (k + 1) := by
  rw [List.take_succ_eq_append_getElem ha, List.take_succ_eq_append_getElem hb, h]
  simp only [List.getD, List.getElem?_eq_getElem ha, List.getElem?_eq_getElem hb, Option.getD_some] at h2
  rw [h2]
set_option maxHeartbeats 800000 in
theorem texts_any (va vb : Value) (a b : List ByteArray) (w : World) (ha : Sl w 1 va a.length (strs a)) (hb : Sl w 1 vb b.length (strs b)) :
    Calls Tryd.prog 13 #[va, vb] w fun e w' => e = .returned (.bool (decide (a = b))) ∧ Below w.heap.size w w' := by
  have hlena := ha.run_len Tryd.underlying28
  have hlenb := hb.run_len Tryd.underlying28
  have hma := ha.le
  have hmb := hb.le
  unfold maxLen at hma hmb
  by_cases hne : a.length = b.length
  · have hd : ((a.length : Int) != (b.length : Int)) = false := by simp [hne]
    have hlt0 : a.length ≤ b.length := by omega
    have hlt1 : b.length ≤ a.length := by omega
    clear hne
    go_enter Tryd.func13, Tryd.ntmps13
    go_wp2
    go_loopw [5] (fun i wr => ∃ k : Nat, k ≤ a.length ∧ i = .int .i64 k ∧ a.take k = b.take k ∧ Below w.heap.size w wr) (fun i _ => a.length - (intOf i).toNat)
    case atStart => exact ⟨0, Nat.zero_le _, rfl, rfl, Below.refl _ _⟩
    case round =>
      obtain ⟨k, hk, rfl, htk, hbr⟩ := hrel
      have Htk := Lib.hid htk
      clear htk
      by_cases hlt : k < a.length
      · obtain ⟨A, hA, hblk, hcell⟩ := run_indexAt_sl (P := Tryd.prog) (ha.below' hbr) Tryd.underlying28 Tryd.size9 .i64 (k : Int) (by omega) (by omega)
        have hc := hcell 0 (by omega)
        rw [strs_get _ _ (by omega)] at hc
        obtain ⟨A2, hA2, hblk2, hcell2⟩ := run_indexAt_sl (P := Tryd.prog) (hb.below' hbr) Tryd.underlying28 Tryd.size9 .i64 (k : Int) (by omega) (by omega)
        have hc2 := hcell2 0 (by omega)
        rw [strs_get _ _ (by omega)] at hc2
        simp only [add_zero, Int.toNat_natCast, Nat.mul_one, Nat.add_zero] at hc hc2
        obtain ⟨x, hx⟩ : ∃ x, x = a.getD k ByteArray.empty := ⟨_, rfl⟩
        obtain ⟨y, hy⟩ : ∃ y, y = b.getD k ByteArray.empty := ⟨_, rfl⟩
        rw [← hx] at hc
        rw [← hy] at hc2
        have Hx := Lib.hid hx
        have Hy := Lib.hid hy
        clear hcell hcell2 hx hy
        by_cases hxy : x = y
        · subst hxy
          go_wp2
          go_quiet (fail)
          go_wp2
          go_roundw
          case rel => exact ⟨k + 1, by omega, by go_num, take_eq_snocS hlt (by omega) Htk.out (Hx.out.symm.trans Hy.out), bdn hbr _⟩
          case measure => simp [intOf]; omega
        · have hb1 : (x.toList == y.toList) = false := by
            rw [beq_eq_false_iff_ne]
            intro e
            rw [ByteArray.toList_eq, ByteArray.toList_eq] at e
            exact hxy (ByteArray.ext (Array.toList_inj.1 e))
          have hfin : a ≠ b := by
            intro h
            apply hxy
            rw [Hx.out, Hy.out, h]
          go_wp2
          go_quiet (fail)
          go_wp2
          go_ret
          exact ⟨congrArg Ending.returned (congrArg Value.bool (by simp [hfin])), bdn hbr _⟩
      · have hab : a = b := by
          have h1 : a.take k = a := List.take_of_length_le (by omega)
          have h2 : b.take k = b := List.take_of_length_le (by omega)
          have := Htk.out
          rwa [h1, h2] at this
        have Hab := Lib.hid hab
        clear hab
        go_wp2
        go_ret
        exact ⟨congrArg Ending.returned (congrArg Value.bool (by rw [Hab.out]; simp)), hbr⟩
  · have hd : ((a.length : Int) != (b.length : Int)) = true := by simp; omega
    have hfin : a ≠ b := by intro h; exact hne (by rw [h])
    go_enter Tryd.func13, Tryd.ntmps13
    go_wp2
    go_ret
    exact ⟨congrArg Ending.returned (congrArg Value.bool (by simp [hfin])), Below.refl _ _⟩
end Go.Proofs.YtindlfiifckdnaaDoor.Sc
