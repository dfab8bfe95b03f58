/-
  'spoil' of the laws: what it is given, and owned, is written over.
-/
import Derived.Test.YtmdkgggbibdkmaaOctetClone
import Derived.Test.YtmdkgggbibdkmaaGrow
namespace Go.Proofs.Ytmdkgggbibdkmaa.Oct
open Go.RowKit L
set_option maxRecDepth 100000 in
set_option maxHeartbeats 800000 in
theorem spoil_any {W0 w : World} {R : Asrt} {v : Value} {n : Nat} {xs : List Value} (h : Hold W0 ((Row 5 1 v n xs).sep R) w) (hn : n ≤ 100000000000000) :
    Calls Try.prog 17 #[v] w fun e w' => e = .returned (.tuple #[]) ∧ Hold W0 R w' := by
  obtain ⟨i5, hi, hz0, hz1, hz2⟩ := info_parts Try.info5
  have hal := h.keeps ((Below.refl _ _).alloc (Nat.le_refl _) (.cells (u8s [99]).toArray 5))
  have hown := hal.own
  go_enter Try.func17, Try.ntmps17
  go_wp2_with (at_builtin; refine wpList_append_row _ rfl _ _ 23 rfl 5 i5 (.int .u8 0) 1 1 Try.underlying23 hi hz0 hz1 hz2 rfl (by decide) _ n xs rfl hown _ 1 (u8s [99]) rfl (sl_built w (u8s [99]) 5 (by simp [u8s, maxLen])) (u8s_one _) (by unfold maxLen; omega) (by omega) ?_; intro v' w1 hown' hk hsub hnil; have hH := hal.grow hown' hk hsub; have hlen := hown'.sl.run_len Try.underlying23)
  have H1 := Lib.hid hal
  clear hal hown hown' hk hsub hnil
  go_loopw [3] (fun i wr => ∃ (k : Nat) (ys : List Value), k ≤ n + 1 ∧ i = .int .i64 k ∧ Hold W0 ((Row 5 1 v' (n + 1) ys).sep R) wr) (fun i _ => n + 1 - (intOf i).toNat)
  case atStart => exact ⟨0, _, Nat.zero_le _, rfl, hH⟩
  case round =>
    obtain ⟨k, ys, hk, rfl, hHr⟩ := hrel
    by_cases hlt : k < n + 1
    · obtain ⟨A, hA, hc, hf, hset⟩ := hHr.index (P := Try.prog) Try.underlying23 Try.size5 .i64 (k : Int) (by omega) (by omega)
      have hs := hset (.int .u8 98)
      have Hs := Lib.hid hs
      clear hs hset hHr hH
      have hlt2 : (k : Int) < ((n + 1 : Nat) : Int) := by omega
      go_wp2
      go_roundw
      case rel => exact ⟨k + 1, _, by omega, by go_num, Hs.out⟩
      case measure => simp [intOf]; omega
    · clear hH
      have Hs := Lib.hid hHr
      clear hHr
      go_wp2
      go_end0
      exact ⟨rfl, Hs.out.drop1⟩
set_option maxRecDepth 100000 in
set_option maxHeartbeats 800000 in
theorem spoil_zero (p0 : Addr) (w : World) :
    Calls Try.prog 17 #[.slice (some p0) 0 0] w fun e w' => e = .returned (.tuple #[]) ∧ Below w.heap.size w w' := by
  have E : ElemOk Try.prog 23 5 1 1 := elemOk Try.underlying23 Try.info5 rfl (by decide)
  go_enter Try.func17, Try.ntmps17
  go_wp2_with (at_builtin; refine wpList_appZ E p0 (u8s [99]) (by decide) rfl _ _ rfl rfl rfl rfl (by decide) (by decide) ?_; intro v' w1 hH; have hlen := hH.sl.run_len Try.underlying23)
  go_loopw [3] (fun i wr => ∃ (k : Nat) (ys : List Value), k ≤ 1 ∧ i = .int .i64 k ∧ Hold (w.alloc (.cells (u8s [99]).toArray 5)) ((Row 5 1 v' 1 ys).sep Asrt.emp) wr) (fun i _ => 1 - (intOf i).toNat)
  case atStart => exact ⟨0, _, Nat.zero_le _, rfl, hH⟩
  case round =>
    obtain ⟨k, ys, hk, rfl, hHr⟩ := hrel
    by_cases hlt : k < 1
    · obtain rfl : k = 0 := by omega
      obtain ⟨A, hA, hc, hf, hset⟩ := hHr.index (P := Try.prog) Try.underlying23 Try.size5 .i64 0 (by omega) (by omega)
      have hs := hset (.int .u8 98)
      have Hs := Lib.hid hs
      clear hs hset hHr hH
      go_wp2
      go_roundw
      case rel => exact ⟨1, _, Nat.le_refl _, rfl, Hs.out⟩
      case measure => simp [intOf]
    · clear hH
      have hfin := ((Below.refl w.heap.size w).alloc (Nat.le_refl _) (.cells (u8s [99]).toArray 5)).trans (hHr.old.mono (by simp))
      have Hs := Lib.hid hfin
      clear hHr hfin
      obtain rfl : k = 1 := by omega
      go_wp2
      go_end0
      exact ⟨rfl, Hs.out⟩
end Go.Proofs.Ytmdkgggbibdkmaa.Oct
