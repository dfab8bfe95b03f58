/-
  The reference's Num and Nums of chapter 1: what they answer.
-/
import Derived.Test.YtmdkgggbibdkmaaOctetWr
import Derived.Test.YtmdkgggbibdkmaaOctetHelp
namespace Go.Proofs.Ytmdkgggbibdkmaa.Oct
open Go.RowKit L
theorem and127 (u : Nat) (hu : u ≤ 4611686018427387904) : bits .or .u8 (bits .and .u64 (u : Int) 127 % 256) 128 = ((UInt8.ofNat (u % 128 + 128)).toNat : Int) := by
  have e : (u &&& 127) = u % 128 := Nat.and_two_pow_sub_one_eq_mod u 7
  rw [show (127 : Int) = ((127 : Nat) : Int) from rfl, u64_and_nat u 127 (by omega) (by omega), e, ← or128 u]
  have h1 : ((u % 128 : Nat) : Int) % 256 = ((u % 128 : Nat) : Int) := by omega
  rw [h1, show ((u : Int) % 256) = ((u % 256 : Nat) : Int) from by omega]
  rw [show (128 : Int) = ((128 : Nat) : Int) from rfl, u8_or_nat _ _ (by omega) (by omega), u8_or_nat _ _ (by omega) (by omega)]
  congr 1
  have h2 : ∀ a : Fin 256, (a.val % 128 ||| 128) = (a.val ||| 128) := by decide +kernel
  have := h2 ⟨u % 256, by omega⟩
  simp only at this
  rw [← this]
  congr 1
  omega
set_option maxRecDepth 100000 in
set_option maxHeartbeats 1600000 in
theorem rnum_any (z : Int) (hz : -9223372036854775808 ≤ z ∧ z ≤ 9223372036854775807) (w : World) :
    Calls Try.prog 41 #[.int .i64 z] w (RetV fun v' w' => Own w' w.heap.size 5 1 v' (enc (clamp z)).length (u8s (enc (clamp z))) ∧ Below w.heap.size w w') := by
  obtain ⟨i5, hi, hz0, hz1, hz2⟩ := info_parts Try.info5
  have hcl := clamp_le z
  have h9 := enc_le9 hcl
  have hcz : z ≤ 0 ∧ clamp z = 0 ∨ 0 < z ∧ z ≤ 4611686018427387904 ∧ (clamp z : Int) = z ∨ 4611686018427387904 < z ∧ clamp z = 4611686018427387904 := by unfold clamp; omega
  obtain ⟨C, hC⟩ : ∃ C, C = clamp z := ⟨_, rfl⟩
  rw [← hC] at hcz h9 hcl ⊢
  clear hC
  go_enter Try.func41, Try.ntmps41
  rcases hcz with ⟨hz1', hz2'⟩ | ⟨hz1', hz2', hz3'⟩ | ⟨hz1', hz2'⟩
  all_goals
    go_wp2
    go_loopw [3, 4] (fun x y wr => ∃ (u : Nat) (l1 : List UInt8), u ≤ 4611686018427387904 ∧ x = .int .u64 u ∧ Own wr w.heap.size 5 1 y l1.length (u8s l1) ∧ Below w.heap.size w wr ∧ l1 ++ enc u = enc C) (fun x _ _ => (intOf x).toNat)
    case atStart => exact ⟨C, [], hcl, by first | (rw [hz3']) | (rw [hz2']; rfl), Own.nil _ _ _ _, Below.refl _ _, rfl⟩
    case round =>
      obtain ⟨u, l1, hu, rfl, hown, hbl, hl1⟩ := hrel
      have hll : l1.length + (enc u).length ≤ 9 := by
        have := congrArg List.length hl1
        simp only [List.length_append] at this
        omega
      have hep := enc_pos u
      have Hl1 := Lib.hid hl1
      clear hl1
      by_cases h128 : u < 128
      · obtain ⟨c, rfl⟩ : ∃ c : UInt8, u = c.toNat := ⟨UInt8.ofNat u, by rw [UInt8.toNat_ofNat']; show u = u % 256; omega⟩
        have hbl1 := hbl.alloc hbl.size (.cells (u8s [c]).toArray 5)
        have hown1 := hown.alloc (.cells (u8s [c]).toArray 5)
        go_wp2_with (at_builtin; refine wpList_append_row _ rfl _ _ 23 rfl 5 i5 (.int .u8 0) 1 1 Try.underlying23 hi hz0 hz1 hz2 rfl (by decide) _ l1.length (u8s l1) rfl hown1.zero _ 1 (u8s [c]) rfl (sl_built wr (u8s [c]) 5 (by simp [u8s, maxLen])) (u8s_one _) (by unfold maxLen; omega) (by omega) ?_; intro v' w1 hown' hk hsub hnil; obtain ⟨ho2, hb2⟩ := hown1.grow hbl1 hbl1.size hown' hk hsub)
        go_ret
        have hfin : enc C = l1 ++ [c] := by
          rw [← Hl1.out, enc_lt h128]
          congr 2
          apply UInt8.toNat_inj.1
          simp
        exact ⟨_, rfl, by rw [hfin, u8s_append, List.length_append]; exact ho2, hb2⟩
      · obtain ⟨c, hcu⟩ : ∃ c, c = UInt8.ofNat (u % 128 + 128) := ⟨_, rfl⟩
        have hor := and127 u hu
        rw [← hcu] at hor
        have Hcu := Lib.hid hcu
        clear hcu
        have hbl1 := hbl.alloc hbl.size (.cells (u8s [c]).toArray 5)
        have hown1 := hown.alloc (.cells (u8s [c]).toArray 5)
        go_wp2_with (at_builtin; refine wpList_append_row _ rfl _ _ 23 rfl 5 i5 (.int .u8 0) 1 1 Try.underlying23 hi hz0 hz1 hz2 rfl (by decide) _ l1.length (u8s l1) rfl hown1.zero _ 1 (u8s [c]) rfl (sl_built wr (u8s [c]) 5 (by simp [u8s, maxLen])) (u8s_one _) (by unfold maxLen; omega) (by omega) ?_; intro v' w1 hown' hk hsub hnil; obtain ⟨ho2, hb2⟩ := hown1.grow hbl1 hbl1.size hown' hk hsub; clear hown' hk hsub hnil)
        have hfin : (l1 ++ [c]) ++ enc (u / 128) = enc C := by
          rw [← Hl1.out, enc_ge (u := u) (by omega), List.append_assoc, ← Hcu.out]
          rfl
        go_roundw
        case rel => exact ⟨u / 128, l1 ++ [c], by omega, by go_num, by rw [u8s_append, List.length_append]; exact ho2, hb2, hfin⟩
        case measure => simp [intOf]; omega
set_option maxRecDepth 100000 in
set_option maxHeartbeats 1600000 in
theorem rnums_any (va : Value) (zs : List Int) (hz : ∀ z ∈ zs, -9223372036854775808 ≤ z ∧ z ≤ 9223372036854775807) (w : World) (ha : Sl w 1 va zs.length (ints zs)) (hn : zs.length ≤ 10000000000000) :
    Calls Try.prog 15 #[va] w (RetV fun v' w' => Own w' w.heap.size 5 1 v' (encs zs).length (u8s (encs zs)) ∧ Below w.heap.size w w') := by
  obtain ⟨i5, hi, hz0, hz1, hz2⟩ := info_parts Try.info5
  have hlen := ha.run_len Try.underlying30
  have Hz := Lib.hid hz
  clear hz
  go_enter Try.func15, Try.ntmps15
  go_wp2
  go_loopw [3, 4] (fun y i wr => ∃ k : Nat, k ≤ zs.length ∧ i = .int .i64 k ∧ Own wr w.heap.size 5 1 y (encs (zs.take k)).length (u8s (encs (zs.take k))) ∧ Below w.heap.size w wr) (fun _ i _ => zs.length - (intOf i).toNat)
  case atStart => exact ⟨0, Nat.zero_le _, rfl, by simpa [encs, u8s] using Own.nil _ _ _ _, Below.refl _ _⟩
  case round =>
    obtain ⟨k, hk, rfl, hown, hbl⟩ := hrel
    by_cases hlt : k < zs.length
    · obtain ⟨z, hze⟩ : ∃ z, z = zs[k] := ⟨_, rfl⟩
      obtain ⟨A, hA, hblk, hcell⟩ := run_indexAt_sl (P := Try.prog) (ha.below' hbl) Try.underlying30 Try.size3 .i64 (k : Int) (by omega) (by omega)
      have hc := hcell 0 (by omega)
      have hzb := Hz.out z (by rw [hze]; exact List.getElem_mem _)
      simp only [add_zero, Int.toNat_natCast, Nat.mul_one, Nat.add_zero, ints, List.getD, List.getElem?_map, List.getElem?_eq_getElem hlt, Option.map_some, Option.getD_some] at hc
      rw [← hze] at hc
      have htk : zs.take (k + 1) = zs.take k ++ [z] := by rw [List.take_succ_eq_append_getElem hlt, hze]
      have Htk : Hid (encs (zs.take (k + 1)) = encs (zs.take k) ++ enc (clamp z)) := by show _ = _; rw [htk, encs_snoc]
      have hle : (encs (zs.take k)).length ≤ 9 * k := by have := encs_length (zs.take k); simp at this; omega
      have h9 := enc_le9 (clamp_le z)
      clear hcell hze htk
      go_wp2_with fail
      refine (rnum_any z hzb wr).mono ?_
      rintro e w1 ⟨v1, rfl, hv1, hb1⟩
      have hown1 := hown.below hb1
      have hbl1 := hbl.trans (hb1.mono hbl.size)
      have hsl1 := hv1.sl
      obtain ⟨m, hm⟩ : ∃ m, m = (enc (clamp z)).length := ⟨_, rfl⟩
      obtain ⟨x, hx⟩ : ∃ x, x = enc (clamp z) := ⟨_, rfl⟩
      rw [← hx] at hsl1 h9 Htk
      clear hv1 hb1 hm hx
      go_wp2_with (at_builtin; refine wpList_append_row _ rfl _ _ 23 rfl 5 i5 (.int .u8 0) 1 1 Try.underlying23 hi hz0 hz1 hz2 rfl (by decide) _ (encs (zs.take k)).length _ rfl hown1.zero _ x.length (u8s x) rfl hsl1 (u8s_one _) (by unfold maxLen; omega) (by omega) ?_; intro v' w2 hown' hk hsub hnil; obtain ⟨ho2, hb2⟩ := hown1.grow hbl1 hbl1.size hown' hk hsub; clear hown' hk hsub hnil)
      have Ho2 := Lib.hid ho2
      clear ho2
      go_roundw
      case rel => exact ⟨k + 1, by omega, by go_num, by rw [Htk.out, u8s_append, List.length_append]; exact Ho2.out, hb2⟩
      case measure => simp [intOf]; omega
    · obtain rfl : k = zs.length := by omega
      rw [List.take_length] at hown
      have Ho := Lib.hid hown
      clear hown
      go_wp2
      go_ret
      exact ⟨_, rfl, Ho.out, hbl⟩
set_option maxRecDepth 100000 in
set_option maxHeartbeats 800000 in
theorem rrow_any (v : Value) (l : List UInt8) (w : World) (hv : Sl w 1 v l.length (u8s l)) (hn : l.length ≤ 100000000000000) :
    Calls Try.prog 28 #[v] w (RetV fun v' w' => Own w' w.heap.size 5 1 v' (row l).length (u8s (row l)) ∧ Below w.heap.size w w') := by
  have hlen := hv.run_len Try.underlying23
  have hcl : clamp (l.length : Int) = l.length := by unfold clamp; omega
  have h9 := enc_le9 (clamp_le (l.length : Int))
  have Hcl := Lib.hid hcl
  rw [hcl] at h9
  clear hcl
  go_enter Try.func28, Try.ntmps28
  go_wp2_with fail
  refine (rnum_any (l.length : Int) (by omega) w).mono ?_
  rintro e w1 ⟨v1, rfl, ho1, hb1⟩
  rw [Hcl.out] at ho1
  have hv1 := hv.below' hb1
  have H1 := Hold.of_own ho1 hb1
  clear ho1 hb1
  go_wp2_with (at_builtin; refine wpList_app el8 H1 rfl _ _ rfl rfl rfl hv1 (u8s_one _) (by omega) (by omega) ?_; intro v2 xs2 w2 X2 H2; obtain ⟨ho, hb⟩ := H2.fin)
  have Ho : Hid (Own w2 w.heap.size 5 1 v2 (row l).length (u8s (row l))) := by
    refine Lib.hid ?_
    have e : xs2 = u8s (row l) := by rw [X2.out, row, u8s_append]
    rw [e] at ho
    have e2 : (row l).length = (enc l.length).length + l.length := by simp [row]
    rw [e2]
    exact ho
  clear ho H2
  go_ret
  exact ⟨_, rfl, Ho.out, hb⟩
end Go.Proofs.Ytmdkgggbibdkmaa.Oct
