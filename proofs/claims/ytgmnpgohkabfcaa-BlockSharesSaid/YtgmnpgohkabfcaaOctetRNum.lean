/-
  The reference's Num and Nums of chapter 1: what they answer.
-/
import Derived.Test.YtgmnpgohkabfcaaOctetWr
import Derived.Test.YtgmnpgohkabfcaaOctetBase
namespace Go.Proofs.Ytgmnpgohkabfcaa.Oct
open Go.RowKit L
theorem and127 (u : Nat) (hu : u ≤ 4611686018427387904) : bits .or .u8 (bits .and .u64 (u : Int) 127 % 256) 128 = ((UInt8.ofNat (u % 128 + 128)).toNat : Int) := by
  have e : (u &&& 127) = u % 128 := Nat.and_two_pow_sub_one_eq_mod u 7
  rw [show (127 : Int) = ((127 : Nat) : Int) from rfl, u64_and_nat u 127 (by omega) (by omega), e, ← or128 u]
  have h1 : ((u % 128 : Nat) : Int) % 256 = ((u % 128 : Nat) : Int) := by omega
  rw [h1, show ((u : Int) % 256) = ((u % 256 : Nat) : Int) from by omega]
  rw [show (128 : Int) = ((128 : Nat) : Int) from rfl, u8_or_nat _ _ (by omega) (by omega), u8_or_nat _ _ (by omega) (by omega)]
  congr 1
  have h2 : ∀ a : Fin 256, (a.val % 128 ||| 128) = (a.val ||| 128) := by decide +kernel
  have := h2 ⟨u % 256, by omega⟩
  simp only at this
  rw [← this]
  congr 1
  omega
set_option maxRecDepth 100000 in
set_option maxHeartbeats 1600000 in
theorem rnum_any (z : Int) (hz : -9223372036854775808 ≤ z ∧ z ≤ 9223372036854775807) (w : World) :
    Calls Try.prog 33 #[.int .i64 z] w (RetV fun v' w' => Own w' w.heap.size 5 1 v' (enc (clamp z)).length (u8s (enc (clamp z))) ∧ Below w.heap.size w w') := by
  obtain ⟨i5, hi, hz0, hz1, hz2⟩ := info_parts Try.info5
  have hcl := clamp_le z
  have h9 := enc_le9 hcl
  have hcz : z ≤ 0 ∧ clamp z = 0 ∨ 0 < z ∧ z ≤ 4611686018427387904 ∧ (clamp z : Int) = z ∨ 4611686018427387904 < z ∧ clamp z = 4611686018427387904 := by unfold clamp; omega
  obtain ⟨C, hC⟩ : ∃ C, C = clamp z := ⟨_, rfl⟩
  rw [← hC] at hcz h9 hcl ⊢
  clear hC
  go_enter Try.func33, Try.ntmps33
  rcases hcz with ⟨hz1', hz2'⟩ | ⟨hz1', hz2', hz3'⟩ | ⟨hz1', hz2'⟩
  all_goals
    go_wp2
    go_loopw [3, 4] (fun x y wr => ∃ (u : Nat) (l1 : List UInt8), u ≤ 4611686018427387904 ∧ x = .int .u64 u ∧ Own wr w.heap.size 5 1 y l1.length (u8s l1) ∧ Below w.heap.size w wr ∧ l1 ++ enc u = enc C) (fun x _ _ => (intOf x).toNat)
    case atStart => exact ⟨C, [], hcl, by first | (rw [hz3']) | (rw [hz2']; rfl), Own.nil _ _ _ _, Below.refl _ _, rfl⟩
    case round =>
      obtain ⟨u, l1, hu, rfl, hown, hbl, hl1⟩ := hrel
      have hll : l1.length + (enc u).length ≤ 9 := by
        have := congrArg List.length hl1
        simp only [List.length_append] at this
        omega
      have hep := enc_pos u
      have Hl1 := Lib.hid hl1
      clear hl1
      by_cases h128 : u < 128
      · obtain ⟨c, rfl⟩ : ∃ c : UInt8, u = c.toNat := ⟨UInt8.ofNat u, by rw [UInt8.toNat_ofNat']; show u = u % 256; omega⟩
        have hbl1 := hbl.alloc hbl.size (.cells (u8s [c]).toArray 5)
        have hown1 := hown.alloc (.cells (u8s [c]).toArray 5)
        go_wp2_with (at_builtin; refine wpList_append_row _ rfl _ _ 24 rfl 5 i5 (.int .u8 0) 1 1 Try.underlying24 hi hz0 hz1 hz2 rfl (by decide) _ l1.length (u8s l1) rfl hown1.zero _ 1 (u8s [c]) rfl (sl_built wr (u8s [c]) 5 (by simp [u8s, maxLen])) (u8s_one _) (by unfold maxLen; omega) (by omega) ?_; intro v' w1 hown' hk hsub hnil; obtain ⟨ho2, hb2⟩ := hown1.grow hbl1 hbl1.size hown' hk hsub)
        go_ret
        have hfin : enc C = l1 ++ [c] := by
          rw [← Hl1.out, enc_lt h128]
          congr 2
          apply UInt8.toNat_inj.1
          simp
        exact ⟨_, rfl, by rw [hfin, u8s_append, List.length_append]; exact ho2, hb2⟩
      · obtain ⟨c, hcu⟩ : ∃ c, c = UInt8.ofNat (u % 128 + 128) := ⟨_, rfl⟩
        have hor := and127 u hu
        rw [← hcu] at hor
        have Hcu := Lib.hid hcu
        clear hcu
        have hbl1 := hbl.alloc hbl.size (.cells (u8s [c]).toArray 5)
        have hown1 := hown.alloc (.cells (u8s [c]).toArray 5)
        go_wp2_with (at_builtin; refine wpList_append_row _ rfl _ _ 24 rfl 5 i5 (.int .u8 0) 1 1 Try.underlying24 hi hz0 hz1 hz2 rfl (by decide) _ l1.length (u8s l1) rfl hown1.zero _ 1 (u8s [c]) rfl (sl_built wr (u8s [c]) 5 (by simp [u8s, maxLen])) (u8s_one _) (by unfold maxLen; omega) (by omega) ?_; intro v' w1 hown' hk hsub hnil; obtain ⟨ho2, hb2⟩ := hown1.grow hbl1 hbl1.size hown' hk hsub; clear hown' hk hsub hnil)
        have hfin : (l1 ++ [c]) ++ enc (u / 128) = enc C := by
          rw [← Hl1.out, enc_ge (u := u) (by omega), List.append_assoc, ← Hcu.out]
          rfl
        go_roundw
        case rel => exact ⟨u / 128, l1 ++ [c], by omega, by go_num, by rw [u8s_append, List.length_append]; exact ho2, hb2, hfin⟩
        case measure => simp [intOf]; omega
set_option maxRecDepth 100000 in
set_option maxHeartbeats 800000 in
theorem rrow_any (v : Value) (l : List UInt8) (w : World) (hv : Sl w 1 v l.length (u8s l)) (hn : l.length ≤ 100000000000000) :
    Calls Try.prog 34 #[v] w (RetV fun v' w' => Own w' w.heap.size 5 1 v' (row l).length (u8s (row l)) ∧ Below w.heap.size w w') := by
  have hlen := hv.run_len Try.underlying24
  have hcl : clamp (l.length : Int) = l.length := by unfold clamp; omega
  have h9 := enc_le9 (clamp_le (l.length : Int))
  have Hcl := Lib.hid hcl
  rw [hcl] at h9
  clear hcl
  go_enter Try.func34, Try.ntmps34
  go_wp2_with fail
  refine (rnum_any (l.length : Int) (by omega) w).mono ?_
  rintro e w1 ⟨v1, rfl, ho1, hb1⟩
  rw [Hcl.out] at ho1
  have hv1 := hv.below' hb1
  have H1 := Hold.of_own ho1 hb1
  clear ho1 hb1
  go_wp2_with (at_builtin; refine wpList_app el8 H1 rfl _ _ rfl rfl rfl hv1 (u8s_one _) (by omega) (by omega) ?_; intro v2 xs2 w2 X2 H2; obtain ⟨ho, hb⟩ := H2.fin)
  have Ho : Hid (Own w2 w.heap.size 5 1 v2 (row l).length (u8s (row l))) := by
    refine Lib.hid ?_
    have e : xs2 = u8s (row l) := by rw [X2.out, row, u8s_append]
    rw [e] at ho
    have e2 : (row l).length = (enc l.length).length + l.length := by simp [row]
    rw [e2]
    exact ho
  clear ho H2
  go_ret
  exact ⟨_, rfl, Ho.out, hb⟩
end Go.Proofs.Ytgmnpgohkabfcaa.Oct
