/-
  Part 4 of the texts that the proofs of this seat stand on: contracts of functions and plain lemmas, one text behind the other. Conditions: those that each theorem states.
-/
import Derived.Shelf.Bytes.SlSearch0
import Derived.Ground.SlbCloneProg
import Derived.Shelf.Bytes.SlClone
import Derived.Ground.SlbNamesProg
import Derived.Shelf.Bytes.SlJoin
import Derived.Shelf.Bytes.SlEqualAll
import Derived.Shelf.Bytes.Small
import Derived.Test.YtbepbbjeieafhaaProg
import Derived.Test.YtbepbbjeieafhaaM3
/-
  The reference's Num and Nums of chapter 1: what they answer.
-/


namespace Go.Proofs.Ytbepbbjeieafhaa.Oct
open Go.RowKit L
theorem and127 (u : Nat) (hu : u ≤ 4611686018427387904) : bits .or .u8 (bits .and .u64 (u : Int) 127 % 256) 128 = ((UInt8.ofNat (u % 128 + 128)).toNat : Int) := by
  have e : (u &&& 127) = u % 128 := Nat.and_two_pow_sub_one_eq_mod u 7
  rw [show (127 : Int) = ((127 : Nat) : Int) from rfl, u64_and_nat u 127 (by omega) (by omega), e, ← or128 u]
  have h1 : ((u % 128 : Nat) : Int) % 256 = ((u % 128 : Nat) : Int) := by omega
  rw [h1, show ((u : Int) % 256) = ((u % 256 : Nat) : Int) from by omega]
  rw [show (128 : Int) = ((128 : Nat) : Int) from rfl, u8_or_nat _ _ (by omega) (by omega), u8_or_nat _ _ (by omega) (by omega)]
  congr 1
  have h2 : ∀ a : Fin 256, (a.val % 128 ||| 128) = (a.val ||| 128) := by decide +kernel
  have := h2 ⟨u % 256, by omega⟩
  simp only at this
  rw [← this]
  congr 1
  omega
set_option maxRecDepth 100000 in
set_option maxHeartbeats 1600000 in
theorem rnum_any (z : Int) (hz : -9223372036854775808 ≤ z ∧ z ≤ 9223372036854775807) (w : World) :
    Calls Try.prog 35 #[.int .i64 z] w (RetV fun v' w' => Own w' w.heap.size 5 1 v' (enc (clamp z)).length (u8s (enc (clamp z))) ∧ Below w.heap.size w w') := by
  obtain ⟨i5, hi, hz0, hz1, hz2⟩ := info_parts Try.info5
  have hcl := clamp_le z
  have h9 := enc_le9 hcl
  have hcz : z ≤ 0 ∧ clamp z = 0 ∨ 0 < z ∧ z ≤ 4611686018427387904 ∧ (clamp z : Int) = z ∨ 4611686018427387904 < z ∧ clamp z = 4611686018427387904 := by unfold clamp; omega
  obtain ⟨C, hC⟩ : ∃ C, C = clamp z := ⟨_, rfl⟩
  rw [← hC] at hcz h9 hcl ⊢
  clear hC
  go_enter Try.func35, Try.ntmps35
  rcases hcz with ⟨hz1', hz2'⟩ | ⟨hz1', hz2', hz3'⟩ | ⟨hz1', hz2'⟩
  all_goals
    go_wp2
    go_loopw [3, 4] (fun x y wr => ∃ (u : Nat) (l1 : List UInt8), u ≤ 4611686018427387904 ∧ x = .int .u64 u ∧ Own wr w.heap.size 5 1 y l1.length (u8s l1) ∧ Below w.heap.size w wr ∧ l1 ++ enc u = enc C) (fun x _ _ => (intOf x).toNat)
    case atStart => exact ⟨C, [], hcl, by first | (rw [hz3']) | (rw [hz2']; rfl), Own.nil _ _ _ _, Below.refl _ _, rfl⟩
    case round =>
      obtain ⟨u, l1, hu, rfl, hown, hbl, hl1⟩ := hrel
      have hll : l1.length + (enc u).length ≤ 9 := by
        have := congrArg List.length hl1
        simp only [List.length_append] at this
        omega
      have hep := enc_pos u
      have Hl1 := Lib.hid hl1
      clear hl1
      by_cases h128 : u < 128
      · obtain ⟨c, rfl⟩ : ∃ c : UInt8, u = c.toNat := ⟨UInt8.ofNat u, by rw [UInt8.toNat_ofNat']; show u = u % 256; omega⟩
        have hbl1 := hbl.alloc hbl.size (.cells (u8s [c]).toArray 5)
        have hown1 := hown.alloc (.cells (u8s [c]).toArray 5)
        go_wp2_with (at_builtin; refine wpList_append_row _ rfl _ _ 24 rfl 5 i5 (.int .u8 0) 1 1 Try.underlying24 hi hz0 hz1 hz2 rfl (by decide) _ l1.length (u8s l1) rfl hown1.zero _ 1 (u8s [c]) rfl (sl_built wr (u8s [c]) 5 (by simp [u8s, maxLen])) (u8s_one _) (by unfold maxLen; omega) (by omega) ?_; intro v' w1 hown' hk hsub hnil; obtain ⟨ho2, hb2⟩ := hown1.grow hbl1 hbl1.size hown' hk hsub)
        go_ret
        have hfin : enc C = l1 ++ [c] := by
          rw [← Hl1.out, enc_lt h128]
          congr 2
          apply UInt8.toNat_inj.1
          simp
        exact ⟨_, rfl, by rw [hfin, u8s_append, List.length_append]; exact ho2, hb2⟩
      · obtain ⟨c, hcu⟩ : ∃ c, c = UInt8.ofNat (u % 128 + 128) := ⟨_, rfl⟩
        have hor := and127 u hu
        rw [← hcu] at hor
        have Hcu := Lib.hid hcu
        clear hcu
        have hbl1 := hbl.alloc hbl.size (.cells (u8s [c]).toArray 5)
        have hown1 := hown.alloc (.cells (u8s [c]).toArray 5)
        go_wp2_with (at_builtin; refine wpList_append_row _ rfl _ _ 24 rfl 5 i5 (.int .u8 0) 1 1 Try.underlying24 hi hz0 hz1 hz2 rfl (by decide) _ l1.length (u8s l1) rfl hown1.zero _ 1 (u8s [c]) rfl (sl_built wr (u8s [c]) 5 (by simp [u8s, maxLen])) (u8s_one _) (by unfold maxLen; omega) (by omega) ?_; intro v' w1 hown' hk hsub hnil; obtain ⟨ho2, hb2⟩ := hown1.grow hbl1 hbl1.size hown' hk hsub; clear hown' hk hsub hnil)
        have hfin : (l1 ++ [c]) ++ enc (u / 128) = enc C := by
          rw [← Hl1.out, enc_ge (u := u) (by omega), List.append_assoc, ← Hcu.out]
          rfl
        go_roundw
        case rel => exact ⟨u / 128, l1 ++ [c], by omega, by go_num, by rw [u8s_append, List.length_append]; exact ho2, hb2, hfin⟩
        case measure => simp [intOf]; omega
set_option maxRecDepth 100000 in
set_option maxHeartbeats 800000 in
theorem rrow_any (v : Value) (l : List UInt8) (w : World) (hv : Sl w 1 v l.length (u8s l)) (hn : l.length ≤ 100000000000000) :
    Calls Try.prog 37 #[v] w (RetV fun v' w' => Own w' w.heap.size 5 1 v' (row l).length (u8s (row l)) ∧ Below w.heap.size w w') := by
  have hlen := hv.run_len Try.underlying24
  have hcl : clamp (l.length : Int) = l.length := by unfold clamp; omega
  have h9 := enc_le9 (clamp_le (l.length : Int))
  have Hcl := Lib.hid hcl
  rw [hcl] at h9
  clear hcl
  go_enter Try.func37, Try.ntmps37
  go_wp2_with fail
  refine (rnum_any (l.length : Int) (by omega) w).mono ?_
  rintro e w1 ⟨v1, rfl, ho1, hb1⟩
  rw [Hcl.out] at ho1
  have hv1 := hv.below' hb1
  have H1 := Hold.of_own ho1 hb1
  clear ho1 hb1
  go_wp2_with (at_builtin; refine wpList_app el8 H1 rfl _ _ rfl rfl rfl hv1 (u8s_one _) (by omega) (by omega) ?_; intro v2 xs2 w2 X2 H2; obtain ⟨ho, hb⟩ := H2.fin)
  have Ho : Hid (Own w2 w.heap.size 5 1 v2 (row l).length (u8s (row l))) := by
    refine Lib.hid ?_
    have e : xs2 = u8s (row l) := by rw [X2.out, row, u8s_append]
    rw [e] at ho
    have e2 : (row l).length = (enc l.length).length + l.length := by simp [row]
    rw [e2]
    exact ho
  clear ho H2
  go_ret
  exact ⟨_, rfl, Ho.out, hb⟩
end Go.Proofs.Ytbepbbjeieafhaa.Oct

/-
  append of bytes to owned bytes: the walk's law, with lists alone.
-/


namespace Go.Proofs.Ytbepbbjeieafhaa.Oct
open Go.RowKit L
section
variable {W0 w : World} {R : Asrt} {v vx : Value} {L x : List UInt8}
variable {ops : Array Oper} {rest : List Oper} {o : Oper} {a : Act} {Q : Exit → Act → World → Prop}
theorem wpList_app8 (H : Hold W0 ((Row 5 1 v L.length (u8s L)).sep R) w) (hgd : o.guard = none) (sx y : Operand)
    (ho : o.op = .call { callee := .builtin .append, args := #[sx, y], argTypes := #[24, 24] }) (hs : a.eval sx = v) (hx : a.eval y = vx) (hsx : Sl w 1 vx x.length (u8s x))
    (hlen : L.length + x.length ≤ 140737488355328)
    (h : ∀ ao n cap w', Hid (n = (L ++ x).length) → Hold W0 ((Row 5 1 (.slice ao n cap) (L ++ x).length (u8s (L ++ x))).sep R) w' → wpList Try.prog ops Q rest (a.put o.dst (.slice ao n cap)) w') : wpList Try.prog ops Q (o :: rest) a w := by
  refine wpList_app el8 H hgd sx y ho hs hx hsx (u8s_one _) (by omega) (by omega) ?_
  intro v' ys w' Y H'
  obtain ⟨ao, cap, rfl⟩ := H'.own.shape
  rw [Y.out, ← u8s_append, ← List.length_append] at H'
  rw [← List.length_append]
  exact h ao _ cap w' (Lib.hid rfl) H'
end
end Go.Proofs.Ytbepbbjeieafhaa.Oct

/-
  The reference's Encode of chapter 7: what it answers.
-/



namespace Go.Proofs.Ytbepbbjeieafhaa.Bl
open Go.RowKit L Oct
set_option maxRecDepth 100000 in
set_option maxHeartbeats 1600000 in
theorem xencode_any (v : Value) (l : List Cl) (w : World) (h : Sl w 4 v l.length (cls l)) (hn : l.length ≤ 100000) : Calls Try.prog 36 #[v] w (RetEnc w l) := by
  have hlen := h.run_len Try.underlying22
  have hr11 := riseN_small l
  go_enter Try.func36, Try.ntmps36
  go_wp2_with fail
  refine (xrise_any v l w h).mono ?_
  rintro e w1 ⟨rfl, hb1⟩
  by_cases hr : riseN l = 0
  · have hz : ((riseN l : Int) != 0) = false := by simp [hr]
    have H0 := ((Hold.start w).keeps hb1).addNil 5 1
    have Hr := Lib.hid hr
    have Hall := Lib.hid (riseN_all hr)
    clear hr hb1
    go_wp2
    go_loopw [5, 6] (fun y i wr => ∃ k : Nat, k ≤ l.length ∧ i = .int .i64 k ∧ Hold w ((Row 5 1 y (encUp l k).length (u8s (encUp l k))).sep Asrt.emp) wr) (fun _ i _ => l.length - (intOf i).toNat)
    case atStart => exact ⟨0, Nat.zero_le _, rfl, H0⟩
    case round =>
      clear H0
      obtain ⟨k, hk, rfl, H⟩ := hrel
      obtain ⟨ao0, cap0, rfl⟩ := H.own.shape
      by_cases hlt : k < l.length
      · obtain ⟨A, c, hA, _, Hcells, Hc⟩ := h.atCl (P := Try.prog) Try.underlying22 Try.size39 k _ rfl hlt
        have hlen2 : (encUp l k).length ≤ 21000 * k := encUp_length l Hall.out k (by omega)
        have hck := isC_key (Hall.out c (by rw [Hc.out, getD_get hlt]; exact List.getElem_mem hlt))
        have Hsq := Lib.hid (isC_seq (Hall.out c (by rw [Hc.out, getD_get hlt]; exact List.getElem_mem hlt)))
        go_upto_if 21 with fail
        go_cut [7] (fun s8 wc => ∃ n : Nat, s8 = .int .i64 n ∧ Hid (n = nAt l k) ∧ Hold w ((Row 5 1 (.slice ao0 (encUp l k).length cap0) (encUp l k).length (u8s (encUp l k))).sep Asrt.emp) wc)
        case first =>
          by_cases h4 : k % 4 = 0
          · have h4z : ((k : Int) % 4 != 0) = false := by simp; omega
            have hN : Hid (nAt l k = 0) := Lib.hid (by rw [nAt, if_pos h4])
            have HH := Lib.hid H
            clear h4 H
            go_wp2
            go_meet
            exact ⟨0, rfl, Lib.hid hN.out.symm, HH.out⟩
          · have h4z : ((k : Int) % 4 != 0) = true := by simp; omega
            have hN : Hid (nAt l k = sharedN (l.getD (k - 1) default).key.data.toList c.key.data.toList) := Lib.hid (by rw [nAt, if_neg h4, Hc.out])
            have hk1 : 1 ≤ k := by omega
            clear h4
            obtain ⟨A', c', hA', _, Hcells', Hc'⟩ := h.atCl (P := Try.prog) Try.underlying22 Try.size39 (k - 1) ((k : Int) - 1) (by omega) (by omega)
            have hck' := isC_key (Hall.out c' (by rw [Hc'.out, getD_get (show k - 1 < l.length by omega)]; exact List.getElem_mem _))
            have c0' := (Hcells'.below' H.old).key
            have d0 := (Hcells.below' H.old).key
            have h01 : (0 : Int) ≤ (k : Int) - 1 := by omega
            have hwr : IntKind.i64.wrap ((k : Int) - 1) = (k : Int) - 1 := IntWalk.i64_in _ (by omega)
            have HH := Lib.hid H
            clear H
            go_wp2_with fail
            go_region_held3 (fun w' => w'.cell? A' = some (.string c'.key) ∧ w'.cell? A = some (.string c.key)) (go_keep)
              (first | (go_at_call 67; refine (common_any c'.key c.key _ (by omega)).mono ?_; rintro e w3 ⟨rfl, q, rfl⟩))
            go_wp2_with fail
            go_meet
            exact ⟨_, rfl, Lib.hid (by rw [hN.out, Hc'.out]), HH.out.keeps (below_drewN (Below.refl _ _) _)⟩
        case rest =>
          clear H
          obtain ⟨n, rfl, Hn, H2⟩ := hcut
          have hnl := nAt_le l k
          rw [← Hn.out, ← Hc.out] at hnl
          have hcl : Hid (clamp (n : Int) = n) := Lib.hid (by unfold clamp; omega)
          have h9n := enc_le9 (u := n) (by omega)
          have h9d := enc_le9 (u := c.key.size - n) (by omega)
          have hxs : (c.key.extract n c.key.size).size ≤ 4096 := by rw [ByteArray.size_extract]; omega
          have Hxs : Hid (byts (c.key.extract n c.key.size) = (byts c.key).drop n) := Lib.hid (byts_from c.key n)
          go_wp2_with fail
          refine (rnum_any (n : Int) (by omega) _).mono ?_
          rintro e w3 ⟨v3, rfl, ho3, hb3⟩
          rw [hcl.out] at ho3
          have H3 := H2.keeps hb3
          have s3 := ho3.sl
          clear ho3 hb3 H2
          go_wp2_with (first
            | (at_builtin; refine wpList_app8 H3 rfl _ _ rfl rfl rfl s3 (by omega) ?_; intro ao4 n4 cap4 w4 N4 H4; have d0 := (Hcells.below' H4.old).key; clear H3 s3)
            | (with_reducible refine wpList_conv H4 rfl _ rfl (c.key.extract n c.key.size) rfl Try.underlying9 Try.underlying24 Try.underlying5 (by omega) ?_; intro v5 w5 H5; obtain ⟨ao5, cap5, rfl⟩ := H5.own.shape; clear H4 d0))
          refine (rrow_any _ (byts (c.key.extract n c.key.size)) _ H5.own.sl (by rw [byts_length]; omega)).mono ?_
          rintro e w6 ⟨v6, rfl, ho6, hb6⟩
          rw [Hxs.out] at ho6
          have H6 := H5.drop1.keeps hb6
          have s6 := ho6.sl
          have hr6 : (row (List.drop n (byts c.key))).length ≤ c.key.size + 9 := by
            rw [row, List.length_append, List.length_drop, byts_length]; omega
          clear ho6 hb6 H5
          go_wp2_with (first
            | (at_builtin; refine wpList_app8 H6 rfl _ _ rfl rfl rfl s6 (by simp only [List.length_append]; omega) ?_; intro ao7 n7 cap7 w7 N7 H7; have d3 := (Hcells.below' H7.old).seq; clear H6 s6))
          refine (rnum_any c.seq (by have := Hsq.out; omega) _).mono ?_
          rintro e w8 ⟨v8, rfl, ho8, hb8⟩
          have H8 := H7.keeps hb8
          have s8 := ho8.sl
          have h9s := enc_le9 (clamp_le c.seq)
          clear ho8 hb8 H7 d3
          cases hdel : c.del with
          | true =>
            have Hdel := Lib.hid hdel
            clear hdel
            go_wp2_with (first
              | (at_builtin; refine wpList_app8 H8 rfl _ _ rfl rfl rfl s8 (by simp only [List.length_append]; omega) ?_; intro ao9 n9 cap9 w9 N9 H9; have d2 := (Hcells.below' H9.old).del; rw [Hdel.out] at d2; clear H8 s8))
            refine (rnum_any 1 (by omega) _).mono ?_
            rintro e w10 ⟨v10, rfl, ho10, hb10⟩
            rw [show clamp 1 = 1 from by decide] at ho10
            have H10 := H9.keeps hb10
            have s10 := ho10.sl
            have h91 := enc_le9 (u := 1) (by omega)
            clear ho10 hb10 H9 d2
            go_wp2_with (first
              | (at_builtin; refine wpList_app8 H10 rfl _ _ rfl rfl rfl s10 (by simp only [List.length_append]; omega) ?_; intro ao11 n11 cap11 w11 N11 H11; clear H10 s10))
            have HF : Hid (Hold w ((Row 5 1 (.slice ao11 n11 cap11) (encUp l (k + 1)).length (u8s (encUp l (k + 1)))).sep Asrt.emp) w11) := Lib.hid (by
              have e : encUp l (k + 1) = encUp l k ++ enc n ++ row (List.drop n (byts c.key)) ++ enc (clamp c.seq) ++ enc 1 := by
                rw [encUp, ← Hc.out, ← Hn.out, encC, Hdel.out]
                simp [List.append_assoc, byts]
              rw [e]
              exact H11)
            clear H11
            go_roundw
            case rel => exact ⟨k + 1, by omega, by go_num, HF.out⟩
            case measure => simp [intOf]; omega
          | false =>
            have Hdel := Lib.hid hdel
            clear hdel
            have hv9 := enc_le9 (u := c.val.size) (by omega)
            go_wp2_with (first
              | (at_builtin; refine wpList_app8 H8 rfl _ _ rfl rfl rfl s8 (by simp only [List.length_append]; omega) ?_; intro ao9 n9 cap9 w9 N9 H9; have d2 := (Hcells.below' H9.old).del; rw [Hdel.out] at d2; clear H8 s8))
            refine (rnum_any 0 (by omega) _).mono ?_
            rintro e w10 ⟨v10, rfl, ho10, hb10⟩
            rw [show clamp 0 = 0 from by decide] at ho10
            have H10 := H9.keeps hb10
            have s10 := ho10.sl
            have h91 := enc_le9 (u := 0) (by omega)
            clear ho10 hb10 H9 d2
            go_wp2_with (first
              | (at_builtin; refine wpList_app8 H10 rfl _ _ rfl rfl rfl s10 (by simp only [List.length_append]; omega) ?_; intro ao11 n11 cap11 w11 N11 H11; have d1 := (Hcells.below' H11.old).val; clear H10 s10)
              | (with_reducible refine wpList_conv H11 rfl _ rfl c.val rfl Try.underlying9 Try.underlying24 Try.underlying5 (by omega) ?_; intro v12 w12 H12; obtain ⟨ao12, cap12, rfl⟩ := H12.own.shape; clear H11 d1))
            refine (rrow_any _ (byts c.val) _ H12.own.sl (by rw [byts_length]; omega)).mono ?_
            rintro e w13 ⟨v13, rfl, ho13, hb13⟩
            have H13 := H12.drop1.keeps hb13
            have s13 := ho13.sl
            have hr13 : (row (byts c.val)).length ≤ c.val.size + 9 := by
              rw [row, List.length_append, byts_length]; omega
            clear ho13 hb13 H12
            go_wp2_with (first
              | (at_builtin; refine wpList_app8 H13 rfl _ _ rfl rfl rfl s13 (by simp only [List.length_append]; omega) ?_; intro ao14 n14 cap14 w14 N14 H14; clear H13 s13))
            have HF : Hid (Hold w ((Row 5 1 (.slice ao14 n14 cap14) (encUp l (k + 1)).length (u8s (encUp l (k + 1)))).sep Asrt.emp) w14) := Lib.hid (by
              have e : encUp l (k + 1) = encUp l k ++ enc n ++ row (List.drop n (byts c.key)) ++ enc (clamp c.seq) ++ enc 0 ++ row (byts c.val) := by
                rw [encUp, ← Hc.out, ← Hn.out, encC, Hdel.out]
                simp [List.append_assoc, byts]
              rw [e]
              exact H14)
            clear H14
            go_roundw
            case rel => exact ⟨k + 1, by omega, by go_num, HF.out⟩
            case measure => simp [intOf]; omega
      · obtain rfl : k = l.length := by omega
        have hR : Hid (encR l = encUp l l.length) := Lib.hid (by rw [encR, if_pos Hr.out, encL])
        have HO := Lib.hid H.fin
        clear H hlt hk
        go_wp2
        go_ret2
        exact ⟨_, by rw [Hr.out]; rfl, by rw [hR.out]; exact HO.out.1, HO.out.2⟩
  · have hz : ((riseN l : Int) != 0) = true := by simp [hr]
    have hR : Hid (encR l = []) := Lib.hid (by rw [encR, if_neg hr])
    clear hr
    go_wp2
    go_ret2
    exact ⟨_, rfl, by rw [hR.out]; exact Own.nil _ _ _ _, hb1⟩
end Go.Proofs.Ytbepbbjeieafhaa.Bl

/-
  Reader.Num of chapter 1: a number is taken; Reader.Bytes: a row.
-/

namespace Go.Proofs.Ytbepbbjeieafhaa.Oct
open Go.RowKit L
theorem u8_and127 (c : UInt8) : bits .and .u8 (c.toNat : Int) 127 = ((c.toNat % 128 : Nat) : Int) := by
  have h : ∀ c : UInt8, bits .and .u8 (c.toNat : Int) 127 = ((c.toNat % 128 : Nat) : Int) := by
    intro c
    have h2 : ∀ a : Fin 256, bits .and .u8 (a.val : Int) 127 = ((a.val % 128 : Nat) : Int) := by decide +kernel
    exact h2 ⟨c.toNat, c.toNat_lt⟩
  exact h c
theorem or_digit (k m d : Nat) (hk : k < 9) (hm : m < 2 ^ (7 * k)) (hd : d < 128) : bits .or .u64 (m : Int) (IntKind.u64.wrap ((d : Int) * 2 ^ (7 * k))) = ((m + d * 2 ^ (7 * k) : Nat) : Int) := by
  have hp : 2 ^ (7 * k) ≤ 2 ^ 56 := Nat.pow_le_pow_right (by omega) (by omega)
  have h1 : d * 2 ^ (7 * k) ≤ 127 * 2 ^ 56 := Nat.mul_le_mul (by omega) hp
  have e1 : ((d : Int) * 2 ^ (7 * k)) = ((d * 2 ^ (7 * k) : Nat) : Int) := by simp
  have e2 : IntKind.u64.wrap ((d * 2 ^ (7 * k) : Nat) : Int) = ((d * 2 ^ (7 * k) : Nat) : Int) := by
    exact IntWalk.u64_in _ (by omega)
  rw [e1, e2, u64_or_nat _ _ (by omega) (by omega)]
  congr 1
  rw [Nat.or_comm, Nat.add_comm, ← Nat.shiftLeft_eq, Nat.shiftLeft_add_eq_or_of_lt hm]
set_option maxRecDepth 100000 in
set_option maxHeartbeats 1600000 in
theorem num_any {W0 w : World} {R : Asrt} {b : Nat} {l : List UInt8} {bad : Bool} (h : Hold W0 ((Rd b l bad).sep R) w) (hl : l.length ≤ 140737488355328) :
    Calls Try.prog 44 #[.pointer (some ⟨b, 0, none⟩)] w fun e w' => e = .returned (.int .i64 (got 0 (dec 0 0 l) : Nat)) ∧ Hold W0 ((Rd b (left (dec 0 0 l)) (bad || (dec 0 0 l).isNone)).sep R) w' := by
  obtain ⟨F, v, hb, hsl, hne, hF⟩ := h.fst
  have hlen := hsl.run_len Try.underlying24
  have hc0 : w.cell? ⟨b, 0, none⟩ = some v := blk_cell hb 0
  clear hne hF
  have Hb := Lib.hid hb
  clear hb
  obtain ⟨D, hD⟩ : ∃ D, D = dec 0 0 l := ⟨_, rfl⟩
  rw [← hD]
  go_enter Try.func44, Try.ntmps44
  go_wp2
  clear hc0
  go_loopw [13, 3] (fun i u wr => ∃ (k m : Nat), k ≤ l.length ∧ k ≤ 9 ∧ i = .int .i64 k ∧ u = .int .u64 m ∧ m < 2 ^ (7 * k) ∧ D = dec k m (l.drop k) ∧ Below w.heap.size w wr) (fun i _ _ => l.length - (intOf i).toNat)
  case atStart => exact ⟨0, 0, Nat.zero_le _, Nat.zero_le _, rfl, rfl, by decide, by simpa using hD, Below.refl _ _⟩
  case round =>
    clear hD
    obtain ⟨k, m, hk, hk9, rfl, rfl, hm, hDk, hbr⟩ := hrel
    have HH := h.keeps hbr
    by_cases hlt : k < l.length
    · obtain ⟨A, hA, hblk, hcell⟩ := run_indexAt_sl (P := Try.prog) (hsl.below' hbr) Try.underlying24 Try.size5 .i64 (k : Int) (by omega) (by omega)
      have hc := hcell 0 (by omega)
      rw [u8s_get _ _ (by omega)] at hc
      simp only [add_zero, Int.toNat_natCast, Nat.mul_one, Nat.add_zero] at hc
      obtain ⟨c, hcx⟩ : ∃ c, c = l.getD k 0 := ⟨_, rfl⟩
      rw [← hcx] at hc
      have hdr : l.drop k = c :: l.drop (k + 1) := by
        rw [List.drop_eq_getElem_cons hlt, hcx]
        simp [List.getD, hlt]
      rw [hdr] at hDk
      simp only [dec] at hDk
      clear hcell hcx hdr
      have hcl := c.toNat_lt
      by_cases hbrk : 9 ≤ k ∨ (0 < k ∧ c.toNat = 0)
      · rw [if_pos hbrk] at hDk
        subst hDk
        by_cases h9 : 9 ≤ k
        · go_wp2_with fail
          refine (bad_any HH).mono ?_
          rintro e w1 ⟨rfl, hH⟩
          go_wp2
          go_ret
          exact ⟨rfl, by simpa [left] using hH⟩
        · have hk0 : 0 < k := by omega
          have hc0 : c.toNat = 0 := by omega
          have hcc : ((c.toNat : Int) == 0) = true := by simp [hc0]
          clear hbrk
          go_wp2_with fail
          refine (bad_any HH).mono ?_
          rintro e w1 ⟨rfl, hH⟩
          go_wp2
          go_ret
          exact ⟨rfl, by simpa [left] using hH⟩
      · rw [if_neg hbrk] at hDk
        have hk9' : k < 9 := by omega
        obtain ⟨X, hX⟩ : ∃ X, X = m + c.toNat % 128 * 2 ^ (7 * k) := ⟨_, rfl⟩
        have hor : bits .or .u64 (m : Int) (IntKind.u64.wrap (IntKind.u64.wrap (bits .and .u8 (c.toNat : Int) 127) * 2 ^ (7 * k))) = (X : Int) := by
          have := or_digit k m (c.toNat % 128) hk9' hm (by omega)
          rw [← hX] at this
          rw [u8_and127, IntWalk.u64_in ((c.toNat % 128 : Nat) : Int) (by omega)]
          exact this
        have hXlt : X < 2 ^ (7 * (k + 1)) := by
          have h1 : 2 ^ (7 * (k + 1)) = 128 * 2 ^ (7 * k) := by rw [Nat.mul_succ, Nat.pow_add]; omega
          have h2 : c.toNat % 128 * 2 ^ (7 * k) ≤ 127 * 2 ^ (7 * k) := Nat.mul_le_mul_right _ (by omega)
          omega
        by_cases h128 : c.toNat < 128
        · rw [if_pos h128, ← show X = m + c.toNat * 2 ^ (7 * k) from by rw [hX, Nat.mod_eq_of_lt h128]] at hDk
          clear hX hXlt hm
          by_cases hbig : 4611686018427387904 < X
          · rw [if_pos hbig] at hDk
            subst hDk
            by_cases hk0 : 0 < k
            · have hcc : ((c.toNat : Int) == 0) = false := by simp; omega
              clear hbrk
              go_wp2_with fail
              refine (bad_any HH).mono ?_
              rintro e w1 ⟨rfl, hH⟩
              go_wp2
              go_ret
              exact ⟨rfl, by simpa [left] using hH⟩
            · clear hbrk
              go_wp2_with fail
              refine (bad_any HH).mono ?_
              rintro e w1 ⟨rfl, hH⟩
              go_wp2
              go_ret
              exact ⟨rfl, by simpa [left] using hH⟩
          · rw [if_neg hbig] at hDk
            subst hDk
            have hbr' := rd_heap Hb.out hbr
            have hc0 : wr.cell? ⟨b, 0, none⟩ = some v := blk_cell hbr' 0
            have hf0 := blk_free hbr' 0
            obtain ⟨v2, hr2, hs2, ho2⟩ := run_slice_sl (P := Try.prog) (hsl.below' hbr) Try.underlying24 Try.size5 (some (.int .i64 ((k : Int) + 1))) none (k + 1) l.length (.inr ⟨.i64, rfl⟩) (.inl ⟨rfl, rfl⟩) (by omega) (Nat.le_refl _)
            have hcut : Sl wr 1 v2 (l.length - (k + 1)) (u8s (l.drop (k + 1))) := by
              rw [Nat.mul_one, Nat.mul_one, u8s_drop, List.take_of_length_le (by rw [u8s_length]; simp)] at hs2
              exact hs2
            have hH2 := rd_cut HH hbr' (k + 1) hcut ho2
            obtain ⟨ao2, cap2, rfl⟩ : ∃ ao cap, v2 = .slice ao (l.length - (k + 1)) cap := by
              obtain ⟨_, ao, cap, rfl, _⟩ := hs2
              exact ⟨_, _, rfl⟩
            have HH2 := Lib.hid hH2
            clear hH2 hcut hs2 ho2 hbr'
            by_cases hk0 : 0 < k
            · have hcc : ((c.toNat : Int) == 0) = false := by simp; omega
              clear hbrk
              go_wp2
              go_ret
              exact ⟨rfl, by simpa [left] using HH2.out⟩
            · clear hbrk
              go_wp2
              go_ret
              exact ⟨rfl, by simpa [left] using HH2.out⟩
        · rw [if_neg h128, show (c.toNat - 128) = c.toNat % 128 from by omega, ← hX] at hDk
          have HD := Lib.hid hDk
          have HX := Lib.hid hXlt
          clear hX hm hXlt hDk
          have hcc : ((c.toNat : Int) == 0) = false := by simp; omega
          by_cases hk0 : 0 < k
          · clear hbrk
            go_wp2
            go_roundw
            case rel => exact ⟨k + 1, X, by omega, by omega, by go_num, rfl, HX.out, HD.out, hbr⟩
            case measure => simp [intOf]; omega
          · clear hbrk
            go_wp2
            go_roundw
            case rel => exact ⟨k + 1, X, by omega, by omega, by go_num, rfl, HX.out, HD.out, hbr⟩
            case measure => simp [intOf]; omega
    · obtain rfl : k = l.length := by omega
      rw [List.drop_length] at hDk
      simp only [dec] at hDk
      subst hDk
      go_wp2_with fail
      refine (bad_any HH).mono ?_
      rintro e w1 ⟨rfl, hH⟩
      go_wp2
      go_ret
      exact ⟨rfl, by simpa [left] using hH⟩
set_option maxHeartbeats 800000 in
theorem rbytes_any {W0 w : World} {R : Asrt} {b : Nat} {l : List UInt8} {bad : Bool} (h : Hold W0 ((Rd b l bad).sep R) w) (hl : l.length ≤ 140737488355328) :
    Calls Try.prog 45 #[.pointer (some ⟨b, 0, none⟩)] w (RetV fun v' w' => Hold W0 ((Row 5 1 v' (got [] (decRow l)).length (u8s (got [] (decRow l)))).sep ((Rd b (left (decRow l)) (bad || (decRow l).isNone)).sep R)) w') := by
  obtain ⟨e1, e2, e3⟩ := decRow_raw l bad
  rw [e1, e2, e3]
  have hll : (left (dec 0 0 l)).length ≤ 140737488355328 := by
    cases hd : dec 0 0 l with
    | none => simp [left]
    | some p =>
      obtain ⟨n, r⟩ := p
      have := dec_length l 0 0 n r hd
      simp [left]; omega
  clear e1 e2 e3
  go_enter Try.func45, Try.ntmps45
  go_wp2_with fail
  refine (num_any h hl).mono ?_
  rintro e w1 ⟨rfl, h1⟩
  go_wp2_with fail
  refine (rraw_any h1 _ hll).mono ?_
  rintro e w2 ⟨v', rfl, h2⟩
  have H2 := Lib.hid h2
  clear h1 h2
  go_wp2
  go_ret
  exact ⟨v', rfl, H2.out⟩
end Go.Proofs.Ytbepbbjeieafhaa.Oct

/-
  Reader.Nums of chapter 1: numbers are taken, and stored where the pointers say.
-/


namespace Go.Proofs.Ytbepbbjeieafhaa.Oct
open Go.RowKit L
theorem _root_.Go.Proofs.Ytbepbbjeieafhaa.L.Hold.setBlk {W0 w : World} {R : Asrt} {b : Nat} {cs : Array Value} {t : TypeId} (h : Hold W0 ((Blk b cs t).sep R) w) (j : Nat) (v : Value) : Hold W0 ((Blk b (cs.setIfInBounds j v) t).sep R) (w.setCell ⟨b, j, none⟩ v) := by
  obtain ⟨F, ⟨hb, hF⟩, hge, hup⟩ := h.take
  exact hup _ (Blk b (cs.setIfInBounds j v) t) F ((Keeps.refl F w).setCell (fun _ => (hF b).2 rfl) _) ⟨blk_set hb j v, hF⟩ (fun k hk => .inl hk)
/-- what is left when n numbers were taken, and whether it erred -/
def takes (l : List UInt8) (bad : Bool) : Nat → List UInt8 × Bool
  | 0 => (l, bad)
  | n + 1 => (left (dec 0 0 (takes l bad n).1), (takes l bad n).2 || (dec 0 0 (takes l bad n).1).isNone)
/-- the number taken behind n others -/
def takesAt (l : List UInt8) (bad : Bool) (n : Nat) : Nat := got 0 (dec 0 0 (takes l bad n).1)
theorem left_dec (l : List UInt8) : (left (dec 0 0 l)).length ≤ l.length := by
  cases hd : dec 0 0 l with
  | none => simp [left]
  | some p =>
    obtain ⟨n, r⟩ := p
    have := dec_length l 0 0 n r hd
    simp [left]; omega
theorem takes_length (l : List UInt8) (bad : Bool) : ∀ n, (takes l bad n).1.length ≤ l.length
  | 0 => Nat.le_refl _
  | n + 1 => Nat.le_trans (left_dec _) (takes_length l bad n)
set_option maxRecDepth 100000 in
set_option maxHeartbeats 800000 in
theorem rnumsTo_any {W0 w : World} {R : Asrt} {b : Nat} {l : List UInt8} {bad : Bool} (T : Nat → Asrt) (ps : List Value) (v : Value) (hT : Hold W0 ((T 0).sep ((Rd b l bad).sep R)) w) (hl : l.length ≤ 140737488355328) (hv : Reads W0 R 1 v ps.length ps)
    (hstep : ∀ k, k < ps.length → ∀ (w : World) (Q : Asrt), Hold W0 ((T k).sep Q) w → (ps.getD k undef = .pointer none ∧ Hold W0 ((T (k + 1)).sep Q) w) ∨ ∃ A old, ps.getD k undef = .pointer (some A) ∧ w.cell? A = some old ∧ w.frozen? A = false ∧ Hold W0 ((T (k + 1)).sep Q) (w.setCell A (.int .i64 (takesAt l bad k)))) :
    Calls Try.prog 88 #[.pointer (some ⟨b, 0, none⟩), v] w fun e w' => e = .returned (.tuple #[]) ∧ Hold W0 ((T ps.length).sep ((Rd b (takes l bad ps.length).1 (takes l bad ps.length).2).sep R)) w' := by
  have h1 := hv w hT.drop1.drop1
  have hlen := h1.run_len Try.underlying118
  have hmx := h1.le'
  have Hv := Lib.hid hv
  have Hstep := Lib.hid hstep
  clear h1 hv hstep
  go_enter Try.func88, Try.ntmps88
  go_wp2
  go_loopw [9] (fun i wr => ∃ k : Nat, k ≤ ps.length ∧ i = .int .i64 k ∧ Hold W0 ((T k).sep ((Rd b (takes l bad k).1 (takes l bad k).2).sep R)) wr) (fun i _ => ps.length - (intOf i).toNat)
  case atStart => exact ⟨0, Nat.zero_le _, rfl, hT⟩
  case round =>
    clear hT
    obtain ⟨k, hk, rfl, H⟩ := hrel
    by_cases hlt : k < ps.length
    · obtain ⟨A, u, hA, hblk, hc, Hu⟩ := (Hv.out _ H.drop1.drop1).at1 (P := Try.prog) Try.underlying118 Try.size117 k hlt
      have hlk := takes_length l bad k
      obtain ⟨l', hl'⟩ : ∃ l', l' = (takes l bad k).1 := ⟨_, rfl⟩
      obtain ⟨bad', hbad'⟩ : ∃ bad', bad' = (takes l bad k).2 := ⟨_, rfl⟩
      rw [← hl'] at hlk
      rw [← hl', ← hbad'] at H
      have Hl := Lib.hid hl'
      have Hb := Lib.hid hbad'
      clear hl' hbad' hblk
      go_wp2_with fail
      refine (num_any H.up2 (by omega)).mono ?_
      rintro e w1 ⟨rfl, H1⟩
      have H2 := Hstep.out k hlt w1 _ H1.up2
      have ez : takesAt l bad k = got 0 (dec 0 0 l') := by unfold takesAt; rw [← Hl.out]
      rw [← Hu.out, ez] at H2
      clear H H1 ez
      rcases H2 with ⟨rfl, H3⟩ | ⟨A2, old, rfl, hc2, hf2, H3⟩
      · have H4 := Lib.hid H3
        clear H3
        go_wp2
        go_roundw
        case rel => exact ⟨k + 1, by omega, by go_num, by show Hold _ (Asrt.sep _ ((Rd b (left (dec 0 0 (takes l bad k).1)) ((takes l bad k).2 || (dec 0 0 (takes l bad k).1).isNone)).sep R)) _; rw [← Hl.out, ← Hb.out]; exact H4.out⟩
        case measure => simp [intOf]; omega
      · have H4 := Lib.hid H3
        clear H3
        go_wp2
        go_roundw
        case rel => exact ⟨k + 1, by omega, by go_num, by show Hold _ (Asrt.sep _ ((Rd b (left (dec 0 0 (takes l bad k).1)) ((takes l bad k).2 || (dec 0 0 (takes l bad k).1).isNone)).sep R)) _; rw [← Hl.out, ← Hb.out]; exact H4.out⟩
        case measure => simp [intOf]; omega
    · obtain rfl : k = ps.length := by omega
      have H4 := Lib.hid H
      clear H
      go_wp2
      go_end0
      exact ⟨rfl, H4.out⟩
end Go.Proofs.Ytbepbbjeieafhaa.Oct

/-
  'cell' of chapter 7: the cell that is taken behind one of a key.
-/




namespace Go.Proofs.Ytbepbbjeieafhaa.Bl
open Go.RowKit L Oct
/-- one number's variable, when k numbers were taken -/
def T1 (bn : Nat) (l : List UInt8) (bad : Bool) (k : Nat) : Asrt := Blk bn #[.int .i64 (if k = 0 then 0 else takesAt l bad 0)] 3
theorem t1_step (bn : Nat) (l : List UInt8) (bad : Bool) (W0 : World) : ∀ k, k < 1 → ∀ (w : World) (Q : Asrt), Hold W0 ((T1 bn l bad k).sep Q) w →
    (([.pointer (some ⟨bn, 0, none⟩)] : List Value).getD k undef = .pointer none ∧ Hold W0 ((T1 bn l bad (k + 1)).sep Q) w) ∨
    ∃ A old, ([.pointer (some ⟨bn, 0, none⟩)] : List Value).getD k undef = .pointer (some A) ∧ w.cell? A = some old ∧ w.frozen? A = false ∧ Hold W0 ((T1 bn l bad (k + 1)).sep Q) (w.setCell A (.int .i64 (takesAt l bad k))) := by
  intro k hk w Q h
  match k, hk with
  | 0, _ =>
    exact .inr ⟨⟨bn, 0, none⟩, _, rfl, blk_cell h.blk 0, blk_free h.blk 0, h.setBlk 0 _⟩
/-- a cell's number and another variable, when k numbers were taken -/
def T2 (bc bd : Nat) (key : ByteArray) (l : List UInt8) (bad : Bool) (k : Nat) : Asrt :=
  (Blk bc #[.string key, .string ⟨#[]⟩, .bool false, .int .i64 (if k = 0 then 0 else takesAt l bad 0)] 39).sep (Blk bd #[.int .i64 (if k < 2 then 0 else takesAt l bad 1)] 3)
theorem t2_step (bc bd : Nat) (key : ByteArray) (l : List UInt8) (bad : Bool) (W0 : World) : ∀ k, k < 2 → ∀ (w : World) (Q : Asrt), Hold W0 ((T2 bc bd key l bad k).sep Q) w →
    (([.pointer (some ⟨bc, 3, none⟩), .pointer (some ⟨bd, 0, none⟩)] : List Value).getD k undef = .pointer none ∧ Hold W0 ((T2 bc bd key l bad (k + 1)).sep Q) w) ∨
    ∃ A old, ([.pointer (some ⟨bc, 3, none⟩), .pointer (some ⟨bd, 0, none⟩)] : List Value).getD k undef = .pointer (some A) ∧ w.cell? A = some old ∧ w.frozen? A = false ∧ Hold W0 ((T2 bc bd key l bad (k + 1)).sep Q) (w.setCell A (.int .i64 (takesAt l bad k))) := by
  intro k hk w Q h
  have h1 := Hold.assoc.1 h
  match k, hk with
  | 0, _ =>
    exact .inr ⟨⟨bc, 3, none⟩, _, rfl, blk_cell h1.blk 3, blk_free h1.blk 3, Hold.assoc.2 (h1.setBlk 3 _)⟩
  | 1, _ =>
    exact .inr ⟨⟨bd, 0, none⟩, _, rfl, blk_cell h1.up2.blk 0, blk_free h1.up2.blk 0, Hold.assoc.2 (h1.up2.setBlk 0 _).up2⟩
def RetCell (W0 : World) (R : Asrt) (b : Nat) (D : Cl × List UInt8 × Bool) (e : Ending) (w' : World) : Prop := e = .returned D.1.agg ∧ Hold W0 ((Rd b D.2.1 D.2.2).sep R) w'
set_option maxRecDepth 100000 in
set_option maxHeartbeats 1600000 in
theorem cell_any {W0 w : World} {R : Asrt} {b : Nat} {l : List UInt8} {bad : Bool} (H : Hold W0 ((Rd b l bad).sep R) w) (ahead : ByteArray) (hl : l.length ≤ 140737488355328) (ha : ahead.size ≤ 140737488355328) :
    Calls Try.prog 75 #[.pointer (some ⟨b, 0, none⟩), .string ahead] w (RetCell W0 R b (cellD ahead l bad)) := by
  have H1 := ((H.addBlk (cs := #[.string ⟨#[]⟩, .string ⟨#[]⟩, .bool false, .int .i64 0]) (t := 39) (b := w.heap.size) rfl).addBlk (cs := #[.int .i64 0]) (t := 3) (b := w.heap.size + 1) (by simp)).addBlk (cs := #[.int .i64 0]) (t := 3) (b := w.heap.size + 1 + 1) (by simp)
  have HH := Lib.hid (H1.addLits [.pointer (some ⟨w.heap.size + 1, 0, none⟩)] 117 (by simp [maxLen]) (b := w.heap.size + 1 + 1 + 1) (by simp))
  clear H1
  go_enter Try.func75, Try.ntmps75
  go_wp2_with fail
  obtain ⟨bc, hbc⟩ : ∃ bc, bc = w.heap.size := ⟨_, rfl⟩
  obtain ⟨bn, hbn⟩ : ∃ bn, bn = w.heap.size + 1 := ⟨_, rfl⟩
  obtain ⟨bd, hbd⟩ : ∃ bd, bd = w.heap.size + 1 + 1 := ⟨_, rfl⟩
  rw [← hbd, ← hbn, ← hbc] at HH
  rw [← hbd, ← hbn, ← hbc]
  have H2 := HH.out.up5.up4
  refine (rnumsTo_any (T1 bn l bad) [.pointer (some ⟨bn, 0, none⟩)] _ (l := l) (bad := bad) H2 hl Reads.row (t1_step bn l bad W0)).mono ?_
  rintro e w1 ⟨rfl, H3a⟩
  have H3 : Hold W0 ((Blk bn #[.int .i64 (takesAt l bad 0)] 3).sep ((Rd b (left (dec 0 0 l)) (bad || (dec 0 0 l).isNone)).sep _)) w1 := H3a
  have H4 := H3.up3.drop1
  clear HH H2 H3a H3 H hbc hbn hbd
  have hl1 := left_dec' l
  obtain ⟨l1, hl1e⟩ : ∃ l1, l1 = left (dec 0 0 l) := ⟨_, rfl⟩
  obtain ⟨b1, hb1e⟩ : ∃ b1, b1 = (bad || (dec 0 0 l).isNone) := ⟨_, rfl⟩
  obtain ⟨n, hn⟩ : ∃ n, n = takesAt l bad 0 := ⟨_, rfl⟩
  rw [← hl1e, ← hb1e, ← hn] at H4
  rw [← hl1e] at hl1
  have Hn : Hid (n = got 0 (dec 0 0 l)) := Lib.hid hn
  have Hl1 := Lib.hid hl1e
  have Hb1 := Lib.hid hb1e
  clear hn hl1e hb1e
  go_wp2_with fail
  refine (rbytes_any H4.up2 (by omega)).mono ?_
  rintro e w2 ⟨v2, rfl, H5⟩
  obtain ⟨ao2, cap2, rfl⟩ := H5.own.shape
  have kn := blk_cell H5.up3.blk 0
  have hl2 := left_decRow l1
  have hx2 := got_decRow l1
  obtain ⟨l2, hl2e⟩ : ∃ l2, l2 = left (decRow l1) := ⟨_, rfl⟩
  obtain ⟨b2, hb2e⟩ : ∃ b2, b2 = (b1 || (decRow l1).isNone) := ⟨_, rfl⟩
  obtain ⟨x, hx⟩ : ∃ x, x = got [] (decRow l1) := ⟨_, rfl⟩
  rw [← hl2e, ← hb2e, ← hx] at H5
  rw [← hl2e] at hl2
  rw [← hx] at hx2
  rw [← hx]
  have Hl2 := Lib.hid hl2e
  have Hb2 := Lib.hid hb2e
  have Hx := Lib.hid hx
  clear hl2e hb2e hx H4
  by_cases hah : ahead.size < n
  · have hg : decide ((ahead.size : Int) < (n : Int)) = true := by simpa using hah
    have hg' : decide (ahead.size < n) = true := by simpa using hah
    have hD : Hid (cellD ahead l bad = (default, [], true)) := Lib.hid (by unfold cellD; simp only; rw [if_pos (by rw [← Hn.out]; exact hah)])
    clear hah
    go_wp2_with fail
    refine (bad_any H5.up2).mono ?_
    rintro e w3 ⟨rfl, H6⟩
    have H7 := H6.perm (B := (Blk bc #[.string ⟨#[]⟩, .string ⟨#[]⟩, .bool false, .int .i64 0] 39).sep ((Rd b [] true).sep (R.sep ((Row 5 1 (.slice ao2 x.length cap2) x.length (u8s x)).sep ((Blk bn #[.int .i64 n] 3).sep (Blk bd #[.int .i64 0] 3)))))) (by ac_rfl)
    have k0 := blk_cell H7.blk 0
    have k1 := blk_cell H7.blk 1
    have k2 := blk_cell H7.blk 2
    have k3 := blk_cell H7.blk 3
    have f0 := blk_free H7.blk 0
    have f1 := blk_free H7.blk 1
    have f2 := blk_free H7.blk 2
    have f3 := blk_free H7.blk 3
    have s0 := blk_same H7.blk 0 (v := .string ⟨#[]⟩) rfl
    have s1 := blk_same H7.blk 1 (v := .string ⟨#[]⟩) rfl
    have s2 := blk_same H7.blk 2 (v := .bool false) rfl
    have s3 := blk_same H7.blk 3 (v := .int .i64 0) rfl
    have HF := Lib.hid (H7.drop1.perm (B := ((Row 5 1 (.slice ao2 x.length cap2) x.length (u8s x)).sep ((Blk bn #[.int .i64 n] 3).sep (Blk bd #[.int .i64 0] 3))).sep ((Rd b [] true).sep R)) (by ac_rfl)).drop1
    clear H5 H6 H7 kn
    go_wp2
    refine bodyPost_ret (v := .agg #[.string ⟨#[]⟩, .string ⟨#[]⟩, .bool false, .int .i64 0]) (by simp [results, Try.results75, go_sem, k0, k1, k2, k3]) rfl ⟨by rw [hD.out]; rfl, by rw [hD.out]; exact HF.out⟩
  · have hg : decide ((ahead.size : Int) < (n : Int)) = false := by simpa using hah
    have hg' : decide (ahead.size < n) = false := by simpa using hah
    have hD : Hid (cellD ahead l bad = if got 0 (dec 0 0 (left (dec 0 0 l2))) = 0 then (⟨ahead.extract 0 n ++ ⟨x.toArray⟩, ⟨(got [] (decRow (left (dec 0 0 (left (dec 0 0 l2)))))).toArray⟩, false, ((got 0 (dec 0 0 l2) : Nat) : Int)⟩, left (decRow (left (dec 0 0 (left (dec 0 0 l2))))), (takes l2 b2 2).2 || (decRow (left (dec 0 0 (left (dec 0 0 l2))))).isNone)
        else (⟨ahead.extract 0 n ++ ⟨x.toArray⟩, ByteArray.empty, true, ((got 0 (dec 0 0 l2) : Nat) : Int)⟩, left (dec 0 0 (left (dec 0 0 l2))), (takes l2 b2 2).2)) := Lib.hid (by
      unfold cellD
      simp only [← Hn.out, ← Hl1.out, ← Hb1.out, ← Hl2.out, ← Hx.out, ← Hb2.out]
      rw [if_neg hah]
      rfl)
    have hcv := H5.own.sl.run_string (src := 24) (dst := 9) Try.underlying24 Try.underlying5 Try.underlying9
    have hcv' : (convert 24 9 (.slice ao2 x.length cap2)).run Try.prog w2.drew = .ok (.string ⟨x.toArray⟩) w2.drew := (Sl.drew H5.own.sl).run_string (src := 24) (dst := 9) Try.underlying24 Try.underlying5 Try.underlying9
    have H6 := H5.perm (B := (Blk bc #[.string ⟨#[]⟩, .string ⟨#[]⟩, .bool false, .int .i64 0] 39).sep ((Blk bd #[.int .i64 0] 3).sep ((Rd b l2 b2).sep (((Row 5 1 (.slice ao2 x.length cap2) x.length (u8s x)).sep (Blk bn #[.int .i64 n] 3)).sep R)))) (by ac_rfl)
    have k0 := blk_cell H6.blk 0
    have f0 := blk_free H6.blk 0
    have H7 := Lib.hid (H6.setBlk 0 (.string (ahead.extract 0 n ++ ⟨x.toArray⟩)))
    clear hah H5
    have hn0 : (0 : Int) ≤ (n : Int) := by omega
    have hn1 : (n : Int) ≤ (ahead.size : Int) := by simpa using hg'
    go_wp2_with fail
    have hadd : (ahead.extract 0 n).size + (ByteArray.mk x.toArray).size ≤ 9223372036854775807 := by
      have e1 : (ahead.extract 0 n).size = n := by rw [ByteArray.size_extract]; omega
      have e2 : (ByteArray.mk x.toArray).size = x.length := by simp [ByteArray.size]
      omega
    have hrun := fun w' : World => run_string_add_sum (P := Try.prog) (w := w') _ _ hadd
    have H8 := Hold.assoc.1 H7.out.up4.drew
    have e1 := blk_cell H8.up2.blk 0
    have e2 := H8.own.sl.run_string (src := 24) (dst := 9) Try.underlying24 Try.underlying5 Try.underlying9
    have E := Lib.hid (And.intro e1 e2)
    clear hadd e1 e2 H8
    go_region_held3 (fun w' => w'.cell? ⟨bn, 0, none⟩ = some (.int .i64 n) ∧ (convert 24 9 (.slice ao2 x.length cap2)).run Try.prog w' = .ok (.string ⟨x.toArray⟩) w') (first | exact E.out | go_keep) (fail)
    obtain ⟨K, hK⟩ : ∃ K, K = ahead.extract 0 n ++ ⟨x.toArray⟩ := ⟨_, rfl⟩
    obtain ⟨w3, hw3⟩ : ∃ w3, w3 = (w2.setCell ⟨bc, 0, none⟩ (.string (ahead.extract 0 n ++ ⟨x.toArray⟩))).drew := ⟨_, rfl⟩
    have H9 : Hold W0 ((Blk bc #[.string K, .string ⟨#[]⟩, .bool false, .int .i64 0] 39).sep ((Blk bd #[.int .i64 0] 3).sep ((Rd b l2 b2).sep (((Row 5 1 (.slice ao2 x.length cap2) x.length (u8s x)).sep (Blk bn #[.int .i64 n] 3)).sep R)))) w3 := by rw [hw3, hK]; exact H7.out.drew
    rw [← hK] at hD
    rw [← hw3]
    clear hrun E H7 H6 hcv hcv' kn k0 f0 hn0 hn1 hg hg'
    clear hK hw3
    go_wp2_with fail
    have H10 := (H9.addLits [.pointer (some ⟨bc, 3, none⟩), .pointer (some ⟨bd, 0, none⟩)] 117 (by simp [maxLen]) (b := w3.heap.size) rfl).perm (B := ((Blk bc #[.string K, .string ⟨#[]⟩, .bool false, .int .i64 0] 39).sep (Blk bd #[.int .i64 0] 3)).sep ((Rd b l2 b2).sep ((Row 117 1 (.slice (some ⟨w3.heap.size, 0, none⟩) 2 2) 2 [.pointer (some ⟨bc, 3, none⟩), .pointer (some ⟨bd, 0, none⟩)]).sep (((Row 5 1 (.slice ao2 x.length cap2) x.length (u8s x)).sep (Blk bn #[.int .i64 n] 3)).sep R)))) (by simp only [List.length_cons, List.length_nil]; ac_rfl)
    refine (rnumsTo_any (T2 bc bd K l2 b2) [.pointer (some ⟨bc, 3, none⟩), .pointer (some ⟨bd, 0, none⟩)] _ (l := l2) (bad := b2) H10 (by omega) Reads.row (t2_step bc bd K l2 b2 W0)).mono ?_
    rintro e w4 ⟨rfl, H11a⟩
    have H11 : Hold W0 (((Blk bc #[.string K, .string ⟨#[]⟩, .bool false, .int .i64 (got 0 (dec 0 0 l2) : Nat)] 39).sep (Blk bd #[.int .i64 (got 0 (dec 0 0 (left (dec 0 0 l2))) : Nat)] 3)).sep ((Rd b (left (dec 0 0 (left (dec 0 0 l2)))) (takes l2 b2 2).2).sep _)) w4 := H11a
    have hl3 := left_dec' l2
    have hl4 := left_dec' (left (dec 0 0 l2))
    obtain ⟨q, hq⟩ : ∃ q, q = got 0 (dec 0 0 l2) := ⟨_, rfl⟩
    obtain ⟨d, hd⟩ : ∃ d, d = got 0 (dec 0 0 (left (dec 0 0 l2))) := ⟨_, rfl⟩
    obtain ⟨l4, hl4e⟩ : ∃ l4, l4 = left (dec 0 0 (left (dec 0 0 l2))) := ⟨_, rfl⟩
    obtain ⟨b4, hb4e⟩ : ∃ b4, b4 = (takes l2 b2 2).2 := ⟨_, rfl⟩
    rw [← hq, ← hd, ← hl4e, ← hb4e] at H11 hD
    rw [← hl4e] at hl4
    have H12 := Hold.assoc.1 H11
    have kd := blk_cell H12.up2.blk 0
    have k2 := blk_cell H12.blk 2
    have f2 := blk_free H12.blk 2
    clear H9 H10 H11a H11 hq hd hl4e hb4e
    by_cases hdz : d = 0
    · have hz : ((d : Int) != 0) = false := by simpa using hdz
      have hD2 := Lib.hid (hD.out.trans (if_pos hdz))
      clear hdz hD
      have H13 : Hold W0 ((Blk bc #[.string K, .string ⟨#[]⟩, .bool false, .int .i64 q] 39).sep _) (w4.setCell ⟨bc, 2, none⟩ (.bool false)) := H12.setBlk 2 (.bool false)
      have hd2 := blk_cell H13.blk 2
      have hf1 := blk_free H13.blk 1
      have H14 := Lib.hid H13.up3
      clear H12 H13
      go_wp2_with fail
      refine (rbytes_any H14.out (by omega)).mono ?_
      rintro e w6 ⟨v6, rfl, H15⟩
      obtain ⟨ao6, cap6, rfl⟩ := H15.own.shape
      have hcv := H15.own.sl.run_string (src := 24) (dst := 9) Try.underlying24 Try.underlying5 Try.underlying9
      have H16 := H15.up3
      have kf1 := blk_free H16.blk 1
      have kk1 := blk_cell H16.blk 1
      have H17 := Lib.hid (H16.setBlk 1 (.string ⟨(got [] (decRow l4)).toArray⟩))
      clear H14 H15 H16 hd2 hf1
      go_upto_region 12 with fail
      obtain ⟨w7, hw7⟩ : ∃ w7, w7 = w6.setCell ⟨bc, 1, none⟩ (.string ⟨(got [] (decRow l4)).toArray⟩) := ⟨_, rfl⟩
      have HZ0 := H17.out
      rw [← hw7] at HZ0
      have HZ : Hold W0 ((Blk bc #[.string K, .string ⟨(got [] (decRow l4)).toArray⟩, .bool false, .int .i64 q] 39).sep _) w7 := HZ0
      rw [← hw7]
      clear hw7
      have k0 := blk_cell HZ.blk 0
      have k1 := blk_cell HZ.blk 1
      have k2 := blk_cell HZ.blk 2
      have k3 := blk_cell HZ.blk 3
      have f0 := blk_free HZ.blk 0
      have f1 := blk_free HZ.blk 1
      have f2 := blk_free HZ.blk 2
      have f3 := blk_free HZ.blk 3
      have s0 := blk_same HZ.blk 0 (v := .string K) rfl
      have s1 := blk_same HZ.blk 1 (v := .string ⟨(got [] (decRow l4)).toArray⟩) rfl
      have s2 := blk_same HZ.blk 2 (v := .bool false) rfl
      have s3 := blk_same HZ.blk 3 (v := .int .i64 q) rfl
      have HF := Lib.hid (HZ.drop1.perm (B := ((Row 5 1 (.slice ao6 (got [] (decRow l4)).length cap6) (got [] (decRow l4)).length (u8s (got [] (decRow l4)))).sep ((Blk bd #[.int .i64 d] 3).sep ((Row 117 1 (.slice (some ⟨w3.heap.size, 0, none⟩) 2 2) 2 [.pointer (some ⟨bc, 3, none⟩), .pointer (some ⟨bd, 0, none⟩)]).sep ((Row 5 1 (.slice ao2 x.length cap2) x.length (u8s x)).sep (Blk bn #[.int .i64 n] 3))))).sep ((Rd b (left (decRow l4)) (b4 || (decRow l4).isNone)).sep R)) (by ac_rfl)).drop1
      clear HZ HZ0
      go_wp2
      refine bodyPost_ret (v := .agg #[.string K, .string ⟨(got [] (decRow l4)).toArray⟩, .bool false, .int .i64 q]) (by simp [results, Try.results75, go_sem, k0, k1, k2, k3]) rfl ⟨by rw [hD2.out]; rfl, by rw [hD2.out]; exact HF.out⟩
    · have hz : ((d : Int) != 0) = true := by simpa using hdz
      have hD2 := Lib.hid (hD.out.trans (if_neg hdz))
      clear hdz hD
      have H13 := Lib.hid (H12.setBlk 2 (.bool true))
      have hd2 := blk_cell H13.out.blk 2
      clear H12
      go_upto_region 12 with fail
      clear hd2 f2 kd
      obtain ⟨w7, hw7⟩ : ∃ w7, w7 = w4.setCell ⟨bc, 2, none⟩ (.bool true) := ⟨_, rfl⟩
      have HZ0 := H13.out
      rw [← hw7] at HZ0
      have HZ : Hold W0 ((Blk bc #[.string K, .string ⟨#[]⟩, .bool true, .int .i64 q] 39).sep _) w7 := HZ0
      rw [← hw7]
      clear hw7
      have k0 := blk_cell HZ.blk 0
      have k1 := blk_cell HZ.blk 1
      have k2 := blk_cell HZ.blk 2
      have k3 := blk_cell HZ.blk 3
      have f0 := blk_free HZ.blk 0
      have f1 := blk_free HZ.blk 1
      have f2 := blk_free HZ.blk 2
      have f3 := blk_free HZ.blk 3
      have s0 := blk_same HZ.blk 0 (v := .string K) rfl
      have s1 := blk_same HZ.blk 1 (v := .string ⟨#[]⟩) rfl
      have s2 := blk_same HZ.blk 2 (v := .bool true) rfl
      have s3 := blk_same HZ.blk 3 (v := .int .i64 q) rfl
      have HF := Lib.hid (HZ.drop1.perm (B := ((Blk bd #[.int .i64 d] 3).sep ((Row 117 1 (.slice (some ⟨w3.heap.size, 0, none⟩) 2 2) 2 [.pointer (some ⟨bc, 3, none⟩), .pointer (some ⟨bd, 0, none⟩)]).sep ((Row 5 1 (.slice ao2 x.length cap2) x.length (u8s x)).sep (Blk bn #[.int .i64 n] 3)))).sep ((Rd b l4 b4).sep R)) (by ac_rfl)).drop1
      clear HZ HZ0
      go_wp2
      refine bodyPost_ret (v := .agg #[.string K, .string ⟨#[]⟩, .bool true, .int .i64 q]) (by simp [results, Try.results75, go_sem, k0, k1, k2, k3]) rfl ⟨by rw [hD2.out]; rfl, by rw [hD2.out]; exact HF.out⟩
end Go.Proofs.Ytbepbbjeieafhaa.Bl

/-
  DERIVED: THE SHELF's CONTRACTS AT THIS DUMP, IN PLAIN WORDS (tools/lay-plain.mjs out of 'TryShelf.lean', which tools/lay-shelf.mjs wrote): THE SAME DECLARATIONS UNDER THE SAME NAMES: 'import', 'namespace', 'open', 'def', 'theorem' AND NOTHING ELSE: no command of the shelf's: FOR A HAND-IN. Each laying: the table of numbers ('.._ren') and one theorem, a field a fact of the dump's own or the kernel's comparison; each contract: ONE APPLICATION.
-/








namespace Go.Proofs
open Go.Shelf
def Try.lays115_ren : Go.Shelf.Ren := ⟨fun | 115 => 48 | n => n, fun | 37 => 24 | 4 => 4 | 9 => 9 | 5 => 5 | n => n, fun | n => n⟩
theorem Try.lays115 : Go.Proofs.Lays.n115 Try.prog Try.lays115_ren := {
  mixed := by kernel_rfl
  f115 := Try.func48.trans (congrArg some (by kernel_rfl))
  t4 := Try.underlying4
  a4 := Try.isAgg4
  z4 := Try.sizeOf4
  v4 := Try.zeroValue4
  t9 := Try.underlying9
  a9 := Try.isAgg9
  z9 := Try.sizeOf9
  v9 := Try.zeroValue9
  t37 := Try.underlying24
  a37 := Try.isAgg24
  z37 := Try.sizeOf24
  v37 := Try.zeroValue24 }
open Go.Proofs Go.RowKit Go.Lib in
/-- bytes.Equal, each argument with what 'string(..)' of it gives. (LAID: no walk: one application.) -/
theorem Try.bytes_Equal_strs (v1 v2 : Value) (t1 t2 : ByteArray) (w : World) (h1 : (convert 24 9 v1).run Try.prog w = .ok (.string t1) w) (h2 : (convert 24 9 v2).run Try.prog w = .ok (.string t2) w) :
    Calls Try.prog 48 #[v1, v2] w fun e w' => e = .returned (.bool (t1.toList == t2.toList)) ∧ w' = w := Any.bytes_Equal_strs Try.lays115 v1 v2 t1 t2 w h1 h2
def Try.laysSlK4_ren : Go.Shelf.Ren := ⟨fun | 4 => 66 | n => n, fun | 22 => 24 | 4 => 4 | 5 => 5 | n => n, fun | n => n⟩
theorem Try.laysSlK4 : Go.Proofs.SlLaysK.n4 Try.prog Try.laysSlK4_ren := {
  mixed := by kernel_rfl
  f4 := Try.func66.trans (congrArg some (by kernel_rfl))
  t4 := Try.underlying4
  a4 := Try.isAgg4
  z4 := Try.sizeOf4
  v4 := Try.zeroValue4
  t22 := Try.underlying24
  a22 := Try.isAgg24
  z22 := Try.sizeOf24
  v22 := Try.zeroValue24
  t5 := Try.underlying5
  i5 := by kernel_rfl }
open Go.RowKit Go.Lib in
/-- bytes.Clone: "Clone returns a copy of b[:len(b)]. The result may have additional unused capacity.": OF A SLICE THAT IS NOT nil IT RETURNS A SLICE THAT IS NOT nil, OF THE SAME BYTES, IN MEMORY OF THE CALL's OWN: in the how-to's words (6f): 'w'.ownsRow B e 1 v' n cells' · 'Below B w w'', B the heap's size at the call. b AT WHATEVER ADDRESS, its cells as 'open_ints' hands them ('a.add i'; the numbers 'xs'). No byte: no cell is asked for. (LAID: no walk: one application.) -/
theorem Try.bytes_Clone_at (a : Addr) (n c : Nat) (xs : List Int) (w : World) (hx : xs.length = n) (hbig : n ≤ 140737488355328) (hc : ∀ i, i < n → w.cell? (a.add i) = some (.int .u8 (xs.getD i 0))) :
    Calls Try.prog 66 #[.slice (some a) n c] w fun e w' => ∃ v', e = .returned v' ∧ w'.ownsRow w.heap.size 5 1 v' n (xs.map (Value.int .u8)) ∧ v' ≠ .slice none 0 0 ∧ Below w.heap.size w w' := Any.bytes_Clone_at Try.laysSlK4 a n c xs w hx hbig hc
open Go.RowKit Go.Lib in
/-- "Clone(nil) returns nil.": the world is as it was. (LAID: no walk: one application.) -/
theorem Try.bytes_Clone_nil (n c : Nat) (w : World) :
    Calls Try.prog 66 #[.slice none n c] w fun e w' => e = .returned (.slice none 0 0) ∧ w' = w := Any.bytes_Clone_nil Try.laysSlK4 n c w
def Try.laysSlJ14_ren : Go.Shelf.Ren := ⟨fun | 14 => 85 | 15 => 90 | n => n, fun | 26 => 95 | 22 => 24 | 3 => 3 | 4 => 4 | 0 => 0 | 9 => 9 | 20 => 20 | 5 => 5 | n => n, fun | n => n⟩
theorem Try.laysSlJ14 : Go.Proofs.SlLaysJ.n14 Try.prog Try.laysSlJ14_ren := {
  mixed := by kernel_rfl
  f14 := Try.func85.trans (congrArg some (by kernel_rfl))
  f15 := Try.func90.trans (congrArg some (by kernel_rfl))
  t0 := Try.underlying0
  a0 := Try.isAgg0
  z0 := Try.sizeOf0
  v0 := Try.zeroValue0
  t3 := Try.underlying3
  a3 := Try.isAgg3
  z3 := Try.sizeOf3
  v3 := Try.zeroValue3
  t4 := Try.underlying4
  a4 := Try.isAgg4
  z4 := Try.sizeOf4
  v4 := Try.zeroValue4
  t9 := Try.underlying9
  a9 := Try.isAgg9
  z9 := Try.sizeOf9
  v9 := Try.zeroValue9
  t20 := Try.underlying20
  a20 := Try.isAgg20
  z20 := Try.sizeOf20
  v20 := Try.zeroValue20
  t22 := Try.underlying24
  a22 := Try.isAgg24
  z22 := Try.sizeOf24
  v22 := Try.zeroValue24
  t26 := Try.underlying95
  a26 := Try.isAgg95
  z26 := Try.sizeOf95
  v26 := Try.zeroValue95
  t5 := Try.underlying5
  z5 := Try.sizeOf5
  i5 := by kernel_rfl }
open Go.RowKit Go.Lib in
theorem Try.bytes_Join_many (b o n c : Nat) (vs : List Value) (ls : List (List UInt8)) (sv : Value) (sep : List UInt8) (w : World) (hn : ls.length = n) (h2 : 2 ≤ n) (hP : Lib.PartsAt w ⟨b, o, none⟩ vs ls) (hcap : n ≤ c) (hS : Lib.HoldsBytes w sv sep) (hn47 : n ≤ 140737488355328) (hlen : Lib.lens ls + sep.length * (n - 1) ≤ 140737488355328) :
    Calls Try.prog 85 #[.slice (some ⟨b, o, none⟩) n c, sv] w fun e w' => ∃ v', e = .returned v' ∧ Lib.FreshBytes w.heap.size w' v' (Lib.join ls sep) ∧ Below w.heap.size w w' := Any.bytes_Join_many Try.laysSlJ14 b o n c vs ls sv sep w hn h2 hP hcap hS hn47 hlen
open Go.RowKit Go.Lib in
/-- bytes.Join of no part (nil too): '[]byte{}': a slice of no byte THAT IS NOT nil, at the head of a new, empty row. (LAID: no walk: one application.) -/
theorem Try.bytes_Join_none (p : Option Addr) (c : Nat) (sv : Value) (w : World) :
    Calls Try.prog 85 #[.slice p 0 c, sv] w fun e w' => e = .returned (.slice (some ⟨w.heap.size, 0, none⟩) 0 0) ∧ w' = w.alloc (.cells #[] 5) := Any.bytes_Join_none Try.laysSlJ14 p c sv w
open Go.RowKit Go.Lib in
/-- bytes.Join of ONE part, of one byte or more: 'append([]byte(nil), s[0]...)': a new []byte of its bytes; sep is not looked at. (LAID: no walk: one application.) -/
theorem Try.bytes_Join_one (b o c : Nat) (ad0 : Addr) (c0 : Nat) (l0 : List UInt8) (sv : Value) (w : World) (hcell : w.cell? ⟨b, o, none⟩ = some (.slice (some ad0) l0.length c0)) (hc : ∀ (i : Nat) x, l0[i]? = some x → w.cell? (ad0.add i) = some (.int .u8 (x.toNat : Int))) (h0 : 0 < l0.length) (hs : l0.length ≤ 140737488355328) :
    Calls Try.prog 85 #[.slice (some ⟨b, o, none⟩) 1 c, sv] w fun e w' => ∃ v', e = .returned v' ∧ Lib.FreshBytes w.heap.size w' v' l0 ∧ Below w.heap.size w w' := Any.bytes_Join_one Try.laysSlJ14 b o c ad0 c0 l0 sv w hcell hc h0 hs
open Go.RowKit Go.Lib in
/-- bytes.Join of ONE part of no byte (nil or not): 'append([]byte(nil), s[0]...)' IS nil; the world is as it was. (LAID: no walk: one application.) -/
theorem Try.bytes_Join_one_empty (b o c : Nat) (p0 : Option Addr) (c0 : Nat) (sv : Value) (w : World) (hcell : w.cell? ⟨b, o, none⟩ = some (.slice p0 0 c0)) :
    Calls Try.prog 85 #[.slice (some ⟨b, o, none⟩) 1 c, sv] w fun e w' => e = .returned (.slice none 0 0) ∧ w' = w := Any.bytes_Join_one_empty Try.laysSlJ14 b o c p0 c0 sv w hcell
def Try.laysnb115_ren : Go.Shelf.Ren := ⟨fun | 115 => 48 | n => n, fun | 37 => 24 | 4 => 4 | 9 => 9 | 5 => 5 | n => n, fun | n => n⟩
theorem Try.laysnb115 : Go.Proofs.Lays.nb115 Try.prog Try.laysnb115_ren := {
  mixed := by kernel_rfl
  f115 := Try.func48.trans (congrArg some (by kernel_rfl))
  t4 := Try.underlying4
  a4 := Try.isAgg4
  z4 := Try.sizeOf4
  v4 := Try.zeroValue4
  t9 := Try.underlying9
  a9 := Try.isAgg9
  z9 := Try.sizeOf9
  v9 := Try.zeroValue9
  t37 := Try.underlying24
  a37 := Try.isAgg24
  z37 := Try.sizeOf24
  v37 := Try.zeroValue24
  t5 := Try.underlying5
  a5 := Try.isAgg5
  z5 := Try.sizeOf5
  v5 := Try.zeroValue5 }
/-- bytes.Equal: WHOLE. (LAID: no walk: one application.) -/
theorem Try.bytes_Equal_all (p1 p2 : Option Addr) (n c m d : Nat) (xs ys : List Int) (w : World) (hx : xs.length = n) (hy : ys.length = m) (h1 : Lib.BytesIn w p1 n xs) (h2 : Lib.BytesIn w p2 m ys) :
    Calls Try.prog 48 #[.slice p1 n c, .slice p2 m d] w fun e w' => e = .returned (.bool (Lib.bytesOf xs == Lib.bytesOf ys)) ∧ w' = w := Any.bytes_Equal_all Try.laysnb115 p1 p2 n c m d xs ys w hx hy h1 h2
/-- bytes.Equal: "Equal reports whether a and b are the same length and contain the same bytes. A nil argument is equivalent to an empty slice.": IT RETURNS 'the bytes of the one == the bytes of the other'; the world is as it was. THE TWO ARGUMENTS COME AS WHATEVER VALUES, each with the one fact that the walk wants of it: what 'string(..)' of it gives: for a slice whose cells you know: 'run_convert_bytes_arg' (Derived/Laws/BytesArg.lean) hands that fact; for a nil one: 'run_convert_bytes_nil' (with xs := []). (LAID: no walk: one application.) -/
theorem Try.bytes_Equal (v1 v2 : Value) (xs ys : List Int) (w : World) (h1 : (convert 24 9 v1).run Try.prog w = .ok (.string (strOfNums xs)) w) (h2 : (convert 24 9 v2).run Try.prog w = .ok (.string (strOfNums ys)) w) :
    Calls Try.prog 48 #[v1, v2] w fun e w' => e = .returned (.bool (Lib.bytesOf xs == Lib.bytesOf ys)) ∧ w' = w := Any.bytes_Equal Try.lays115 v1 v2 xs ys w h1 h2
end Go.Proofs

/-
  bytes.Equal at rows of bytes that are read.
-/


namespace Go.Proofs.Ytbepbbjeieafhaa.Oct
open Go.RowKit L
theorem toList_mk (l : List UInt8) : (⟨l.toArray⟩ : ByteArray).toList = l := by
  rw [ByteArray.toList_eq]
theorem equal_any (va vb : Value) (a b : List UInt8) (w : World) (ha : Sl w 1 va a.length (u8s a)) (hb : Sl w 1 vb b.length (u8s b)) :
    Calls Try.prog 48 #[va, vb] w fun e w' => e = .returned (.bool (decide (a = b))) ∧ w = w' := by
  refine (Try.bytes_Equal_strs va vb ⟨a.toArray⟩ ⟨b.toArray⟩ w (ha.run_string Try.underlying24 Try.underlying5 Try.underlying9) (hb.run_string Try.underlying24 Try.underlying5 Try.underlying9)).mono ?_
  rintro e w' ⟨rfl, rfl⟩
  rw [toList_mk, toList_mk]
  exact ⟨ret_bool (by rw [Bool.eq_iff_iff]; simp), rfl⟩
end Go.Proofs.Ytbepbbjeieafhaa.Oct

/-
  Decode of chapter 7: what it answers.
-/



namespace Go.Proofs.Ytbepbbjeieafhaa.Bl
open Go.RowKit L Oct
/-- what Decode hands back: the cells of which these are the bytes; or, if there are none such, an error -/
def RetDec (w : World) (b : List UInt8) (e : Ending) (w' : World) : Prop :=
  Below w.heap.size w w' ∧ ((∃ l v, DecOk b l ∧ e = .returned (.tuple #[v, .int .i64 0]) ∧ Own w' w.heap.size 39 4 v l.length (cls l)) ∨ ((∀ l, ¬ DecOk b l) ∧ e = .returned (.tuple #[.slice none 0 0, .int .i64 3])))
def DecRel (w : World) (b : List UInt8) (br : Nat) (y : Value) (wr : World) : Prop :=
  ∃ ll rest bad, Hold w ((Rd br rest bad).sep ((Row 39 4 y ll.length (cls ll)).sep Asrt.emp)) wr ∧ Follow b ll rest bad ∧ ll.length + rest.length ≤ b.length ∧ (∀ c ∈ ll, c.key.size ≤ 4096)
theorem lastKey_le {ll : List Cl} {m : Nat} (h : ∀ c ∈ ll, c.key.size ≤ m) : (lastKey ll).size ≤ m := by
  unfold lastKey
  split
  · simp
  · rename_i hne
    have hp := List.length_pos_iff.2 hne
    refine h _ ?_
    rw [getD_get (by omega)]
    exact List.getElem_mem _
set_option maxRecDepth 100000 in
set_option maxHeartbeats 1600000 in
theorem decode_any (v : Value) (b : List UInt8) (w : World) (h : Sl w 1 v b.length (u8s b)) (hn : b.length ≤ 100000) : Calls Try.prog 46 #[v] w (RetDec w b) := by
  go_enter Try.func46, Try.ntmps46
  go_wp2_with fail
  refine (newReader_any (Hold.start w) v b h (by omega)).mono ?_
  rintro e w1 ⟨p, rfl, br, rfl, H1⟩
  have H0 := (H1.addNil 39 4).up2
  clear H1
  go_wp2
  go_loopw [5] (fun y wr => DecRel w b br y wr) (fun y _ => b.length - lenOf y)
  case atStart => exact ⟨[], b, false, H0, follow_start b, by simp, by simp⟩
  case round =>
    clear H0
    obtain ⟨ll, rest, bad, H, HF, hle, hks⟩ := hrel
    obtain ⟨ao, cap, rfl⟩ := H.up2.own.shape
    have hlen := H.up2.sl.run_len Try.underlying22
    go_wp2_with fail
    refine (left_any H).mono ?_
    rintro e w2 ⟨rfl, rfl⟩
    by_cases hne : rest = []
    · subst hne
      have Hsl := H.up2.sl
      have hll : ll.length ≤ 100000 := by simp at hle; omega
      go_wp2_with fail
      refine (encode_any _ ll _ Hsl hll).mono ?_
      rintro e w3 ⟨v3, rfl, ho3, hb3⟩
      have H3 := H.keeps hb3
      have s3 := ho3.sl
      have h11 := riseN_small ll
      clear ho3 hb3 Hsl H
      go_wp2_with fail
      refine (whole_any H3).mono ?_
      rintro e w4 ⟨rfl, rfl⟩
      have hs := h.below' H3.old
      have HH := Lib.hid H3.old
      have Ho := Lib.hid H3.drop1.fin.1
      clear H3
      cases bad with
      | true =>
        have hno : Hid (∀ l, ¬ DecOk b l) := Lib.hid fun l0 h0 => by cases (follow_end HF h0).2
        clear HF
        go_wp2
        go_ret2
        exact ⟨HH.out, .inr ⟨hno.out, rfl⟩⟩
      | false =>
        by_cases hr : riseN ll = 0
        · have hz : ((riseN ll : Int) != 0) = false := by simp [hr]
          have hR : Hid (encR ll = encL ll) := Lib.hid (by rw [encR, if_pos hr])
          have Hr := Lib.hid hr
          clear hr
          go_wp2_with fail
          refine (equal_any v3 v (encR ll) b _ s3 hs).mono ?_
          rintro e w4 ⟨rfl, rfl⟩
          by_cases he : encR ll = b
          · have hd : decide (encR ll = b) = true := by simpa using he
            have hok : Hid (DecOk b ll) := Lib.hid ⟨Hr.out, by rw [← hR.out]; exact he⟩
            clear he HF
            go_wp2
            go_ret2
            exact ⟨HH.out, .inl ⟨ll, _, hok.out, rfl, Ho.out⟩⟩
          · have hd : decide (encR ll = b) = false := by simpa using he
            have hno : Hid (∀ l, ¬ DecOk b l) := Lib.hid fun l0 h0 => he (by
              obtain ⟨rfl, _⟩ := follow_end HF h0
              rw [hR.out]; exact h0.2)
            clear he HF
            go_wp2
            go_ret2
            exact ⟨HH.out, .inr ⟨hno.out, rfl⟩⟩
        · have hz : ((riseN ll : Int) != 0) = true := by simp [hr]
          have hno : Hid (∀ l, ¬ DecOk b l) := Lib.hid fun l0 h0 => by
            obtain ⟨rfl, _⟩ := follow_end HF h0
            exact hr h0.1
          clear HF hr
          go_wp2
          go_ret2
          exact ⟨HH.out, .inr ⟨hno.out, rfl⟩⟩
    · have hpos : 0 < rest.length := List.length_pos_iff.2 hne
      have hlk := lastKey_le hks
      go_upto_if 17 with fail
      go_cut [6] (fun s6 wc => s6 = .string (lastKey ll) ∧ wc = wr)
      case first =>
        by_cases hl0 : ll = []
        · subst hl0
          have hlk : Hid (lastKey [] = ⟨#[]⟩) := Lib.hid rfl
          go_wp2
          go_meet
          exact ⟨by rw [hlk.out], rfl⟩
        · have hlp : 0 < ll.length := List.length_pos_iff.2 hl0
          obtain ⟨A, c, hA, _, hcells, Hc⟩ := H.up2.sl.atCl (P := Try.prog) Try.underlying22 Try.size39 (ll.length - 1) ((ll.length : Int) - 1) (by omega) (by omega)
          have hlk : Hid (lastKey ll = c.key) := Lib.hid (by rw [lastKey, if_neg hl0, Hc.out])
          have c0 := hcells.key
          clear hl0
          go_wp2
          go_meet
          exact ⟨by rw [hlk.out], rfl⟩
      case rest =>
        obtain ⟨rfl, rfl⟩ := hcut
        have hlt := cellD_lt (lastKey ll) rest bad hne
        have HF2 := follow_step HF hne
        have Hne := Lib.hid hne
        clear hne HF
        go_wp2_with fail
        refine (cell_any H (lastKey ll) (by omega) (by omega)).mono ?_
        rintro e w3 ⟨rfl, H3⟩
        obtain ⟨c, hc⟩ : ∃ c, c = (cellD (lastKey ll) rest bad).1 := ⟨_, rfl⟩
        obtain ⟨r', hr'⟩ : ∃ r', r' = (cellD (lastKey ll) rest bad).2.1 := ⟨_, rfl⟩
        obtain ⟨b', hb'⟩ : ∃ b', b' = (cellD (lastKey ll) rest bad).2.2 := ⟨_, rfl⟩
        rw [← hr', ← hb'] at H3
        rw [← hc, ← hr', ← hb'] at HF2
        rw [← hr'] at hlt
        rw [← hc]
        clear hc hr' hb' H
        rw [Cl.agg]
        have H4 := H3.addBlk (cs := #[.string c.key, .string c.val, .bool c.del, .int .i64 c.seq]) (t := 39) (b := w3.heap.size) rfl
        have HF3 := Lib.hid HF2
        by_cases hbig : 4096 < c.key.size
        · have hg : decide ((4096 : Int) < (c.key.size : Int)) = true := by simp; omega
          have HH := Lib.hid H4.old
          have hno : Hid (∀ l, ¬ DecOk b l) := Lib.hid fun l0 h0 => by
            have := isC_key (follow_key HF3.out h0).1
            omega
          clear HF2 H3 H4
          go_wp2
          go_ret2
          exact ⟨HH.out, .inr ⟨hno.out, rfl⟩⟩
        · have hg : decide ((4096 : Int) < (c.key.size : Int)) = false := by simp; omega
          have H5 := Lib.hid H4
          clear HF2 H3 H4
          have H6 := Lib.hid (H5.out.keeps (below_one _ (.cells #[.string c.key, .string c.val, .bool c.del, .int .i64 c.seq] 39))).up3
          clear H5
          go_wp2_with (at_builtin; refine wpList_appC H6.out rfl _ _ rfl rfl rfl (sl_builtC (w3.alloc (.cells #[.string c.key, .string c.val, .bool c.del, .int .i64 c.seq] 39)) [c] 39 (by simp [maxLen]) (b := w3.heap.size + 1) (by simp)) (by simp only [List.length_singleton]; omega) ?_; intro ao7 n7 cap7 w7 N7 H7)
          have HG := Lib.hid H7.up2.drop1.up2
          have hks2 : Hid (∀ x ∈ ll ++ [c], x.key.size ≤ 4096) := Lib.hid fun x hx => by
            rcases List.mem_append.1 hx with hx | hx
            · exact hks x hx
            · obtain rfl := List.mem_singleton.1 hx
              omega
          clear H6 H7
          go_roundw
          case rel => exact ⟨ll ++ [c], r', b', HG.out, HF3.out, by rw [List.length_append, List.length_singleton]; omega, hks2.out⟩
          case measure => simp [lenOf, N7.out]; omega
end Go.Proofs.Ytbepbbjeieafhaa.Bl

/-
  The reference's Reader of chapter 1: Bad, Raw, Num, Bytes, Whole: what they take. What it reads lies in memory that was there (W0), or in memory of its own.
-/


namespace Go.Proofs.Ytbepbbjeieafhaa.Oct
open Go.RowKit L
/-- a reference's Reader at a block of its own: what is left, and whether it erred -/
def Xd (W0 : World) (b : Nat) (l : List UInt8) (bad : Bool) : Asrt where
  at_ F w := ∃ v, w.heap[b]? = some (.cells #[v, .bool bad] 84 (0, 0)) ∧ (bad = true → l = []) ∧ (0 < l.length → v.ownBlock ≠ some b) ∧
    ((Sl w 1 v l.length (u8s l) ∧ ∀ k, F k ↔ k = b ∨ (v.ownBlock = some k ∧ 0 < l.length)) ∨ (Sl W0 1 v l.length (u8s l) ∧ W0.heap.size ≤ b ∧ ∀ k, F k ↔ k = b))
  stay := by
    rintro F w w' ⟨v, h1, h2, h3, h4⟩ hk
    have hb : F b := by
      rcases h4 with ⟨_, hF⟩ | ⟨_, _, hF⟩
      · exact (hF b).2 (.inl rfl)
      · exact (hF b).2 rfl
    refine ⟨v, by rw [hk b hb]; exact h1, h2, h3, ?_⟩
    rcases h4 with ⟨hs, hF⟩ | h4
    · refine .inl ⟨?_, hF⟩
      by_cases hl : 0 < l.length
      · exact hs.kept fun k e => hk k ((hF k).2 (.inr ⟨e, hl⟩))
      · exact hs.none (by omega)
    · exact .inr h4
  lt := by
    rintro F w ⟨v, h1, h2, h3, h4⟩ k hk
    have hb := (Array.getElem?_eq_some_iff.1 h1).1
    rcases h4 with ⟨hs, hF⟩ | ⟨_, _, hF⟩
    · rcases (hF k).1 hk with rfl | ⟨e, hl⟩
      · exact hb
      · exact hs.lt (by omega) k e
    · rw [(hF k).1 hk]; exact hb
section
variable {W0 w w' : World} {R : Asrt} {b : Nat} {l : List UInt8} {bad : Bool} {v : Value}
/-- a Reader as it is made, of bytes that were there -/
theorem addXdOld (h : Hold W0 R w) (hs : Sl W0 1 v l.length (u8s l)) {b : Nat} (hb : w.heap.size = b) : Hold W0 ((Xd W0 b l false).sep R) (w.alloc (.cells #[v, .bool false] 84)) := by
  subst hb
  refine h.add ((Below.refl _ _).alloc (Nat.le_refl _) _) (A := Xd W0 w.heap.size l false) (F := fun k => k = w.heap.size) ⟨v, heap_alloc_new w _, by simp, fun hl e => ?_, .inr ⟨hs, h.old.size, fun k => Iff.rfl⟩⟩ fun k hk => by omega
  have := hs.lt (by omega) _ e
  have := h.old.size
  omega
/-- a Reader as it is made, of bytes of the call's own -/
theorem addXd (h : Hold W0 ((Row 5 1 v l.length (u8s l)).sep R) w) {b : Nat} (hb : w.heap.size = b) : Hold W0 ((Xd W0 b l false).sep R) (w.alloc (.cells #[v, .bool false] 84)) := by
  subst hb
  have hal := (Below.refl w.heap.size w).alloc (Nat.le_refl _) (.cells #[v, .bool false] 84)
  obtain ⟨F, ⟨hown, hF⟩, hge, hup⟩ := h.take
  have hup' := hup (w.alloc (.cells #[v, .bool false] 84)) (Xd W0 w.heap.size l false) (fun k => k = w.heap.size ∨ (v.ownBlock = some k ∧ 0 < l.length)) (Keeps.of_below hal)
    ⟨v, heap_alloc_new w _, by simp, fun hl e => ?_, .inl ⟨hown.sl.below' hal, fun k => Iff.rfl⟩⟩ ?_
  · exact hup'
  · have := (hown.lt _ e).2
    omega
  · rintro k (rfl | ⟨e, _⟩)
    · exact .inr (Nat.le_refl _)
    · exact .inl ((hF k).2 e)
/-- what a Reader's block holds -/
theorem xd_open (h : Hold W0 ((Xd W0 b l bad).sep R) w) : ∃ v, w.heap[b]? = some (.cells #[v, .bool bad] 84 (0, 0)) ∧ (bad = true → l = []) ∧ Sl w 1 v l.length (u8s l) ∧ (0 < l.length → v.ownBlock ≠ some b) := by
  obtain ⟨F, v, h1, h2, h3, h4⟩ := h.fst
  refine ⟨v, h1, h2, ?_, h3⟩
  rcases h4 with ⟨hs, _⟩ | ⟨hs, _⟩
  · exact hs
  · exact hs.below' h.old
/-- the block is written: an error -/
theorem xd_bad (h : Hold W0 ((Xd W0 b l bad).sep R) w) : Hold W0 ((Xd W0 b [] true).sep R) ((w.setCell ⟨b, 1, none⟩ (.bool true)).setCell ⟨b, 0, none⟩ (.slice none 0 0)) := by
  obtain ⟨F, ⟨v, hb, h2, h3, h4⟩, hge, hup⟩ := h.take
  have hFb : F b := by
    rcases h4 with ⟨_, hF⟩ | ⟨_, _, hF⟩
    · exact (hF b).2 (.inl rfl)
    · exact (hF b).2 rfl
  have hs0 := blk_set hb 1 (.bool true)
  have hs1 := blk_set hs0 0 (.slice none 0 0)
  exact hup _ (Xd W0 b [] true) (fun k => k = b) (((Keeps.refl F w).setCell (fun _ => hFb) _).setCell (fun _ => hFb) _)
    ⟨.slice none 0 0, hs1, fun _ => rfl, by simp, .inl ⟨Sl.nil _ _, fun k => by simp⟩⟩ (fun k hk => .inl (by rw [hk]; exact hFb))
/-- the beginning of what is left is taken -/
theorem xd_cut {v' : Value} (h : Hold W0 ((Xd W0 b l bad).sep R) w) (hb : w.heap[b]? = some (.cells #[v, .bool bad] 84 (0, 0))) (n : Nat) (hn : n ≤ l.length) {lo : Option Value} (hlo : lo = some (.int .i64 (n : Int)))
    (hr : (Instr.slice 24 v lo none none).run Try.prog w = .ok v' w) : Hold W0 ((Xd W0 b (l.drop n) bad).sep R) (w.setCell ⟨b, 0, none⟩ v') := by
  obtain ⟨F, ⟨v0, hb0, h2, h3, h4⟩, hge, hup⟩ := h.take
  rw [hb] at hb0
  simp only [Option.some.injEq, Obj.cells.injEq, and_true] at hb0
  have hv : v = v0 := by
    have := congrArg (fun a : Array Value => a[0]?) hb0
    simpa using this
  subst hv
  have hFb : F b := by
    rcases h4 with ⟨_, hF⟩ | ⟨_, _, hF⟩
    · exact (hF b).2 (.inl rfl)
    · exact (hF b).2 rfl
  have hll : (l.drop n).length = l.length - n := by simp
  have key : ∀ W : World, Sl W 1 v l.length (u8s l) → Sl W 1 v' (l.drop n).length (u8s (l.drop n)) ∧ v'.ownBlock = v.ownBlock := by
    intro W hs
    obtain ⟨v2, hr2, hs2, ho2⟩ := run_slice_sl (P := Try.prog) hs Try.underlying24 Try.size5 lo none n l.length (.inr ⟨.i64, hlo⟩) (.inl ⟨rfl, rfl⟩) hn (Nat.le_refl _)
    have e : v2 = v' := by
      have := (hr2 w).symm.trans hr
      exact (Result.ok.inj this).1
    subst e
    refine ⟨?_, ho2⟩
    rw [hll]
    rw [Nat.mul_one, Nat.mul_one, u8s_drop, List.take_of_length_le (by rw [u8s_length]; simp)] at hs2
    exact hs2
  have hbad : bad = true → l.drop n = [] := fun e => by rw [h2 e]; simp
  rcases h4 with ⟨hs, hF⟩ | ⟨hs, hW, hF⟩
  · obtain ⟨hs', ho⟩ := key w hs
    refine hup _ (Xd W0 b (l.drop n) bad) (fun k => k = b ∨ (v'.ownBlock = some k ∧ 0 < (l.drop n).length)) ((Keeps.refl F w).setCell (fun _ => hFb) _)
      ⟨v', blk_set hb 0 v', hbad, fun hl => by rw [ho]; exact h3 (by omega), .inl ⟨?_, fun k => Iff.rfl⟩⟩ ?_
    · by_cases hl : 0 < (l.drop n).length
      · refine hs'.kept fun k e => Below.heap_setCell _ _ _ _ fun e2 => h3 (by omega) ?_
        rw [← ho, e, e2]
      · exact hs'.none (by omega)
    · rintro k (rfl | ⟨e, hl⟩)
      · exact .inl hFb
      · exact .inl ((hF k).2 (.inr ⟨by rw [← ho]; exact e, by omega⟩))
  · obtain ⟨hs', ho⟩ := key W0 hs
    refine hup _ (Xd W0 b (l.drop n) bad) (fun k => k = b) ((Keeps.refl F w).setCell (fun _ => hFb) _)
      ⟨v', blk_set hb 0 v', hbad, fun hl => by rw [ho]; exact h3 (by omega), .inr ⟨hs', hW, fun k => Iff.rfl⟩⟩ fun k hk => .inl (by rw [hk]; exact hFb)
end
theorem xbad_any {W0 w : World} {R : Asrt} {b : Nat} {l : List UInt8} {bad : Bool} (h : Hold W0 ((Xd W0 b l bad).sep R) w) :
    Calls Try.prog 79 #[.pointer (some ⟨b, 0, none⟩)] w fun e w' => e = .returned (.tuple #[]) ∧ Hold W0 ((Xd W0 b [] true).sep R) w' := by
  obtain ⟨v, hb, h2, hsl, h3⟩ := xd_open h
  have hc0 : w.cell? ⟨b, 0, none⟩ = some v := blk_cell hb 0
  have hc1 : w.cell? ⟨b, 1, none⟩ = some (.bool bad) := blk_cell hb 1
  have hf0 := blk_free hb 0
  have hf1 := blk_free hb 1
  have hs0 := blk_set hb 1 (.bool true)
  have hc1' := blk_cell hs0 0
  have hf1' := blk_free hs0 0
  have Hfin := Lib.hid (xd_bad h)
  clear hs0 h2 hsl h3 h hb
  go_enter Try.func79, Try.ntmps79
  go_wp2
  go_end0
  exact ⟨rfl, Hfin.out⟩
set_option maxRecDepth 100000 in
set_option maxHeartbeats 1600000 in
theorem xraw_any {W0 w : World} {R : Asrt} {b : Nat} {l : List UInt8} {bad : Bool} (h : Hold W0 ((Xd W0 b l bad).sep R) w) (n : Int) (hl : l.length ≤ 140737488355328) :
    Calls Try.prog 78 #[.pointer (some ⟨b, 0, none⟩), .int .i64 n] w (RetV fun v' w' => Hold W0 ((Row 5 1 v' (got [] (decRaw n l)).length (u8s (got [] (decRaw n l)))).sep ((Xd W0 b (left (decRaw n l)) (bad || (decRaw n l).isNone)).sep R)) w') := by
  obtain ⟨v, hb, h2, hsl, h3⟩ := xd_open h
  have hc0 : w.cell? ⟨b, 0, none⟩ = some v := blk_cell hb 0
  have hc1 : w.cell? ⟨b, 1, none⟩ = some (.bool bad) := blk_cell hb 1
  have hlen := hsl.run_len Try.underlying24
  by_cases hok : 0 ≤ n ∧ n ≤ l.length
  · obtain ⟨m, rfl⟩ : ∃ m : Nat, n = m := ⟨n.toNat, by omega⟩
    have hm : m ≤ l.length := by omega
    have e0 : decRaw (m : Int) l = some (l.take m, l.drop m) := by simp [decRaw, hm]
    rw [e0]
    show Calls Try.prog 78 #[.pointer (some ⟨b, 0, none⟩), .int .i64 (m : Int)] w (RetV fun v' w' => Hold W0 ((Row 5 1 v' (l.take m).length (u8s (l.take m))).sep ((Xd W0 b (l.drop m) (bad || false)).sep R)) w')
    rw [Bool.or_false]
    obtain ⟨hn1, hn2⟩ := hok
    cases bad with
    | true =>
      have hl0 := h2 rfl
      subst hl0
      have hm0 : m = 0 := by simpa using hm
      subst hm0
      have Hf := Lib.hid (h.addNil 5 1)
      clear h h2 h3 hb hsl
      go_enter Try.func78, Try.ntmps78
      go_wp2
      go_ret
      exact ⟨_, rfl, by simpa [u8s] using Hf.out⟩
    | false =>
      obtain ⟨v1, hr1, hs1, ho1⟩ := run_slice_sl (P := Try.prog) hsl Try.underlying24 Try.size5 none (some (.int .i64 (m : Int))) 0 m (.inl ⟨rfl, rfl⟩) (.inr ⟨_, rfl⟩) (Nat.zero_le _) hm
      have hx1 : Sl w 1 v1 (l.take m).length (u8s (l.take m)) := by
        rw [List.length_take, Nat.min_eq_left hm]
        simpa [u8s_take] using hs1
      have H0 := h.addEmpty 5
      have hc0a : (w.alloc (.cells #[] 5)).cell? ⟨b, 0, none⟩ = some v := blk_cell (cs := #[v, .bool false]) (t := 84) (by rw [((Below.refl w.heap.size w).alloc (Nat.le_refl _) (.cells #[] 5)).block b (Array.getElem?_eq_some_iff.1 hb).1, hb]) 0
      have hx1' := sl_alloc hx1 (.cells #[] 5)
      obtain ⟨X, hX⟩ : ∃ X, X = l.take m := ⟨_, rfl⟩
      rw [← hX] at hx1' ⊢
      have hXl : X.length ≤ l.length := by rw [hX, List.length_take]; omega
      clear hs1 hx1 ho1 hX hsl h2 h3
      go_enter Try.func78, Try.ntmps78
      go_wp2_with (at_builtin; refine wpList_app el8 H0 rfl _ _ rfl rfl rfl hx1' (u8s_one _) (by omega) (by omega) ?_; intro v4 xs4 w4 X4 H4; rw [X4.out, List.nil_append, Nat.zero_add] at H4; obtain ⟨v0, hb4, _, hsl4, _⟩ := xd_open H4.up2; obtain ⟨v2, hr2, hs2, _⟩ := run_slice_sl (P := Try.prog) hsl4 Try.underlying24 Try.size5 (some (.int .i64 (m : Int))) none m l.length (.inr ⟨_, rfl⟩) (.inl ⟨rfl, rfl⟩) hm (Nat.le_refl _); obtain ⟨p2, c2, rfl⟩ := hs2.shape; have hc4 : w4.cell? ⟨b, 0, none⟩ = some v0 := blk_cell hb4 0; have hf4 := blk_free hb4 0; have H6 := Lib.hid (xd_cut H4.up2 hb4 m hm rfl (hr2 w4)).up2; clear X4 H4 H0 h hsl4 hs2)
      go_ret
      exact ⟨_, rfl, H6.out⟩
  · have e0 : decRaw n l = none := by simp only [decRaw, if_neg hok]
    rw [e0]
    clear hsl h2 h3 hb
    by_cases hn : n < 0
    all_goals
      go_enter Try.func78, Try.ntmps78
      go_wp2_with fail
      refine (xbad_any h).mono ?_
      rintro e w1 ⟨rfl, hH⟩
      obtain ⟨v1, hb1, _, _, _⟩ := xd_open hH
      have hc1' : w1.cell? ⟨b, 1, none⟩ = some (.bool true) := blk_cell hb1 1
      have HH := Lib.hid (hH.addNil 5 1)
      clear hH hb1 h
      go_wp2
      go_ret
      exact ⟨_, rfl, by simpa [got, left, u8s] using HH.out⟩
theorem or_digit9 (m d : Nat) (hm : m < 2 ^ 63) (hd : d < 2) : bits .or .u64 (m : Int) (IntKind.u64.wrap ((d : Int) * 2 ^ (7 * 9))) = ((m + d * 2 ^ (7 * 9) : Nat) : Int) := by
  have h1 : d * 2 ^ (7 * 9) ≤ 1 * 2 ^ 63 := Nat.mul_le_mul (by omega) (by decide)
  have e1 : ((d : Int) * 2 ^ (7 * 9)) = ((d * 2 ^ (7 * 9) : Nat) : Int) := by simp
  have e2 : IntKind.u64.wrap ((d * 2 ^ (7 * 9) : Nat) : Int) = ((d * 2 ^ (7 * 9) : Nat) : Int) := IntWalk.u64_in _ (by omega)
  rw [e1, e2, u64_or_nat _ _ (by omega) (by omega)]
  congr 1
  rw [Nat.or_comm, Nat.add_comm, ← Nat.shiftLeft_eq, Nat.shiftLeft_add_eq_or_of_lt (by simpa using hm)]
set_option maxRecDepth 100000 in
set_option maxHeartbeats 1600000 in
theorem xnum_any {W0 w : World} {R : Asrt} {b : Nat} {l : List UInt8} {bad : Bool} (h : Hold W0 ((Xd W0 b l bad).sep R) w) (hl : l.length ≤ 140737488355328) :
    Calls Try.prog 50 #[.pointer (some ⟨b, 0, none⟩)] w fun e w' => e = .returned (.int .i64 (got 0 (dec 0 0 l) : Nat)) ∧ Hold W0 ((Xd W0 b (left (dec 0 0 l)) (bad || (dec 0 0 l).isNone)).sep R) w' := by
  obtain ⟨D, hD⟩ : ∃ D, D = dec 0 0 l := ⟨_, rfl⟩
  rw [← hD]
  go_enter Try.func50, Try.ntmps50
  go_wp2
  go_loopw [4, 3] (fun i u wr => ∃ (k m : Nat), k ≤ l.length ∧ k ≤ 9 ∧ i = .int .i64 k ∧ u = .int .u64 m ∧ m < 2 ^ (7 * k) ∧ D = dec k m (l.drop k) ∧ Hold W0 ((Xd W0 b (l.drop k) bad).sep R) wr) (fun i _ _ => 10 - (intOf i).toNat)
  case atStart => exact ⟨0, 0, Nat.zero_le _, Nat.zero_le _, rfl, rfl, by decide, by simpa using hD, by simpa using h⟩
  case round =>
    clear hD h
    obtain ⟨k, m, hk, hk9, rfl, rfl, hm, hDk, HH⟩ := hrel
    by_cases hlt : k < l.length
    · obtain ⟨c, hcx⟩ : ∃ c, c = l.getD k 0 := ⟨_, rfl⟩
      have hdr : l.drop k = c :: l.drop (k + 1) := by
        rw [List.drop_eq_getElem_cons hlt, hcx]
        simp [List.getD, hlt]
      obtain ⟨r, hr⟩ : ∃ r, r = l.drop (k + 1) := ⟨_, rfl⟩
      have hrl : r.length + 1 ≤ 140737488355328 := by rw [hr, List.length_drop]; omega
      rw [hdr, ← hr] at HH hDk
      obtain ⟨_, _, hb2, _, _⟩ := xd_open HH
      have hbf : bad = false := by
        cases bad with
        | false => rfl
        | true => cases hb2 rfl
      subst hbf
      have Hr := Lib.hid hr
      clear hdr hcx hr hb2
      go_wp2_with fail
      refine (xraw_any HH 1 (by simpa using hrl)).mono ?_
      rintro e w2 ⟨v2, rfl, H2⟩
      have e1 : decRaw 1 (c :: r) = some ([c], r) := by
        unfold decRaw
        rw [if_pos ⟨by omega, by rw [List.length_cons]; omega⟩]
        rfl
      rw [e1] at H2
      have H2 : Hold W0 ((Row 5 1 v2 [c].length (u8s [c])).sep ((Xd W0 b r false).sep R)) w2 := H2
      obtain ⟨v3, hb3, _, _, _⟩ := xd_open H2.up2
      have hc1 : w2.cell? ⟨b, 1, none⟩ = some (.bool false) := blk_cell hb3 1
      obtain ⟨A, x, hA, hblk, hcA, hx, _⟩ := H2.sl.at8' (P := Try.prog) Try.underlying24 Try.size5 0 0 rfl (by simp)
      have hxc : x = c := hx.out
      subst hxc
      have H3 := Lib.hid H2.drop1
      clear H2 HH e1 hb3 hx hblk
      simp only [dec] at hDk
      have hcl := x.toNat_lt
      by_cases h9 : k = 9
      · subst h9
        rw [if_pos (by omega)] at hDk
        subst hDk
        by_cases hc127 : 127 < x.toNat
        · go_wp2_with fail
          refine (xbad_any H3.out).mono ?_
          rintro e w5 ⟨rfl, hH⟩
          have HH := Lib.hid hH
          clear hH
          go_wp2
          go_ret
          exact ⟨rfl, by simpa [left] using HH.out⟩
        by_cases hc1' : 1 < x.toNat
        · go_wp2_with fail
          refine (xbad_any H3.out).mono ?_
          rintro e w5 ⟨rfl, hH⟩
          have HH := Lib.hid hH
          clear hH
          go_wp2
          go_ret
          exact ⟨rfl, by simpa [left] using HH.out⟩
        obtain ⟨X, hX⟩ : ∃ X, X = m + x.toNat * 2 ^ (7 * 9) := ⟨_, rfl⟩
        have hor : bits .or .u64 (m : Int) (IntKind.u64.wrap (IntKind.u64.wrap (bits .and .u8 (x.toNat : Int) 127) * 9223372036854775808)) = (X : Int) := by
          have := or_digit9 m x.toNat hm (by omega)
          rw [← hX] at this
          rw [u8_and127, Nat.mod_eq_of_lt (by omega), IntWalk.u64_in (x.toNat : Int) (by omega)]
          exact this
        have hXl : X < 18446744073709551616 := by omega
        by_cases hz : x.toNat = 0
        · have hcc : ((x.toNat : Int) == 0) = true := by simp [hz]
          clear hX hm
          go_wp2_with fail
          refine (xbad_any H3.out).mono ?_
          rintro e w5 ⟨rfl, hH⟩
          have HH := Lib.hid hH
          clear hH
          go_wp2
          go_ret
          exact ⟨rfl, by simpa [left] using HH.out⟩
        · have hcc : ((x.toNat : Int) == 0) = false := by simp; omega
          have hbig : 4611686018427387904 < X := by omega
          clear hX hm
          go_wp2_with fail
          refine (xbad_any H3.out).mono ?_
          rintro e w5 ⟨rfl, hH⟩
          have HH := Lib.hid hH
          clear hH
          go_wp2
          go_ret
          exact ⟨rfl, by simpa [left] using HH.out⟩
      · have hk9' : k < 9 := by omega
        have hne9 : ((k : Int) == 9) = false := by simp; omega
        obtain ⟨X, hX⟩ : ∃ X, X = m + x.toNat % 128 * 2 ^ (7 * k) := ⟨_, rfl⟩
        have hor : bits .or .u64 (m : Int) (IntKind.u64.wrap (IntKind.u64.wrap (bits .and .u8 (x.toNat : Int) 127) * 2 ^ (7 * k))) = (X : Int) := by
          have := or_digit k m (x.toNat % 128) hk9' hm (by omega)
          rw [← hX] at this
          rw [u8_and127, IntWalk.u64_in ((x.toNat % 128 : Nat) : Int) (by omega)]
          exact this
        have hXlt : X < 2 ^ (7 * (k + 1)) := by
          have h1 : 2 ^ (7 * (k + 1)) = 128 * 2 ^ (7 * k) := by rw [Nat.mul_succ, Nat.pow_add]; omega
          have h2 : x.toNat % 128 * 2 ^ (7 * k) ≤ 127 * 2 ^ (7 * k) := Nat.mul_le_mul_right _ (by omega)
          omega
        by_cases hbrk : 0 < k ∧ x.toNat = 0
        · rw [if_pos (.inr hbrk)] at hDk
          subst hDk
          obtain ⟨hk0, hz⟩ := hbrk
          have hcc : ((x.toNat : Int) == 0) = true := by simp [hz]
          clear hX hm hXlt
          go_wp2_with fail
          refine (xbad_any H3.out).mono ?_
          rintro e w5 ⟨rfl, hH⟩
          have HH := Lib.hid hH
          clear hH
          go_wp2
          go_ret
          exact ⟨rfl, by simpa [left] using HH.out⟩
        · rw [if_neg (by rintro (h | h); omega; exact hbrk h)] at hDk
          by_cases h128 : x.toNat < 128
          · rw [if_pos h128, ← show X = m + x.toNat * 2 ^ (7 * k) from by rw [hX, Nat.mod_eq_of_lt h128]] at hDk
            clear hX hXlt hm
            by_cases hbig : 4611686018427387904 < X
            · rw [if_pos hbig] at hDk
              subst hDk
              by_cases hk0 : 0 < k
              · have hcc : ((x.toNat : Int) == 0) = false := by simp; omega
                clear hbrk
                go_wp2_with fail
                refine (xbad_any H3.out).mono ?_
                rintro e w5 ⟨rfl, hH⟩
                have HH := Lib.hid hH
                clear hH
                go_wp2
                go_ret
                exact ⟨rfl, by simpa [left] using HH.out⟩
              · clear hbrk
                go_wp2_with fail
                refine (xbad_any H3.out).mono ?_
                rintro e w5 ⟨rfl, hH⟩
                have HH := Lib.hid hH
                clear hH
                go_wp2
                go_ret
                exact ⟨rfl, by simpa [left] using HH.out⟩
            · rw [if_neg hbig] at hDk
              subst hDk
              by_cases hk0 : 0 < k
              · have hcc : ((x.toNat : Int) == 0) = false := by simp; omega
                clear hbrk
                go_wp2
                go_ret
                exact ⟨rfl, H3.out⟩
              · clear hbrk
                go_wp2
                go_ret
                exact ⟨rfl, H3.out⟩
          · rw [if_neg h128, show (x.toNat - 128) = x.toNat % 128 from by omega, ← hX] at hDk
            have HD := Lib.hid hDk
            have HX := Lib.hid hXlt
            clear hX hm hXlt hDk hbrk
            go_wp2
            go_roundw
            case rel => exact ⟨k + 1, X, by omega, by omega, by go_num, rfl, HX.out, by rw [← Hr.out]; exact HD.out, by rw [← Hr.out]; exact H3.out⟩
            case measure => simp [intOf]; omega
    · obtain rfl : k = l.length := by omega
      rw [List.drop_length] at hDk HH
      simp only [dec] at hDk
      subst hDk
      go_wp2_with fail
      refine (xraw_any HH 1 (by simp)).mono ?_
      rintro e w2 ⟨v2, rfl, H2⟩
      have e1 : decRaw 1 [] = none := by simp [decRaw]
      rw [e1] at H2
      obtain ⟨v3, hb3, _, _, _⟩ := xd_open H2.up2
      have hc1 : w2.cell? ⟨b, 1, none⟩ = some (.bool (bad || (none : Option (List UInt8 × List UInt8)).isNone)) := blk_cell hb3 1
      simp only [Option.isNone_none, Bool.or_true] at hc1
      have H3 := Lib.hid H2.drop1
      clear H2 HH e1 hb3
      go_wp2
      go_ret
      exact ⟨rfl, H3.out⟩
set_option maxHeartbeats 800000 in
theorem xbytes_any {W0 w : World} {R : Asrt} {b : Nat} {l : List UInt8} {bad : Bool} (h : Hold W0 ((Xd W0 b l bad).sep R) w) (hl : l.length ≤ 140737488355328) :
    Calls Try.prog 51 #[.pointer (some ⟨b, 0, none⟩)] w (RetV fun v' w' => Hold W0 ((Row 5 1 v' (got [] (decRow l)).length (u8s (got [] (decRow l)))).sep ((Xd W0 b (left (decRow l)) (bad || (decRow l).isNone)).sep R)) w') := by
  obtain ⟨e1, e2, e3⟩ := decRow_raw l bad
  rw [e1, e2, e3]
  obtain ⟨_, _, hb2, _, _⟩ := xd_open h
  have hll : (left (dec 0 0 l)).length ≤ 140737488355328 := by
    cases hd : dec 0 0 l with
    | none => simp [left]
    | some p =>
      obtain ⟨n, r⟩ := p
      have := dec_length l 0 0 n r hd
      simp [left]; omega
  clear e1 e2 e3
  have hnum := xnum_any h hl
  obtain ⟨D, hD⟩ : ∃ D, D = dec 0 0 l := ⟨_, rfl⟩
  rw [← hD] at hnum hll ⊢
  go_enter Try.func51, Try.ntmps51
  go_wp2_with fail
  refine hnum.mono ?_
  rintro e w1 ⟨rfl, h1⟩
  obtain ⟨v3, hb3, _, _, _⟩ := xd_open h1
  have hc1 : w1.cell? ⟨b, 1, none⟩ = some (.bool (bad || D.isNone)) := blk_cell hb3 1
  clear hb3 h
  cases D with
  | none =>
    have H2 := Lib.hid (h1.addNil 5 1)
    clear h1
    simp only [Option.isNone_none, Bool.or_true] at hc1
    go_wp2
    go_ret
    exact ⟨_, rfl, by simpa [got, left, decRaw, u8s] using H2.out⟩
  | some p =>
    have hbf : bad = false := by
      cases bad with
      | false => rfl
      | true => rw [hb2 rfl] at hD; simp [dec] at hD
    subst hbf
    simp only [Option.isNone_some, Bool.or_false] at hc1
    clear hb2 hD
    go_wp2_with fail
    refine (xraw_any h1 _ hll).mono ?_
    rintro e w2 ⟨v', rfl, h2⟩
    have H2 := Lib.hid h2
    clear h1 h2 hc1
    go_wp2
    go_ret
    exact ⟨v', rfl, H2.out⟩
end Go.Proofs.Ytbepbbjeieafhaa.Oct
