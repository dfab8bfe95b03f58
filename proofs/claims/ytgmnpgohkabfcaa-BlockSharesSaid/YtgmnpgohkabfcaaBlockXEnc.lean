/-
  The reference's Encode of chapter 7: what it answers.
-/
import Derived.Test.YtgmnpgohkabfcaaBlockEnc
import Derived.Test.YtgmnpgohkabfcaaOctetRNum
import Derived.Test.YtgmnpgohkabfcaaApp8
namespace Go.Proofs.Ytgmnpgohkabfcaa.Bl
open Go.RowKit L Oct
set_option maxRecDepth 100000 in
set_option maxHeartbeats 1600000 in
theorem xencode_any (v : Value) (l : List Cl) (w : World) (h : Sl w 4 v l.length (cls l)) (hn : l.length ≤ 100000) : Calls Try.prog 12 #[v] w (RetEnc w l) := by
  have hlen := h.run_len Try.underlying22
  have hr11 := riseN_small l
  go_enter Try.func12, Try.ntmps12
  go_wp2_with fail
  refine (xrise_any v l w h).mono ?_
  rintro e w1 ⟨rfl, hb1⟩
  by_cases hr : riseN l = 0
  · have hz : ((riseN l : Int) != 0) = false := by simp [hr]
    have H0 := ((Hold.start w).keeps hb1).addNil 5 1
    have Hr := Lib.hid hr
    have Hall := Lib.hid (riseN_all hr)
    clear hr hb1
    go_wp2
    go_loopw [5, 6] (fun y i wr => ∃ k : Nat, k ≤ l.length ∧ i = .int .i64 k ∧ Hold w ((Row 5 1 y (encUp l k).length (u8s (encUp l k))).sep Asrt.emp) wr) (fun _ i _ => l.length - (intOf i).toNat)
    case atStart => exact ⟨0, Nat.zero_le _, rfl, H0⟩
    case round =>
      clear H0
      obtain ⟨k, hk, rfl, H⟩ := hrel
      obtain ⟨ao0, cap0, rfl⟩ := H.own.shape
      by_cases hlt : k < l.length
      · obtain ⟨A, c, hA, _, Hcells, Hc⟩ := h.atCl (P := Try.prog) Try.underlying22 Try.size36 k _ rfl hlt
        have hlen2 : (encUp l k).length ≤ 21000 * k := encUp_length l Hall.out k (by omega)
        have hck := isC_key (Hall.out c (by rw [Hc.out, getD_get hlt]; exact List.getElem_mem hlt))
        have Hsq := Lib.hid (isC_seq (Hall.out c (by rw [Hc.out, getD_get hlt]; exact List.getElem_mem hlt)))
        go_upto_if 21 with fail
        go_cut [7] (fun s8 wc => ∃ n : Nat, s8 = .int .i64 n ∧ Hid (n = nAt l k) ∧ Hold w ((Row 5 1 (.slice ao0 (encUp l k).length cap0) (encUp l k).length (u8s (encUp l k))).sep Asrt.emp) wc)
        case first =>
          by_cases h4 : k % 4 = 0
          · have h4z : ((k : Int) % 4 != 0) = false := by simp; omega
            have hN : Hid (nAt l k = 0) := Lib.hid (by rw [nAt, if_pos h4])
            have HH := Lib.hid H
            clear h4 H
            go_wp2
            go_meet
            exact ⟨0, rfl, Lib.hid hN.out.symm, HH.out⟩
          · have h4z : ((k : Int) % 4 != 0) = true := by simp; omega
            have hN : Hid (nAt l k = sharedN (l.getD (k - 1) default).key.data.toList c.key.data.toList) := Lib.hid (by rw [nAt, if_neg h4, Hc.out])
            have hk1 : 1 ≤ k := by omega
            clear h4
            obtain ⟨A', c', hA', _, Hcells', Hc'⟩ := h.atCl (P := Try.prog) Try.underlying22 Try.size36 (k - 1) ((k : Int) - 1) (by omega) (by omega)
            have hck' := isC_key (Hall.out c' (by rw [Hc'.out, getD_get (show k - 1 < l.length by omega)]; exact List.getElem_mem _))
            have c0' := (Hcells'.below' H.old).key
            have d0 := (Hcells.below' H.old).key
            have h01 : (0 : Int) ≤ (k : Int) - 1 := by omega
            have hwr : IntKind.i64.wrap ((k : Int) - 1) = (k : Int) - 1 := IntWalk.i64_in _ (by omega)
            have HH := Lib.hid H
            clear H
            go_wp2_with fail
            go_region_held3 (fun w' => w'.cell? A' = some (.string c'.key) ∧ w'.cell? A = some (.string c.key)) (go_keep)
              (first | (go_at_call 32; refine (common_any c'.key c.key _ (by omega)).mono ?_; rintro e w3 ⟨rfl, q, rfl⟩))
            go_wp2_with fail
            go_meet
            exact ⟨_, rfl, Lib.hid (by rw [hN.out, Hc'.out]), HH.out.keeps (below_drewN (Below.refl _ _) _)⟩
        case rest =>
          clear H
          obtain ⟨n, rfl, Hn, H2⟩ := hcut
          have hnl := nAt_le l k
          rw [← Hn.out, ← Hc.out] at hnl
          have hcl : Hid (clamp (n : Int) = n) := Lib.hid (by unfold clamp; omega)
          have h9n := enc_le9 (u := n) (by omega)
          have h9d := enc_le9 (u := c.key.size - n) (by omega)
          have hxs : (c.key.extract n c.key.size).size ≤ 4096 := by rw [ByteArray.size_extract]; omega
          have Hxs : Hid (byts (c.key.extract n c.key.size) = (byts c.key).drop n) := Lib.hid (byts_from c.key n)
          go_wp2_with fail
          refine (rnum_any (n : Int) (by omega) _).mono ?_
          rintro e w3 ⟨v3, rfl, ho3, hb3⟩
          rw [hcl.out] at ho3
          have H3 := H2.keeps hb3
          have s3 := ho3.sl
          clear ho3 hb3 H2
          go_wp2_with (first
            | (at_builtin; refine wpList_app8 H3 rfl _ _ rfl rfl rfl s3 (by omega) ?_; intro ao4 n4 cap4 w4 N4 H4; have d0 := (Hcells.below' H4.old).key; clear H3 s3)
            | (with_reducible refine wpList_conv H4 rfl _ rfl (c.key.extract n c.key.size) rfl Try.underlying9 Try.underlying24 Try.underlying5 (by omega) ?_; intro v5 w5 H5; obtain ⟨ao5, cap5, rfl⟩ := H5.own.shape; clear H4 d0))
          refine (rrow_any _ (byts (c.key.extract n c.key.size)) _ H5.own.sl (by rw [byts_length]; omega)).mono ?_
          rintro e w6 ⟨v6, rfl, ho6, hb6⟩
          rw [Hxs.out] at ho6
          have H6 := H5.drop1.keeps hb6
          have s6 := ho6.sl
          have hr6 : (row (List.drop n (byts c.key))).length ≤ c.key.size + 9 := by
            rw [row, List.length_append, List.length_drop, byts_length]; omega
          clear ho6 hb6 H5
          go_wp2_with (first
            | (at_builtin; refine wpList_app8 H6 rfl _ _ rfl rfl rfl s6 (by simp only [List.length_append]; omega) ?_; intro ao7 n7 cap7 w7 N7 H7; have d3 := (Hcells.below' H7.old).seq; clear H6 s6))
          refine (rnum_any c.seq (by have := Hsq.out; omega) _).mono ?_
          rintro e w8 ⟨v8, rfl, ho8, hb8⟩
          have H8 := H7.keeps hb8
          have s8 := ho8.sl
          have h9s := enc_le9 (clamp_le c.seq)
          clear ho8 hb8 H7 d3
          cases hdel : c.del with
          | true =>
            have Hdel := Lib.hid hdel
            clear hdel
            go_wp2_with (first
              | (at_builtin; refine wpList_app8 H8 rfl _ _ rfl rfl rfl s8 (by simp only [List.length_append]; omega) ?_; intro ao9 n9 cap9 w9 N9 H9; have d2 := (Hcells.below' H9.old).del; rw [Hdel.out] at d2; clear H8 s8))
            refine (rnum_any 1 (by omega) _).mono ?_
            rintro e w10 ⟨v10, rfl, ho10, hb10⟩
            rw [show clamp 1 = 1 from by decide] at ho10
            have H10 := H9.keeps hb10
            have s10 := ho10.sl
            have h91 := enc_le9 (u := 1) (by omega)
            clear ho10 hb10 H9 d2
            go_wp2_with (first
              | (at_builtin; refine wpList_app8 H10 rfl _ _ rfl rfl rfl s10 (by simp only [List.length_append]; omega) ?_; intro ao11 n11 cap11 w11 N11 H11; clear H10 s10))
            have HF : Hid (Hold w ((Row 5 1 (.slice ao11 n11 cap11) (encUp l (k + 1)).length (u8s (encUp l (k + 1)))).sep Asrt.emp) w11) := Lib.hid (by
              have e : encUp l (k + 1) = encUp l k ++ enc n ++ row (List.drop n (byts c.key)) ++ enc (clamp c.seq) ++ enc 1 := by
                rw [encUp, ← Hc.out, ← Hn.out, encC, Hdel.out]
                simp [List.append_assoc, byts]
              rw [e]
              exact H11)
            clear H11
            go_roundw
            case rel => exact ⟨k + 1, by omega, by go_num, HF.out⟩
            case measure => simp [intOf]; omega
          | false =>
            have Hdel := Lib.hid hdel
            clear hdel
            have hv9 := enc_le9 (u := c.val.size) (by omega)
            go_wp2_with (first
              | (at_builtin; refine wpList_app8 H8 rfl _ _ rfl rfl rfl s8 (by simp only [List.length_append]; omega) ?_; intro ao9 n9 cap9 w9 N9 H9; have d2 := (Hcells.below' H9.old).del; rw [Hdel.out] at d2; clear H8 s8))
            refine (rnum_any 0 (by omega) _).mono ?_
            rintro e w10 ⟨v10, rfl, ho10, hb10⟩
            rw [show clamp 0 = 0 from by decide] at ho10
            have H10 := H9.keeps hb10
            have s10 := ho10.sl
            have h91 := enc_le9 (u := 0) (by omega)
            clear ho10 hb10 H9 d2
            go_wp2_with (first
              | (at_builtin; refine wpList_app8 H10 rfl _ _ rfl rfl rfl s10 (by simp only [List.length_append]; omega) ?_; intro ao11 n11 cap11 w11 N11 H11; have d1 := (Hcells.below' H11.old).val; clear H10 s10)
              | (with_reducible refine wpList_conv H11 rfl _ rfl c.val rfl Try.underlying9 Try.underlying24 Try.underlying5 (by omega) ?_; intro v12 w12 H12; obtain ⟨ao12, cap12, rfl⟩ := H12.own.shape; clear H11 d1))
            refine (rrow_any _ (byts c.val) _ H12.own.sl (by rw [byts_length]; omega)).mono ?_
            rintro e w13 ⟨v13, rfl, ho13, hb13⟩
            have H13 := H12.drop1.keeps hb13
            have s13 := ho13.sl
            have hr13 : (row (byts c.val)).length ≤ c.val.size + 9 := by
              rw [row, List.length_append, byts_length]; omega
            clear ho13 hb13 H12
            go_wp2_with (first
              | (at_builtin; refine wpList_app8 H13 rfl _ _ rfl rfl rfl s13 (by simp only [List.length_append]; omega) ?_; intro ao14 n14 cap14 w14 N14 H14; clear H13 s13))
            have HF : Hid (Hold w ((Row 5 1 (.slice ao14 n14 cap14) (encUp l (k + 1)).length (u8s (encUp l (k + 1)))).sep Asrt.emp) w14) := Lib.hid (by
              have e : encUp l (k + 1) = encUp l k ++ enc n ++ row (List.drop n (byts c.key)) ++ enc (clamp c.seq) ++ enc 0 ++ row (byts c.val) := by
                rw [encUp, ← Hc.out, ← Hn.out, encC, Hdel.out]
                simp [List.append_assoc, byts]
              rw [e]
              exact H14)
            clear H14
            go_roundw
            case rel => exact ⟨k + 1, by omega, by go_num, HF.out⟩
            case measure => simp [intOf]; omega
      · obtain rfl : k = l.length := by omega
        have hR : Hid (encR l = encUp l l.length) := Lib.hid (by rw [encR, if_pos Hr.out, encL])
        have HO := Lib.hid H.fin
        clear H hlt hk
        go_wp2
        go_ret2
        exact ⟨_, by rw [Hr.out]; rfl, by rw [hR.out]; exact HO.out.1, HO.out.2⟩
  · have hz : ((riseN l : Int) != 0) = true := by simp [hr]
    have hR : Hid (encR l = []) := Lib.hid (by rw [encR, if_neg hr])
    clear hr
    go_wp2
    go_ret2
    exact ⟨_, rfl, by rw [hR.out]; exact Own.nil _ _ _ _, hb1⟩
end Go.Proofs.Ytgmnpgohkabfcaa.Bl
