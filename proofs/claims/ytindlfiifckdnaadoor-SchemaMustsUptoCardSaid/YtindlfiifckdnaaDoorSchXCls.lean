/-
  classes of chapter 14's reference.
-/
import Derived.Test.YtindlfiifckdnaaDoorSchXCnt
import Derived.Test.YtindlfiifckdnaaDoorSchCls
namespace Go.Proofs.YtindlfiifckdnaaDoor.Sc
open Go.RowKit L
theorem fold_mu (t : ByteArray) : ∀ s ∈ muB (classB t), foldB s = s ∧ s.size ≤ 100 := by
  intro s hs
  unfold classB at hs
  repeat' split at hs
  all_goals simp [muB] at hs
  all_goals first
    | (subst hs; exact ⟨by kernel_rfl, by decide⟩)
    | (rcases hs with rfl | rfl <;> exact ⟨by kernel_rfl, by decide⟩)
def MuRel (w : World) (R : Asrt) (v : Value) (e : Ent) (l : List ByteArray) (i : Value) (wr : World) : Prop := ∃ j : Nat, j ≤ l.length ∧ i = .int .i64 j ∧ Hid (∀ q, q < j → (valsB e (l.getD q ByteArray.empty)).isEmpty = false) ∧ Hold w R wr ∧ Sl wr 1 v l.length (strs l)
def XCRel (w : World) (v : Value) (b : Nat) (dv av : Value) (e : Ent) (vs : List ByteArray) (vA i : Value) (wr : World) : Prop := ∃ (k : Nat) (all : List ByteArray), k ≤ vs.length ∧ i = .int .i64 k ∧ all.length ≤ 1 + 200 * k ∧ Hid (clsL e [s_objectclass] vs = clsL e all (vs.drop k)) ∧
  Hold w ((Row 9 1 vA all.length (strs all)).sep ((Blk b #[dv, av] 25).sep ((Row 9 1 v vs.length (strs vs)).sep Asrt.emp))) wr
def AlRel (w : World) (R : Asrt) (e : Ent) (all : List ByteArray) (i : Value) (wr : World) : Prop := ∃ k : Nat, k ≤ e.ats.length ∧ i = .int .i64 k ∧ Hid (∀ q, q < k → (!hasB all (foldB (e.ats.getD q default).typ)) = false) ∧ Hold w R wr
set_option maxRecDepth 100000 in
set_option maxHeartbeats 3200000 in
theorem xclasses_any (w : World) (dv av : Value) (e : Ent) (h : EntAt w dv av e) (hk : EntOk e 1048576) : Calls Tryd.prog 18 #[.agg #[dv, av]] w (RetBl w (classedB e)) := by
  have HE := Lib.hid h
  have HK := Lib.hid hk
  have hatl := hk.atl
  have hlenA := h.len
  have HP := Lib.hid (((Hold.start w).addBlk (cs := #[dv, av]) (t := 25) (b := w.heap.size) rfl).addLits (strs [s_objectclass]) 9 (by decide) (b := w.heap.size + 1) (by simp))
  clear h hk
  go_enter Tryd.func18, Tryd.ntmps18
  go_wp2_with fail
  refine (xvals_own _ dv av e s_objectclass (HE.out.below HP.out.old) HK.out (by decide)).mono ?_
  rw [fold_oc]
  rintro e2 w2 ⟨v, rfl, ho, hb2⟩
  have hp2 := HP.out.addRow hb2 ho
  have HP2 : Hid (Hold w ((Row 9 1 (.slice (some ⟨w.heap.size + 1, 0, none⟩) 1 1) 1 (strs [s_objectclass])).sep ((Blk w.heap.size #[dv, av] 25).sep ((Row 9 1 v (valsB e s_objectclass).length (strs (valsB e s_objectclass))).sep Asrt.emp))) w2) := Lib.hid (hp2.perm (by ac_rfl))
  have hlen := HP2.out.up3.sl.run_len Tryd.underlying28
  have hvl := valsT_len HK.out s_objectclass e.ats.length
  rw [valsT_all] at hvl
  have HVs := Lib.hid (valsB_size HK.out s_objectclass)
  have HCl : Hid (classedB e = match clsL e [s_objectclass] (valsB e s_objectclass) with | none => false | some all => allowB e all) := Lib.hid rfl
  obtain ⟨vs, hvs'⟩ : ∃ vs, vs = valsB e s_objectclass := ⟨_, rfl⟩
  rw [← hvs'] at HP2 hlen hvl HVs HCl
  clear hb2 HP hvs' ho hp2
  obtain ⟨b, hb⟩ : ∃ b, b = w.heap.size := ⟨_, rfl⟩
  rw [← hb] at HP2 ⊢
  have HR : Hid (XCRel w v b dv av e vs (.slice (some ⟨b + 1, 0, none⟩) 1 1) (.int .i64 0) w2) := Lib.hid ⟨0, [s_objectclass], Nat.zero_le _, rfl, by simp, Lib.hid (by simp), HP2.out⟩
  clear HP2 hb
  go_wp2_with fail
  go_loopw [3, 5] (fun vA i wr => XCRel w v b dv av e vs vA i wr) (fun _ i _ => vs.length - (intOf i).toNat)
  case atStart => exact HR.out
  case round =>
    clear HR
    obtain ⟨k, all, hk, rfl, hal, heq, hH⟩ := hrel
    have HW := Lib.hid hH
    clear hH
    by_cases hlt : k < vs.length
    · obtain ⟨A, u, hA, _, hc, Hu⟩ := HW.out.up3.sl.at1 (P := Tryd.prog) Tryd.underlying28 Tryd.size9 k hlt
      rw [Hu.out, strs_get vs k hlt] at hc
      obtain ⟨x, hx⟩ : ∃ x, x = vs.getD k ByteArray.empty := ⟨_, rfl⟩
      have hxs := HVs.out x (by rw [hx]; simp [List.getD, hlt])
      have hst : Hid (clsL e [s_objectclass] vs = if (muB (classB (foldB x))).any (fun s => (valsB e s).isEmpty) then none else clsL e (all ++ muB (classB (foldB x)) ++ maB (classB (foldB x))) (vs.drop (k + 1))) := Lib.hid (by
        rw [heq.out, List.drop_eq_getElem_cons hlt, show vs[k] = x from by rw [hx]; simp [List.getD, hlt]]; rfl)
      rw [← hx] at hc
      have hln := cls_len (foldB x)
      have HMu := Lib.hid (fold_mu (foldB x))
      have HC := Lib.hid (xclass_any x wr (by omega))
      obtain ⟨o, ho⟩ : ∃ o, o = classB (foldB x) := ⟨_, rfl⟩
      rw [← ho] at hst hln HC HMu
      have hl1 := hln.1
      have hl2 := hln.2
      clear Hu hx heq ho hln
      go_wp2_with fail
      refine HC.out.mono ?_
      rintro e3 w3 ⟨v1, v2, rfl, hv1, hv2, hb3, hf2⟩
      have HW3 : Hid (Hold w ((Row 9 1 u3 all.length (strs all)).sep ((Blk b #[dv, av] 25).sep ((Row 9 1 v vs.length (strs vs)).sep ((Ro 1 v2 (maB o).length (strs (maB o))).sep Asrt.emp)))) w3) := Lib.hid ((HW.out.add hb3 (A := Ro 1 v2 (maB o).length (strs (maB o))) (F := fun g => v2.ownBlock = some g ∧ 0 < (maB o).length * 1) ⟨hv2, fun g => Iff.rfl⟩ (fun g hg => hf2 g hg.1)).perm (by ac_rfl))
      obtain ⟨ao2, c2, hs2⟩ : ∃ ao c, v2 = .slice ao (maB o).length c := by
        obtain ⟨_, ao, cap, e, _⟩ := hv2
        exact ⟨ao, cap, e⟩
      obtain ⟨ao1, c1, hs1⟩ : ∃ ao c, v1 = .slice ao (muB o).length c := by
        obtain ⟨_, ao, cap, e, _⟩ := hv1
        exact ⟨ao, cap, e⟩
      clear hv2
      subst hs1 hs2
      obtain ⟨ms, hms⟩ : ∃ ms, ms = muB o := ⟨_, rfl⟩
      obtain ⟨mx, hmx⟩ : ∃ mx, mx = maB o := ⟨_, rfl⟩
      rw [← hms, ← hmx] at hst
      rw [← hms] at hv1 hl1 HMu ⊢
      rw [← hmx] at hl2 HW3 ⊢
      clear hms hmx hf2 hb3 HC hA hc HW
      have hlm := hv1.run_len (P := Tryd.prog) Tryd.underlying28
      have HRm : Hid (MuRel w ((Row 9 1 u3 all.length (strs all)).sep ((Blk b #[dv, av] 25).sep ((Row 9 1 v vs.length (strs vs)).sep ((Ro 1 (.slice ao2 mx.length c2) mx.length (strs mx)).sep Asrt.emp)))) (.slice ao1 ms.length c1) e ms (.int .i64 0) w3) := Lib.hid ⟨0, Nat.zero_le _, rfl, Lib.hid (fun q hq => by omega), HW3.out, hv1⟩
      clear HW3 hv1
      go_wp2_with fail
      go_loopw [9] (fun i wr => MuRel w ((Row 9 1 u3 all.length (strs all)).sep ((Blk b #[dv, av] 25).sep ((Row 9 1 v vs.length (strs vs)).sep ((Ro 1 (.slice ao2 mx.length c2) mx.length (strs mx)).sep Asrt.emp)))) (.slice ao1 ms.length c1) e ms i wr) (fun i _ => ms.length - (intOf i).toNat)
      case atStart => exact HRm.out
      case round =>
        clear HRm
        obtain ⟨j, hj, rfl, hall, hH, hv1⟩ := hrel
        have HW := Lib.hid hH
        have HV := Lib.hid hv1
        clear hH
        by_cases hjl : j < ms.length
        · obtain ⟨A, u, hA, _, hc, Hu⟩ := hv1.at1 (P := Tryd.prog) Tryd.underlying28 Tryd.size9 j hjl
          rw [Hu.out, strs_get ms j hjl] at hc
          obtain ⟨m, hm⟩ : ∃ m, m = ms.getD j ByteArray.empty := ⟨_, rfl⟩
          have hmm : m ∈ ms := by rw [hm]; simp [List.getD, hjl]
          obtain ⟨hfm, hsm⟩ := HMu.out m hmm
          have HX := Lib.hid (xvals_own wr.drew dv av e m (HE.out.below (HW.out.drew.old)) HK.out (by omega))
          rw [hfm] at HX
          rw [← hm] at hc
          have HM := Lib.hid hm
          have kb0 := blk_cell HW.out.up2.blk 0
          have kb1 := blk_cell HW.out.up2.blk 1
          cases hm2 : (valsB e m).isEmpty with
          | true =>
            have Hr : Hid (classedB e = false) := Lib.hid (by
              rw [HCl.out, hst.out, if_pos (List.any_eq_true.2 ⟨m, hmm, hm2⟩)])
            have hl0 : Hid (valsB e m = []) := Lib.hid (List.isEmpty_iff.1 hm2)
            rw [hl0.out] at HX
            clear hm hm2 hmm hfm Hu hv1 hall hst HCl
            go_wp2_with fail
            go_region_held3 (fun w' => w'.cell? ⟨b, 0, none⟩ = some dv ∧ w'.cell? ⟨b, 1, none⟩ = some av ∧ w'.cell? A = some (.string m)) (first | exact hS5 | go_keep)
              ((go_at_call 7; refine HX.out.mono ?_; rintro e w5 ⟨v5, rfl, ho5, hb5⟩; have HW5 := Lib.hid (HW.out.drew.keeps hb5); have hlen5 := ho5.sl.run_len (P := Tryd.prog) Tryd.underlying28; have hS5 : w5.cell? ⟨b, 0, none⟩ = some dv ∧ w5.cell? ⟨b, 1, none⟩ = some av ∧ w5.cell? A = some (.string m) := ⟨blk_cell HW5.out.up2.blk 0, blk_cell HW5.out.up2.blk 1, (hb5.cell (World.block_lt_of_cell? _ _ hc)).trans hc⟩; clear ho5 hb5))
            all_goals
              go_wp2
              go_ret
              rw [Hr.out]
              exact ⟨rfl, HW5.out.old⟩
          | false =>
            have Hn : Hid (∀ q, q < j + 1 → (valsB e (ms.getD q ByteArray.empty)).isEmpty = false) := Lib.hid fun q hq => by
              by_cases e2 : q = j
              · subst e2; rw [← HM.out]; exact hm2
              · exact hall.out q (by omega)
            obtain ⟨n, hn⟩ : ∃ n, n = (valsB e m).length := ⟨_, rfl⟩
            have q0 : ((n : Int) == 0) = false := by
              rw [beq_eq_false_iff_ne, hn]
              intro h
              have : valsB e m = [] := List.eq_nil_of_length_eq_zero (by omega)
              rw [this] at hm2
              cases hm2
            obtain ⟨L, hL⟩ : ∃ L, L = valsB e m := ⟨_, rfl⟩
            rw [← hL] at HX hn
            have HN := Lib.hid hn
            clear hm hm2 hmm hfm Hu hv1 hall hL hn
            go_wp2_with fail
            go_region_held3 (fun w' => w'.cell? ⟨b, 0, none⟩ = some dv ∧ w'.cell? ⟨b, 1, none⟩ = some av ∧ w'.cell? A = some (.string m)) (first | exact hS5 | go_keep)
              ((go_at_call 7; refine HX.out.mono ?_; rintro e w5 ⟨v5, rfl, ho5, hb5⟩; have HW5 := Lib.hid (HW.out.drew.keeps hb5); have HV5 := Lib.hid (HV.out.below' (w' := w5) ((Below.drew (Below.refl wr.heap.size wr)).trans hb5)); have hlen5 := ho5.sl.run_len (P := Tryd.prog) Tryd.underlying28; rw [← HN.out] at hlen5; have hS5 : w5.cell? ⟨b, 0, none⟩ = some dv ∧ w5.cell? ⟨b, 1, none⟩ = some av ∧ w5.cell? A = some (.string m) := ⟨blk_cell HW5.out.up2.blk 0, blk_cell HW5.out.up2.blk 1, (hb5.cell (World.block_lt_of_cell? _ _ hc)).trans hc⟩; clear ho5 hb5))
            all_goals
              clear hS5 hlen5 hc kb0 kb1 hA
              go_wp2
              go_roundw
              case rel => exact ⟨j + 1, by omega, by go_num, Hn, HW5.out, HV5.out⟩
              case measure => simp [intOf]; omega
        · obtain rfl : j = ms.length := by omega
          have Hn : Hid (clsL e [s_objectclass] vs = clsL e (all ++ ms ++ mx) (vs.drop (k + 1))) := Lib.hid (by
            rw [hst.out, if_neg]
            intro h
            have := any_no (l := ms) (p := fun s => (valsB e s).isEmpty) (d := ByteArray.empty) hall.out
            rw [this] at h
            cases h)
          clear hst hall hv1
          go_wp2_with (at_builtin; first
            | (refine wpList_app (sx := .tmp 43) elS HW.out rfl _ rfl rfl rfl HV.out (strs_one _) (by omega) (by omega) ?_; intro v8 xs8 w8 X8 H8; have HA8 : Hid (Hold w ((Row 9 1 v8 (all ++ ms).length (strs (all ++ ms))).sep ((Blk b #[dv, av] 25).sep ((Row 9 1 v vs.length (strs vs)).sep ((Ro 1 (.slice ao2 mx.length c2) mx.length (strs mx)).sep Asrt.emp)))) w8) := Lib.hid (by rw [List.length_append, strs_append, ← X8.out]; exact H8); have HV8 := Lib.hid HA8.out.up4.ro; clear H8 X8)
            | (refine wpList_app (sx := .tmp 45) elS HA8.out rfl _ rfl rfl rfl HV8.out (strs_one _) (by simp; omega) (by simp; omega) ?_; intro v9 xs9 w9 X9 H9; have HA9 : Hid (Hold w ((Row 9 1 v9 (all ++ ms ++ mx).length (strs (all ++ ms ++ mx))).sep ((Blk b #[dv, av] 25).sep ((Row 9 1 v vs.length (strs vs)).sep Asrt.emp))) w9) := Lib.hid (by rw [@List.length_append _ (all ++ ms) mx, strs_append (all ++ ms), ← X9.out]; exact H9.up4.drop1); clear H9 X9))
          go_roundw
          case rel => exact ⟨k + 1, all ++ ms ++ mx, by omega, by go_num, by simp; omega, Hn, HA9.out⟩
          case measure => simp [intOf]; omega
    · obtain rfl : k = vs.length := by omega
      have Hr : Hid (classedB e = allowB e all) := Lib.hid (by
        rw [HCl.out, heq.out]; simp [clsL])
      have HRa : Hid (AlRel w ((Row 9 1 u3 all.length (strs all)).sep ((Blk b #[dv, av] 25).sep ((Row 9 1 v vs.length (strs vs)).sep Asrt.emp))) e all (.int .i64 0) wr) := Lib.hid ⟨0, Nat.zero_le _, rfl, Lib.hid (fun q hq => by omega), HW.out⟩
      clear heq HW HCl
      go_wp2_with fail
      go_loopw [10] (fun i wr => AlRel w ((Row 9 1 u3 all.length (strs all)).sep ((Blk b #[dv, av] 25).sep ((Row 9 1 v vs.length (strs vs)).sep Asrt.emp))) e all i wr) (fun i _ => e.ats.length - (intOf i).toNat)
      case atStart => exact HRa.out
      case round =>
        clear HRa
        obtain ⟨j, hj, rfl, hall, hH⟩ := hrel
        have HW := Lib.hid hH
        have kb1 := blk_cell hH.up2.blk 1
        by_cases hjl : j < e.ats.length
        · obtain ⟨A, u, hA, hc0, hc1, hsl⟩ := (HE.out.below hH.old).at j hjl
          have hts := HK.out.typ _ (getA_mem hjl)
          obtain ⟨a, ha⟩ : ∃ a, a = e.ats.getD j default := ⟨_, rfl⟩
          rw [← ha] at hc0 hts
          have HA := Lib.hid ha
          clear ha hH hsl hc1
          go_wp2_with fail
          refine (xfold_any a.typ _ (by omega)).mono ?_
          rintro e3 w3 ⟨rfl, hb3⟩
          have HW3 := Lib.hid (HW.out.keeps hb3)
          clear hb3 kb1 hA hc0 HW
          have HH := Lib.hid (xhas_any u3 all (foldB a.typ) w3 HW3.out.sl (by omega))
          obtain ⟨z, hz⟩ : ∃ z, z = hasB all (foldB a.typ) := ⟨_, rfl⟩
          rw [← hz] at HH
          have HZ := Lib.hid hz
          clear hz
          go_wp2_with fail
          refine HH.out.mono ?_
          rintro e4 w4 ⟨rfl, rfl⟩
          clear HH
          cases z with
          | false =>
            have Hq : Hid (classedB e = false) := Lib.hid (by
              rw [Hr.out]
              unfold allowB
              rw [any_yes (d := default) hjl (by rw [← HA.out, ← HZ.out]; rfl)]; rfl)
            clear Hr hall HZ
            go_wp2
            go_ret
            rw [Hq.out]
            exact ⟨rfl, HW3.out.old⟩
          | true =>
            have Hn : Hid (∀ q, q < j + 1 → (!hasB all (foldB (e.ats.getD q default).typ)) = false) := Lib.hid fun q hq => by
              by_cases e2 : q = j
              · subst e2; rw [← HA.out, ← HZ.out]; rfl
              · exact hall.out q (by omega)
            clear hall HZ
            go_wp2
            go_roundw
            case rel => exact ⟨j + 1, by omega, by go_num, Hn, HW3.out⟩
            case measure => simp [intOf]; omega
        · obtain rfl : j = e.ats.length := by omega
          have Hq : Hid (classedB e = true) := Lib.hid (by
            rw [Hr.out]
            unfold allowB
            rw [any_no (d := default) hall.out]; rfl)
          clear hH Hr hall
          go_wp2
          go_ret
          rw [Hq.out]
          exact ⟨rfl, HW.out.old⟩
end Go.Proofs.YtindlfiifckdnaaDoor.Sc
