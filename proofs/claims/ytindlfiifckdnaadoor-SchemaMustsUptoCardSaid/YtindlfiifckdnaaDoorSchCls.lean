/-
  classed of chapter 14.
-/
import Derived.Test.YtindlfiifckdnaaDoorSchNamed
namespace Go.Proofs.YtindlfiifckdnaaDoor.Sc
open Go.RowKit L
theorem setQ {W0 w : World} {R : Asrt} {b : Nat} {cs : Array Value} {t : TypeId} (h : Hold W0 ((Blk b cs t).sep R) w) (j : Nat) (v : Value) : Hold W0 ((Blk b (cs.setIfInBounds j v) t).sep R) (w.setCell ⟨b, j, none⟩ v) := by
  obtain ⟨F, ⟨hb, hF⟩, hge, hup⟩ := h.take
  exact hup _ (Blk b (cs.setIfInBounds j v) t) F ((Keeps.refl F w).setCell (fun _ => (hF b).2 rfl) _) ⟨blk_set hb j v, hF⟩ (fun k hk => .inl hk)
theorem enters_cls1 : ∀ (args : Array Value) (w : World), (callFunc 37 args).run Tryd.prog w = .ok (Next.enter 37 args) w := enters Tryd.func37 (by kernel_rfl) (by kernel_rfl)
theorem cls_len (t : ByteArray) : (muB (classB t)).length ≤ 100 ∧ (maB (classB t)).length ≤ 100 := by
  unfold classB
  repeat' split
  all_goals simp [muB, maB]
def clsL (e : Ent) : List ByteArray → List ByteArray → Option (List ByteArray)
  | all, [] => some all
  | all, v :: r => if (muB (classB (foldB v))).any (fun s => (valsB e s).isEmpty) then none else clsL e (all ++ muB (classB (foldB v)) ++ maB (classB (foldB v))) r
def allowB (e : Ent) (all : List ByteArray) : Bool := !(e.ats.any fun a => !hasB all (foldB a.typ))
def classedB (e : Ent) : Bool := match clsL e [s_objectclass] (valsB e s_objectclass) with | none => false | some all => allowB e all
def CRel (w : World) (v : Value) (b b2 : Nat) (dv av : Value) (e : Ent) (vs : List ByteArray) (i : Value) (wr : World) : Prop := ∃ (k : Nat) (all : List ByteArray) (vA : Value), k ≤ vs.length ∧ i = .int .i64 k ∧ all.length ≤ 1 + 200 * k ∧ Hid (clsL e [s_objectclass] vs = clsL e all (vs.drop k)) ∧
  Hold w ((Row 9 1 vA all.length (strs all)).sep ((Blk b2 #[vA] 28).sep ((Blk b #[dv, av] 25).sep ((Row 9 1 v vs.length (strs vs)).sep Asrt.emp)))) wr
set_option maxRecDepth 100000 in
set_option maxHeartbeats 1600000 in
theorem classed_any (w : World) (dv av : Value) (e : Ent) (h : EntAt w dv av e) (hk : EntOk e 1048576) (hT : Tab w) : Calls Tryd.prog 27 #[.agg #[dv, av]] w (RetBl w (classedB e)) := by
  have HE := Lib.hid h
  have HK := Lib.hid hk
  have HT := Lib.hid hT
  have hatl := hk.atl
  have hmf : ∀ (fn : Fn) (first cap : Array Value) (w : World), (Instr.makeFunc fn first cap).run Tryd.prog w = .ok (.func fn first cap) w := fun _ _ _ _ => rfl
  have HP := Lib.hid ((((Hold.start w).addBlk (cs := #[dv, av]) (t := 25) (b := w.heap.size) rfl).addLits (strs [s_objectclass]) 9 (by decide) (b := w.heap.size + 1) (by simp)).addBlk (cs := #[.slice (some ⟨w.heap.size + 1, 0, none⟩) 1 1]) (t := 28) (b := w.heap.size + 1 + 1) (by simp))
  clear h hk hT
  go_enter Tryd.func27, Tryd.ntmps27
  go_wp2_with fail
  refine (values_own _ dv av e s_objectclass (HE.out.below HP.out.old) HK.out).mono ?_
  rintro e2 w2 ⟨v, rfl, ho, hb2⟩
  have hp2 := HP.out.addRow hb2 ho
  have HP2 : Hid (Hold w ((Row 9 1 (.slice (some ⟨w.heap.size + 1, 0, none⟩) 1 1) 1 (strs [s_objectclass])).sep ((Blk (w.heap.size + 1 + 1) #[.slice (some ⟨w.heap.size + 1, 0, none⟩) 1 1] 28).sep ((Blk w.heap.size #[dv, av] 25).sep ((Row 9 1 v (valsB e s_objectclass).length (strs (valsB e s_objectclass))).sep Asrt.emp)))) w2) := Lib.hid (hp2.perm (by ac_rfl))
  have hsl := HP2.out.up4.sl
  have hlen := hsl.run_len Tryd.underlying28
  have hvl := valsT_len HK.out s_objectclass e.ats.length
  rw [valsT_all] at hvl
  have hvs := valsB_size HK.out s_objectclass
  have HVs := Lib.hid hvs
  have HCl : Hid (classedB e = match clsL e [s_objectclass] (valsB e s_objectclass) with | none => false | some all => allowB e all) := Lib.hid rfl
  obtain ⟨vs, hvs'⟩ : ∃ vs, vs = valsB e s_objectclass := ⟨_, rfl⟩
  rw [← hvs'] at HP2 hlen hvl HVs HCl
  clear hsl hb2 HP hvs hvs' ho hp2
  obtain ⟨b, hb⟩ : ∃ b, b = w.heap.size := ⟨_, rfl⟩
  rw [← hb] at HP2 ⊢
  obtain ⟨b2, hb2⟩ : ∃ b2, b2 = b + 1 + 1 := ⟨_, rfl⟩
  rw [← hb2] at HP2 ⊢
  have HR : Hid (CRel w v b b2 dv av e vs (.int .i64 0) w2) := Lib.hid ⟨0, [s_objectclass], _, Nat.zero_le _, rfl, by simp, Lib.hid (by simp), HP2.out⟩
  clear HP2 hb hb2
  go_wp2_with fail
  go_loopw [13] (fun i wr => CRel w v b b2 dv av e vs i wr) (fun i _ => vs.length - (intOf i).toNat)
  case atStart => exact HR.out
  case round =>
    clear HR
    obtain ⟨k, all, vA, hk, rfl, hal, heq, hH⟩ := hrel
    have HW := Lib.hid hH
    clear hH
    by_cases hlt : k < vs.length
    · obtain ⟨A, u, hA, _, hc, Hu⟩ := HW.out.up4.sl.at1 (P := Tryd.prog) Tryd.underlying28 Tryd.size9 k hlt
      rw [Hu.out, strs_get vs k hlt] at hc
      obtain ⟨x, hx⟩ : ∃ x, x = vs.getD k ByteArray.empty := ⟨_, rfl⟩
      have hxs := HVs.out x (by rw [hx]; simp [List.getD, hlt])
      have hst : Hid (clsL e [s_objectclass] vs = if (muB (classB (foldB x))).any (fun s => (valsB e s).isEmpty) then none else clsL e (all ++ muB (classB (foldB x)) ++ maB (classB (foldB x))) (vs.drop (k + 1))) := Lib.hid (by
        rw [heq.out, List.drop_eq_getElem_cons hlt, show vs[k] = x from by rw [hx]; simp [List.getD, hlt]]; rfl)
      rw [← hx] at hc
      have hln := cls_len (foldB x)
      have HC := Lib.hid (class_any x wr (by omega) (HT.out.below HW.out.old))
      obtain ⟨o, ho⟩ : ∃ o, o = classB (foldB x) := ⟨_, rfl⟩
      rw [← ho] at hst hln HC
      have hl1 := hln.1
      have hl2 := hln.2
      clear Hu hx heq ho hln
      go_wp2_with fail
      refine HC.out.mono ?_
      rintro e3 w3 ⟨v1, v2, rfl, hv1, hv2, hb3, hf2⟩
      have HW3 : Hid (Hold w ((Row 9 1 vA all.length (strs all)).sep ((Blk b2 #[vA] 28).sep ((Blk b #[dv, av] 25).sep ((Row 9 1 v vs.length (strs vs)).sep ((Ro 1 v2 (maB o).length (strs (maB o))).sep Asrt.emp))))) w3) := Lib.hid ((HW.out.add hb3 (A := Ro 1 v2 (maB o).length (strs (maB o))) (F := fun g => v2.ownBlock = some g ∧ 0 < (maB o).length * 1) ⟨hv2, fun g => Iff.rfl⟩ (fun g hg => hf2 g hg.1)).perm (by ac_rfl))
      have HB3 : Hid (Below w.heap.size w w3) := Lib.hid (HW.out.old.trans (hb3.mono HW.out.old.size))
      obtain ⟨ao2, c2, hs2⟩ : ∃ ao c, v2 = .slice ao (maB o).length c := by
        obtain ⟨_, ao, cap, e, _⟩ := hv2
        exact ⟨ao, cap, e⟩
      obtain ⟨ao1, c1, hs1⟩ : ∃ ao c, v1 = .slice ao (muB o).length c := by
        obtain ⟨_, ao, cap, e, _⟩ := hv1
        exact ⟨ao, cap, e⟩
      clear hv2
      subst hs1 hs2
      have HV1 := Lib.hid hv1
      have hb0 : b < w3.heap.size := (Array.getElem?_eq_some_iff.1 HW3.out.up3.blk).1
      have kb0 := blk_cell HW3.out.up3.blk 0
      have kb1 := blk_cell HW3.out.up3.blk 1
      have KB : Hid (w3.cell? ⟨b, 0, none⟩ = some dv ∧ w3.cell? ⟨b, 1, none⟩ = some av) := Lib.hid ⟨kb0, kb1⟩
      have hcf := containsS_any 37 enters_cls1 #[.pointer (some ⟨b, 0, none⟩)] (fun s => (valsB e s).isEmpty) (.slice ao1 (muB o).length c1) (muB o) w3 hv1 (by omega)
        (fun s _ w' hw' => cls1_any s b dv av e w' (by rw [(bcellS hw').1 _ _ hb0]; exact KB.out.1) (by rw [(bcellS hw').1 _ _ hb0]; exact KB.out.2) ((HE.out.below HB3.out).below hw') HK.out)
      have HCf := Lib.hid hcf
      clear hv1 hf2 hb3 HC hcf kb0 kb1 hb0 hA hc
      go_wp2_with fail
      refine HCf.out.mono ?_
      rintro e4 w4 ⟨rfl, hb4⟩
      have HW4 := Lib.hid (HW3.out.keeps hb4)
      have HB4 : Hid (Below w.heap.size w w4) := Lib.hid (HB3.out.trans (hb4.mono HB3.out.size))
      have hv1 := HV1.out.below' hb4
      have HV14 := Lib.hid hv1
      clear hb4 HCf hv1 HV1
      cases hm : (muB o).any fun s => (valsB e s).isEmpty with
      | true =>
        have Hr : Hid (classedB e = false) := Lib.hid (by rw [HCl.out, hst.out, hm]; rfl)
        clear hm
        go_wp2
        go_ret
        rw [Hr.out]
        exact ⟨rfl, HB4.out⟩
      | false =>
        have Hn : Hid (clsL e [s_objectclass] vs = clsL e (all ++ muB o ++ maB o) (vs.drop (k + 1))) := Lib.hid (by rw [hst.out, hm]; rfl)
        have k20 := blk_cell HW4.out.up2.blk 0
        clear hm hst
        obtain ⟨ms, hms⟩ : ∃ ms, ms = muB o := ⟨_, rfl⟩
        obtain ⟨mx, hmx⟩ : ∃ mx, mx = maB o := ⟨_, rfl⟩
        rw [← hms, ← hmx] at Hn ⊢
        rw [← hms] at HV14 hl1
        rw [← hmx] at hl2 HW4
        clear hms hmx
        go_wp2_with (at_builtin; first
          | (refine wpList_app (sx := .tmp 26) elS HW4.out rfl _ rfl rfl rfl HV14.out (strs_one _) (by omega) (by omega) ?_; intro v8 xs8 w8 X8 H8; have HA8 : Hid (Hold w ((Row 9 1 v8 (all ++ ms).length (strs (all ++ ms))).sep ((Blk b2 #[vA] 28).sep ((Blk b #[dv, av] 25).sep ((Row 9 1 v vs.length (strs vs)).sep ((Ro 1 (.slice ao2 mx.length c2) mx.length (strs mx)).sep Asrt.emp))))) w8) := Lib.hid (by rw [List.length_append, strs_append, ← X8.out]; exact H8); have HV8 := Lib.hid HA8.out.up5.ro; clear H8 X8)
          | (refine wpList_app (sx := .tmp 28) elS HA8.out rfl _ rfl rfl rfl HV8.out (strs_one _) (by simp; omega) (by simp; omega) ?_; intro v9 xs9 w9 X9 H9; have HA9 : Hid (Hold w ((Row 9 1 v9 (all ++ ms ++ mx).length (strs (all ++ ms ++ mx))).sep ((Blk b2 #[vA] 28).sep ((Blk b #[dv, av] 25).sep ((Row 9 1 v vs.length (strs vs)).sep Asrt.emp)))) w9) := Lib.hid (by rw [@List.length_append _ (all ++ ms) mx, strs_append (all ++ ms), ← X9.out]; exact H9.up5.drop1); clear H9 X9; obtain ⟨ao9, c9, rfl⟩ := HA9.out.own.shape; have g0 := blk_cell HA9.out.up2.blk 0; have g1 := blk_free HA9.out.up2.blk 0))
        go_roundw
        case rel =>
          have hll : (all ++ ms ++ mx).length = all.length + (ms.length + mx.length) := by simp
          have hq := (setQ HA9.out.up2 0 (.slice ao9 (all ++ ms ++ mx).length c9)).up2
          rw [hll] at hq
          refine ⟨k + 1, all ++ ms ++ mx, .slice ao9 (all.length + (ms.length + mx.length)) c9, by omega, by go_num, by simp; omega, Hn, ?_⟩
          rw [hll]
          exact hq
        case measure => simp [intOf]; omega
    · obtain rfl : k = vs.length := by omega
      have Hr : Hid (classedB e = allowB e all) := Lib.hid (by
        rw [HCl.out, heq.out]; simp [clsL])
      have kb0 := blk_cell HW.out.up3.blk 0
      have kb1 := blk_cell HW.out.up3.blk 1
      have k20 := blk_cell HW.out.up2.blk 0
      have hb2 : b2 < wr.heap.size := by
        have := HW.out.up2.blk
        exact (Array.getElem?_eq_some_iff.1 this).1
      have hsl := HW.out.sl
      have hca := containsA_any 38 enters_cls2 #[.pointer (some ⟨b2, 0, none⟩)] (fun a => !hasB all (foldB a.typ)) dv av e wr (HE.out.below HW.out.old) (by omega)
        (fun a ha ao n c w' hw' => cls2_any a.typ ao n c b2 vA all w' (by have := HK.out.typ a ha; omega) (by have := hw'.size; omega) (by rw [(bcellS hw').1 _ _ hb2]; exact k20) (hsl.below' hw') (by omega))
      have HCa := Lib.hid hca
      clear hca hsl heq hb2 hal
      go_wp2_with fail
      refine HCa.out.mono ?_
      rintro e3 w3 ⟨rfl, hb3⟩
      have HB3 : Hid (Below w.heap.size w w3) := Lib.hid (HW.out.old.trans (hb3.mono HW.out.old.size))
      clear hb3 HCa
      unfold allowB at Hr
      obtain ⟨x, hx⟩ : ∃ x, x = e.ats.any fun a => !hasB all (foldB a.typ) := ⟨_, rfl⟩
      rw [← hx] at Hr ⊢
      clear hx
      go_wp2
      go_ret
      rw [Hr.out]
      exact ⟨rfl, HB3.out⟩
end Go.Proofs.YtindlfiifckdnaaDoor.Sc
