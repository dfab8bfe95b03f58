/-
  named of chapter 14's reference.
-/
import Derived.Test.YtindlfiifckdnaaDoorSchXCls
namespace Go.Proofs.YtindlfiifckdnaaDoor.Sc
open Go.RowKit L
def NxRel (w W : World) (b : Nat) (dv av v : Value) (l : List ByteArray) (p : ByteArray → Bool) (i : Value) (wr : World) : Prop := ∃ k : Nat, k ≤ l.length ∧ i = .int .i64 k ∧ Hid (∀ j, j < k → p (l.getD j ByteArray.empty) = false) ∧ Hold w ((Blk b #[dv, av] 25).sep Asrt.emp) wr ∧ Below W.heap.size W wr ∧ Sl wr 1 v l.length (strs l)
set_option maxRecDepth 100000 in
set_option maxHeartbeats 3200000 in
theorem xnamed_any (w : World) (dv av : Value) (e : Ent) (h : EntAt w dv av e) (hk : EntOk e 1048576) : Calls Tryd.prog 19 #[.agg #[dv, av]] w (RetBl w (namedB e)) := by
  have HE := Lib.hid h
  have HK := Lib.hid hk
  have hlen := h.dlen
  have HF : Hid (∀ t W, t.size ≤ 140737488351232 → Calls Tryd.prog 20 #[.string t] W (RetS W (foldB t))) := Lib.hid xfold_any
  have HB0 := Lib.hid ((Hold.start w).addBlk (cs := #[dv, av]) (t := 25) (b := w.heap.size) rfl)
  cases hd : e.dn with
  | nil =>
    have Hr : Hid (namedB e = true) := Lib.hid (by unfold namedB; rw [hd])
    rw [hd] at hlen
    clear hd h hk
    go_enter Tryd.func19, Tryd.ntmps19
    go_wp2
    go_ret
    rw [Hr.out]
    exact ⟨rfl, HB0.out.old⟩
  | cons a r =>
    have Hr : Hid (namedB e = namedA e a) := Lib.hid (by unfold namedB; rw [hd])
    have hn : 0 < e.dn.length := by rw [hd]; simp
    have ha : e.dn.getD 0 default = a := by rw [hd]; rfl
    obtain ⟨n, hn2⟩ : ∃ n, n = e.dn.length := ⟨_, rfl⟩
    have hat := (h.below HB0.out.old).dat 0 hn
    rw [ha] at hat
    obtain ⟨A, hA', hc0, hc1⟩ := hat
    have hA : ∀ w' : World, (Instr.indexAt 22 dv (.int .i64 0)).run Tryd.prog w' = .ok (.pointer (some A)) w' := hA'
    clear hA'
    have hsz := hk.dns a (by rw [hd]; simp)
    have hs1 := hsz.1
    have hs2 := hsz.2
    rw [← hn2] at hlen hn
    have q0 : ((n : Int) == 0) = false := by rw [beq_eq_false_iff_ne]; omega
    have kb0 := blk_cell HB0.out.blk 0
    have kb1 := blk_cell HB0.out.blk 1
    have HC0 := Lib.hid hc0
    have HC1 := Lib.hid hc1
    clear hd h hk ha hn2 hsz
    go_enter Tryd.func19, Tryd.ntmps19
    go_wp2_with fail
    obtain ⟨W, hW⟩ : ∃ W, W = w.alloc (.cells #[dv, av] 25) := ⟨_, rfl⟩
    rw [← hW] at HB0 HC0 HC1 ⊢
    obtain ⟨b, hb⟩ : ∃ b, b = w.heap.size := ⟨_, rfl⟩
    rw [← hb] at HB0 ⊢
    have HS : Hid (∀ w', Hold w ((Blk b #[dv, av] 25).sep Asrt.emp) w' → Below W.heap.size W w' → w'.cell? ⟨b, 0, none⟩ = some dv ∧ w'.cell? ⟨b, 1, none⟩ = some av ∧ w'.cell? A = some (.string a.1) ∧ w'.cell? ⟨A.block, A.off + 1, none⟩ = some (.string a.2)) := Lib.hid fun w' h1 h2 =>
      ⟨blk_cell h1.blk 0, blk_cell h1.blk 1, (h2.cell (World.block_lt_of_cell? _ _ HC0.out)).trans HC0.out, (h2.cell (p := ⟨A.block, A.off + 1, none⟩) (World.block_lt_of_cell? _ _ HC1.out)).trans HC1.out⟩
    clear hW hb
    refine (xtype_any a.1 _ (by omega)).mono ?_
    rintro e2 w2 ⟨rfl, hb2⟩
    have HB2 := Lib.hid (HB0.out.keeps hb2)
    have HL2 := Lib.hid (Below.drew hb2)
    have hS2 := HS.out w2 HB2.out hb2
    obtain ⟨j0, j1, j2, j3⟩ := hS2
    clear hb2 hc0 hc1 kb0 kb1
    obtain ⟨c, m, sg, ok, htv, hok⟩ : ∃ (c : ByteArray) (m : Int) (sg ok : Bool), typeV (foldB a.1) (typeB (foldB a.1)) = .tuple #[.string c, .int .i64 m, .bool sg, .bool ok] ∧ ok = (typeB (foldB a.1)).isSome := by
      unfold typeV
      cases typeB (foldB a.1) with
      | none => exact ⟨_, _, _, _, rfl, rfl⟩
      | some p => exact ⟨_, _, _, _, rfl, rfl⟩
    rw [htv]
    have HX := Lib.hid (xvals_own w2.drew dv av e a.1 (HE.out.below (HB2.out.drew.old)) HK.out (by omega))
    have hvl := valsT_len HK.out (foldB a.1) e.ats.length
    rw [valsT_all] at hvl
    have HVs := Lib.hid (valsB_size HK.out (foldB a.1))
    obtain ⟨l, hl⟩ : ∃ l, l = valsB e (foldB a.1) := ⟨_, rfl⟩
    rw [← hl] at HX hvl HVs
    have Hr2 : Hid (namedB e = (ok && l.any fun v => decide (foldB v = foldB a.2))) := Lib.hid (by
      rw [Hr.out, hok]; unfold namedA
      rw [hl]
      cases typeB (foldB a.1) with
      | none => rfl
      | some p => rfl)
    clear htv hok hl Hr
    go_wp2_with fail
    go_region_held3 (fun w' => w'.cell? ⟨b, 0, none⟩ = some dv ∧ w'.cell? ⟨b, 1, none⟩ = some av ∧ w'.cell? A = some (.string a.1) ∧ w'.cell? ⟨A.block, A.off + 1, none⟩ = some (.string a.2)) (first | exact hS5 | exact HS.out _ HB2.out.drew HL2.out | go_keep)
      ((go_at_call 7; refine HX.out.mono ?_; rintro e w5 ⟨v5, rfl, ho5, hb5⟩; have HW5 := Lib.hid (HB2.out.drew.keeps hb5); have HL5 := Lib.hid (HL2.out.trans (hb5.mono HL2.out.size)); have hlen5 := ho5.sl.run_len (P := Tryd.prog) Tryd.underlying28; have HP5 : Hid (NxRel w W b dv av v5 l (fun v => decide (foldB v = foldB a.2)) (.int .i64 0) w5) := Lib.hid ⟨0, Nat.zero_le _, rfl, Lib.hid (fun j hj => by omega), HW5.out, HL5.out, ho5.sl⟩; have hS5 := HS.out _ HW5.out HL5.out; clear ho5 hb5))
    all_goals
      clear hS5 HX j0 j1 j2 j3
      go_wp2
      go_loopw [8] (fun i wr => NxRel w W b dv av v5 l (fun v => decide (foldB v = foldB a.2)) i wr) (fun i _ => l.length - (intOf i).toNat)
      case atStart => exact HP5.out
      case round =>
        clear HP5
        obtain ⟨k, hk, rfl, hall, hH, hL, hsl⟩ := hrel
        have HW := Lib.hid hH
        have HL := Lib.hid hL
        have HV := Lib.hid hsl
        clear hH hL
        by_cases hlt : k < l.length
        · cases ok with
          | false =>
            have Hq : Hid (namedB e = false) := Lib.hid (by rw [Hr2.out]; rfl)
            clear hsl hall Hr2
            go_wp2
            go_ret
            rw [Hq.out]
            exact ⟨rfl, HW.out.old⟩
          | true =>
            obtain ⟨A', u, hA', _, hc, Hu⟩ := hsl.at1 (P := Tryd.prog) Tryd.underlying28 Tryd.size9 k hlt
            rw [Hu.out, strs_get l k hlt] at hc
            obtain ⟨x, hx⟩ : ∃ x, x = l.getD k ByteArray.empty := ⟨_, rfl⟩
            have hxs := HVs.out x (by rw [hx]; simp [List.getD, hlt])
            rw [← hx] at hc
            have HX := Lib.hid hx
            have HB0' := Lib.hid (Below.drew (Below.refl wr.heap.size wr))
            have hT : ∀ w', Below wr.heap.size wr w' → w'.cell? A' = some (.string x) ∧ w'.cell? ⟨b, 0, none⟩ = some dv ∧ w'.cell? ⟨A.block, A.off + 1, none⟩ = some (.string a.2) := fun w' h1 => by
              obtain ⟨q0, q1, q2, q3⟩ := HS.out w' (HW.out.keeps h1) (HL.out.trans (h1.mono HL.out.size))
              exact ⟨(h1.cell (World.block_lt_of_cell? _ _ hc)).trans hc, q0, q3⟩
            have HT := Lib.hid hT
            by_cases he : foldB x = foldB a.2
            · have e1 := text_yes he
              have Hq : Hid (namedB e = true) := Lib.hid (by
                rw [Hr2.out]
                have := any_yes (p := fun v => decide (foldB v = foldB a.2)) (d := ByteArray.empty) hlt (by rw [← HX.out]; simpa using he)
                rw [this]; rfl)
              obtain ⟨F, hF⟩ : ∃ F, F = foldB := ⟨_, rfl⟩
              rw [← hF] at HF e1
              clear he hF hx hT hsl hall Hr2 hc Hu HV
              go_wp2_with fail
              go_region_held3 (fun w' => w'.cell? A' = some (.string x) ∧ w'.cell? ⟨b, 0, none⟩ = some dv ∧ w'.cell? ⟨A.block, A.off + 1, none⟩ = some (.string a.2)) (first | exact hS7 | exact hS6 | exact HT.out _ HB0'.out | go_keep)
                ((go_at_call 20; refine (HF.out _ _ (by omega)).mono ?_; rintro e w6 ⟨rfl, hb6⟩; (first | (have HB7 := Lib.hid (HB6.out.trans (hb6.mono HB6.out.size)); have hS7 := HT.out _ HB7.out) | (have HB6 := Lib.hid (HB0'.out.trans (hb6.mono HB0'.out.size)); have hS6 := HT.out _ HB6.out)); clear hb6))
              all_goals
                have HZ := Lib.hid (HW.out.keeps HB7.out)
                clear hS6 hS7
                go_wp2
                go_ret
                rw [Hq.out]
                exact ⟨rfl, HZ.out.old⟩
            · have e1 := text_no he
              have Hn : Hid (∀ q, q < k + 1 → (fun v => decide (foldB v = foldB a.2)) (l.getD q ByteArray.empty) = false) := Lib.hid fun q hq => by
                by_cases e2 : q = k
                · subst e2; rw [← HX.out]; simpa using he
                · exact hall.out q (by omega)
              obtain ⟨F, hF⟩ : ∃ F, F = foldB := ⟨_, rfl⟩
              rw [← hF] at HF e1
              clear he hF hx hT hsl hall Hr2 hc Hu
              go_wp2_with fail
              go_region_held3 (fun w' => w'.cell? A' = some (.string x) ∧ w'.cell? ⟨b, 0, none⟩ = some dv ∧ w'.cell? ⟨A.block, A.off + 1, none⟩ = some (.string a.2)) (first | exact hS7 | exact hS6 | exact HT.out _ HB0'.out | go_keep)
                ((go_at_call 20; refine (HF.out _ _ (by omega)).mono ?_; rintro e w6 ⟨rfl, hb6⟩; (first | (have HB7 := Lib.hid (HB6.out.trans (hb6.mono HB6.out.size)); have hS7 := HT.out _ HB7.out) | (have HB6 := Lib.hid (HB0'.out.trans (hb6.mono HB0'.out.size)); have hS6 := HT.out _ HB6.out)); clear hb6))
              all_goals
                have HZ := Lib.hid (HW.out.keeps HB7.out)
                have HZL := Lib.hid (HL.out.trans (HB7.out.mono HL.out.size))
                have HZS := Lib.hid (HV.out.below' HB7.out)
                clear hS6 hS7
                go_wp2
                go_roundw
                case rel => exact ⟨k + 1, by omega, by go_num, Hn, HZ.out, HZL.out, HZS.out⟩
                case measure => simp [intOf]; omega
        · obtain rfl : k = l.length := by omega
          have Hq : Hid (namedB e = false) := Lib.hid (by
            rw [Hr2.out, any_no (d := ByteArray.empty) hall.out]; simp)
          clear hsl hall Hr2
          go_wp2
          go_ret
          rw [Hq.out]
          exact ⟨rfl, HW.out.old⟩
end Go.Proofs.YtindlfiifckdnaaDoor.Sc
