/-
  Texts that the proofs of this seat stand on, one behind the other: contracts of functions and plain lemmas. Conditions: those that each theorem states.
-/
import Derived.Test.YtkbfjgmgckbogaaGreatF21
import Derived.Test.YtkbfjgmgckbogaaGreatF20
import Derived.Test.YtkbfjgmgckbogaaGreatLedTakes
import Derived.Test.YtkbfjgmgckbogaaGreatF19
import Derived.Test.YtkbfjgmgckbogaaGreatF23
/-
  The reference's ledger (chapter 5): entries.
-/



namespace Go.Proofs.YtkbfjgmgckbogaaGreat.Ld
open Go.RowKit L Oct Dsk Fr Kp
section
variable {W0 w : World} {R : Asrt} {lb b n : Nat} {g : Lg}
theorem xent_put {dv ev v' vB : Value} {vs : List Value} {B : List UInt8} {n : Nat}
    (H : Hold W0 ((Row 22 1 v' n (vs ++ [vB])).sep ((Blk lb #[ptr b, .string g.pre, .int .i64 g.base, dv, ev, .bool g.dead] 74).sep ((Row 5 1 vB B.length (u8s B)).sep ((Inner vs g.ents).sep ((Row 5 1 dv g.data.length (u8s g.data)).sep R))))) w) (hn : n = g.ents.length + 1) :
    w.cell? ⟨lb, 4, none⟩ = some ev ∧ w.frozen? ⟨lb, 4, none⟩ = false ∧ Hold W0 ((XLedA lb b { g with ents := g.ents ++ [B] }).sep R) (w.setCell ⟨lb, 4, none⟩ v') := by
  subst hn
  refine ⟨blk_cell H.up2.blk 4, blk_free H.up2.blk 4, ?_⟩
  have h1 := H.up2.setB 4 v'
  have h2 : Hold W0 ((Row 5 1 vB B.length (u8s B)).sep ((Inner vs g.ents).sep ((Blk lb #[ptr b, .string g.pre, .int .i64 g.base, dv, v', .bool g.dead] 74).sep ((Row 5 1 dv g.data.length (u8s g.data)).sep ((Row 22 1 v' (g.ents.length + 1) (vs ++ [vB])).sep R))))) _ := h1.perm (by ac_rfl)
  have h3 := inner_join h2
  have e : g.ents.length + 1 = (g.ents ++ [B]).length := by simp
  rw [e] at h3
  exact xled_shut (g := { g with ents := g.ents ++ [B] }) (h3.perm (by ac_rfl))
def lastI (k : Nat) (l : Nat) : Int := if k = 0 then -1 else l
def XERel (W0 : World) (R : Asrt) (lb b : Nat) (rs : List (List UInt8)) (tot : Bool × Lg) (vs : List Value) (vr : Value) (s i : Value) (wr : World) : Prop :=
  ∃ (k l : Nat) (g' : Lg), k ≤ rs.length ∧ i = .int .i64 k ∧ s = .int .i64 l ∧ l ≤ 4611686018427387904 ∧ Hid (takesAll (lastI k l) g' (rs.drop k) = tot) ∧ GOk g' ∧ g'.ents.length ≤ k ∧
    Hold W0 ((XLedA lb b g').sep ((Row 22 1 vr rs.length vs).sep ((Inner vs rs).sep R))) wr
def RetEnts (W0 : World) (R : Asrt) (lb b : Nat) (tot : Bool × Lg) (gd : Nat) (e : Ending) (w' : World) : Prop :=
  e = .returned (.tuple #[.int .i64 (if tot.1 then 0 else 3), .int .i64 (if tot.1 then gd else 0 : Nat)]) ∧ Hold W0 ((XLedA lb b tot.2).sep R) w'
set_option maxRecDepth 100000 in
set_option maxHeartbeats 3200000 in
theorem xents_any (H : Hold W0 ((XLedA lb b g).sep R) w) (hg : GOk g) (he0 : g.ents = []) (v : Value) (x : List UInt8) (hv : Sl w 1 v x.length (u8s x)) (hx : x.length ≤ 1000000) :
    Calls Tryz.prog 34 #[ptr lb, v] w (RetEnts W0 R lb b (takesAll (-1) g (scan x).1) (scan x).2) := by
  obtain ⟨rs, hrs⟩ : ∃ rs, rs = (scan x).1 := ⟨_, rfl⟩
  obtain ⟨gd, hgd⟩ : ∃ gd, gd = (scan x).2 := ⟨_, rfl⟩
  obtain ⟨sl1, sl2, sl3⟩ := scan_len x.length x (Nat.le_refl _)
  rw [← hrs] at sl1 sl2
  rw [← hgd] at sl3
  rw [← hrs, ← hgd]
  obtain ⟨tot, htot⟩ : ∃ tot, tot = takesAll (-1) g rs := ⟨_, rfl⟩
  rw [← htot]
  have HRs := Lib.hid hrs
  have HGd := Lib.hid hgd
  have HTo := Lib.hid htot
  have HH := Lib.hid H
  have HG := Lib.hid hg
  have HE := Lib.hid he0
  have HV := Lib.hid hv
  have SL2 := Lib.hid sl2
  clear H hg he0 hv hrs hgd htot sl2
  unfold ptr
  go_enter Tryz.func34, Tryz.ntmps34
  go_wp2_with fail
  refine (rscan_own v x _ HV.out (by omega)).mono ?_
  rintro e w8 ⟨vr, rfl, vs, h8⟩
  have h9 := lift_hold2 HH.out h8
  rw [← HRs.out] at h9
  rw [← HGd.out]
  have hrl : rs.length ≤ 100000 := by omega
  have hlenr := h9.sl.run_len Tryz.underlying44
  have HR : Hid (XERel W0 R lb b rs tot vs vr (.int .i64 0) (.int .i64 0) w8) := Lib.hid ⟨0, 0, g, Nat.zero_le _, rfl, rfl, by omega, Lib.hid (by rw [HTo.out, List.drop_zero]; rfl), HG.out, by rw [HE.out]; simp, h9.perm (by ac_rfl)⟩
  clear h8 h9 sl1 HH HV HTo HRs HGd
  go_wp2_with fail
  go_loopw [8, 9] (fun s i wr => XERel W0 R lb b rs tot vs vr s i wr) (fun _ i _ => rs.length - (intOf i).toNat)
  case atStart => exact HR.out
  case round =>
    clear HR
    obtain ⟨k, l, g', hk, rfl, rfl, hl, heq, hg', hge, hH⟩ := hrel
    have HG' := Lib.hid hg'
    have HW := Lib.hid hH
    clear hg' hH
    by_cases hlt : k < rs.length
    · obtain ⟨A, u, p, hA, _, hc, Hu, hsp⟩ := ((HW.out.drop1).rowsAt rfl).at (P := Tryz.prog) Tryz.underlying44 Tryz.size22 k hlt
      have hpl : p.length ≤ 1048576 := by rw [Hu.out]; exact SL2.out _ (by simp [List.getD, hlt])
      have hll := recL_len p
      have hdrop : Hid (takesAll (lastI k l) g' (rs.drop k) = if (takes (lastI k l) g' p).1 then takesAll (takes (lastI k l) g' p).2.1 (takes (lastI k l) g' p).2.2 (rs.drop (k + 1)) else (false, (takes (lastI k l) g' p).2.2)) := Lib.hid (by
        rw [List.drop_eq_getElem_cons hlt, takesAll, show rs[k] = p from by rw [Hu.out]; simp [List.getD, hlt]])
      have hok := Lib.hid (takes_ok (last := lastI k l) (p := p) HG'.out (by unfold lastI; split <;> omega) (by omega) hge (by omega))
      obtain ⟨y, hy⟩ : ∃ y, y = takes (lastI k l) g' p := ⟨_, rfl⟩
      rw [← hy] at hdrop hok
      obtain ⟨ao, cap, hu⟩ : ∃ ao cap, u = .slice ao p.length cap := by
        obtain ⟨_, ao, cap, e, _⟩ := hsp
        exact ⟨ao, cap, e⟩
      subst hu
      have H6 := Lib.hid (Oct.addXdOld (Hold.start wr) hsp (b := wr.heap.size) rfl)
      clear Hu hsp
      go_wp2_with fail
      refine (xnum_any H6.out (by omega)).mono ?_
      rintro e w7 ⟨rfl, h7⟩
      have H7 := Lib.hid h7
      clear h7 H6 hA hc
      go_wp2_with fail
      refine (xbytes_any H7.out (by omega)).mono ?_
      rintro e w8' ⟨vB, rfl, h8⟩
      have hB : recB p = got [] (decRow (left (dec 0 0 p))) := rfl
      have hRN : recN p = got 0 (dec 0 0 p) := rfl
      rw [← hB] at h8
      rw [← hRN]
      obtain ⟨ao8, cap8, rfl⟩ := h8.own.shape
      have H8 := Lib.hid h8
      have hrw : Hid ((!((false || (dec 0 0 p).isNone) || (decRow (left (dec 0 0 p))).isNone) && (left (decRow (left (dec 0 0 p)))).isEmpty) = recW p) := Lib.hid (by simp [recW])
      clear h8 H7 hB hRN hll
      go_wp2_with fail
      refine (xwhole_any H8.out.up2).mono ?_
      rintro e w9 ⟨rfl, rfl⟩
      rw [hrw.out]
      obtain ⟨B, hB2⟩ : ∃ B, B = recB p := ⟨_, rfl⟩
      have h10 : Hold W0 ((Row 5 1 (.slice ao8 B.length cap8) B.length (u8s B)).sep ((XLedA lb b g').sep ((Row 22 1 vr rs.length vs).sep ((Inner vs rs).sep R)))) w8' := by
        rw [hB2]; exact (lift_hold2 HW.out H8.out).up2.drop1
      obtain ⟨N, hN⟩ : ∃ N, N = recN p := ⟨_, rfl⟩
      have hN2 : N ≤ 4611686018427387904 := by rw [hN]; exact recN_le p
      have HY : Hid (y = if recW p = true ∧ 1 ≤ N ∧ N ≤ 1099511627776 ∧ (0 ≤ lastI k l → (N : Int) = lastI k l + 1) then (if N ≤ g'.base then (true, (N : Int), g') else if N = g'.last + 1 then (true, (N : Int), { g' with ents := g'.ents ++ [B] }) else (false, (N : Int), g')) else (false, lastI k l, g')) := Lib.hid (by
        rw [hy, takes, ← hN, ← hB2])
      have HFail : Hid (y.1 = false → y.2.2 = g' → tot = (false, g')) := Lib.hid fun e1 e2 => by
        have h1 := heq.out.symm.trans hdrop.out
        rw [e1, e2] at h1
        exact h1
      have HNext : Hid (y.1 = true → takesAll y.2.1 y.2.2 (rs.drop (k + 1)) = tot) := Lib.hid fun e1 => by
        have h1 := heq.out.symm.trans hdrop.out
        rw [e1, if_pos rfl] at h1
        exact h1.symm
      rw [← hN, ← hB2]
      have H10 := Lib.hid h10
      have HG1 : Hid (Hold W0 ((XLedA lb b g').sep R) w8') := Lib.hid h10.drop1.up2.drop1.up2.drop1
      clear h10 H8 hB2 hN hy hdrop heq hrw HW
      cases hW : recW p with
      | false =>
        have ht := HFail.out (by rw [HY.out, if_neg (fun h => by rw [hW] at h; cases h.1)]) (by rw [HY.out, if_neg (fun h => by rw [hW] at h; cases h.1)])
        have HT := Lib.hid ht
        clear ht
        go_wp2
        go_ret2
        rw [HT.out]
        exact ⟨rfl, HG1.out⟩
      | true =>
        have HWp := Lib.hid hW
        clear hW
        have hbad : (¬ (1 ≤ N ∧ N ≤ 1099511627776 ∧ (0 ≤ lastI k l → (N : Int) = lastI k l + 1))) → tot = (false, g') := fun hb => HFail.out (by rw [HY.out, if_neg (fun h => hb h.2)]) (by rw [HY.out, if_neg (fun h => hb h.2)])
        have HBad := Lib.hid hbad
        have hgood : 1 ≤ N ∧ N ≤ 1099511627776 ∧ (0 ≤ lastI k l → (N : Int) = lastI k l + 1) → y = if N ≤ g'.base then (true, (N : Int), g') else if N = g'.last + 1 then (true, (N : Int), { g' with ents := g'.ents ++ [B] }) else (false, (N : Int), g') := fun h => by rw [HY.out, if_pos ⟨HWp.out, h⟩]
        have HGood := Lib.hid hgood
        clear hbad hgood
        have hcase : (0 < k ∧ N ≠ l + 1) ∨ ((k = 0 ∨ (0 < k ∧ N = l + 1)) ∧ N < 1) ∨ ((k = 0 ∨ (0 < k ∧ N = l + 1)) ∧ 1 ≤ N ∧ 1099511627776 < N) ∨ ((k = 0 ∨ (0 < k ∧ N = l + 1)) ∧ 1 ≤ N ∧ N ≤ 1099511627776) := by omega
        rcases hcase with ⟨h1, h2⟩ | ⟨h1, h2⟩ | ⟨h1, h2, h3⟩ | ⟨h1, h2, h3⟩
        · have HT := Lib.hid (HBad.out (fun h => by
            have h4 := h.2.2
            unfold lastI at h4
            rw [if_neg (by omega)] at h4
            have := h4 (by omega)
            omega))
          have g3 : decide (0 < k) = true := by simpa using h1
          have g4 : ((N : Int) != (l : Int) + 1) = true := by simp; omega
          clear h1 h2
          go_wp2
          go_ret2
          rw [HT.out]
          exact ⟨rfl, HG1.out⟩
        · have HT := Lib.hid (HBad.out (fun h => by omega))
          rcases h1 with rfl | ⟨h1, h4⟩
          · go_wp2
            go_ret2
            rw [HT.out]
            exact ⟨rfl, HG1.out⟩
          · omega
        · have HT := Lib.hid (HBad.out (fun h => by omega))
          rcases h1 with rfl | ⟨h1, h4⟩
          · go_wp2
            go_ret2
            rw [HT.out]
            exact ⟨rfl, HG1.out⟩
          · have g4 : ((N : Int) != (l : Int) + 1) = false := by simp; omega
            clear h4
            go_wp2
            go_ret2
            rw [HT.out]
            exact ⟨rfl, HG1.out⟩
        · have hy := HGood.out ⟨h2, h3, fun h => by
            unfold lastI at h ⊢
            split at h
            · omega
            · rw [if_neg (by assumption)]
              rcases h1 with h1 | ⟨_, h1⟩
              · omega
              · omega⟩
          have Hy := Lib.hid hy
          obtain ⟨dv, ev, vs', h11⟩ := xled_open H10.out.up2
          have c2 : w8'.cell? ⟨lb, 2, none⟩ = some (.int .i64 g'.base) := blk_cell h11.blk 2
          clear hy h11 HGood HBad HY
          have hcase2 : (k = 0) ∨ (0 < k ∧ ((N : Int) != (l : Int) + 1) = false) := by
            rcases h1 with h1 | ⟨h1, h4⟩
            · exact .inl h1
            · exact .inr ⟨h1, by simp; omega⟩
          clear h1
          rcases hcase2 with rfl | ⟨h1, g4⟩
          all_goals
            by_cases hb : N ≤ g'.base
            · have he : y = (true, (N : Int), g') := Hy.out.trans (if_pos hb)
              have hnx := HNext.out (by rw [he])
              rw [he] at hnx
              have HNx := Lib.hid hnx
              have H11 := Lib.hid H10.out.drop1
              have g5 : decide (N ≤ g'.base) = true := by simpa using hb
              clear hb he hnx
              go_wp2
              go_roundw
              case rel => exact ⟨_ + 1, N, g', by omega, by go_num, rfl, hN2, HNx.out |> Lib.hid, HG'.out, by omega, H11.out⟩
              case measure => simp [intOf]; omega
            · have hy2 := Hy.out.trans (if_neg hb)
              have Hy2 := Lib.hid hy2
              have g5 : decide (N ≤ g'.base) = false := by simpa using hb
              have hbb := HG'.out.base
              have hln := HG'.out.len
              clear hy2 hb Hy
              go_wp2_with fail
              refine (xlast_any H10.out.up2 HG'.out).mono ?_
              rintro e w12 ⟨rfl, n12, hw12⟩
              have H12 : Hid (Hold W0 ((Row 5 1 (.slice ao8 B.length cap8) B.length (u8s B)).sep ((XLedA lb b g').sep ((Row 22 1 vr rs.length vs).sep ((Inner vs rs).sep R)))) w12) := Lib.hid (by rw [hw12]; exact H10.out.keeps (below_drewN (Below.refl _ _) _))
              have hlst : g'.last ≤ 1099512676352 := by unfold Lg.last; omega
              clear hw12 c2 H10
              by_cases hq : N = g'.last + 1
              · have he := Hy2.out.trans (if_pos hq)
                have hnx := HNext.out (by rw [he])
                rw [he] at hnx hok
                have HNx := Lib.hid hnx
                have g6 : ((N : Int) != (g'.last : Int) + 1) = false := by simp; omega
                obtain ⟨dv, ev, vs', h13⟩ := xled_open H12.out.up2
                have c4 : w12.cell? ⟨lb, 4, none⟩ = some ev := blk_cell h13.blk 4
                have H13 : Hold W0 ((Row 22 1 ev g'.ents.length vs').sep ((Blk lb #[ptr b, .string g'.pre, .int .i64 g'.base, dv, ev, .bool g'.dead] 74).sep ((Row 5 1 (.slice ao8 B.length cap8) B.length (u8s B)).sep ((Inner vs' g'.ents).sep ((Row 5 1 dv g'.data.length (u8s g'.data)).sep ((Row 22 1 vr rs.length vs).sep ((Inner vs rs).sep R))))))) w12 := h13.perm (by ac_rfl)
                clear h13 hq hnx he H12 hbb
                go_wp2_with (at_builtin; refine wpList_appLit (sx := .tmp 71) elR H13 [.slice ao8 B.length cap8] rfl _ rfl rfl rfl rfl (by simp [Value.oneCell']) (by simp; omega) (by simp; omega) ?_; intro v16 xs16 w16 X16 h16; rw [X16.out] at h16; obtain ⟨ao16, cap16, rfl⟩ := h16.own.shape; obtain ⟨c16, f16, h17⟩ := xent_put h16 (by simp); have H17 := Lib.hid h17; clear h16 h17 H13)
                go_roundw
                case rel => exact ⟨_ + 1, N, _, by omega, by go_num, rfl, hN2, HNx.out |> Lib.hid, hok.out.1, hok.out.2.2.1, H17.out.perm (by ac_rfl)⟩
                case measure => simp [intOf]; omega
              · have he := Hy2.out.trans (if_neg hq)
                have HT := Lib.hid (HFail.out (by rw [he]) (by rw [he]))
                have g6 : ((N : Int) != (g'.last : Int) + 1) = true := by simp; omega
                have HF : Hid (Hold W0 ((XLedA lb b g').sep R) w12) := Lib.hid H12.out.drop1.up2.drop1.up2.drop1
                clear hq hbb hln he
                go_wp2
                go_ret2
                rw [HT.out]
                exact ⟨rfl, HF.out⟩
    · have ht : tot = (true, g') := heq.out.symm.trans (by rw [List.drop_eq_nil_of_le (by omega)]; rfl)
      have HT := Lib.hid ht
      have HF : Hid (Hold W0 ((XLedA lb b g').sep R) wr) := Lib.hid HW.out.up2.drop1.up2.drop1
      clear ht heq
      go_wp2
      go_ret2
      rw [HT.out]
      exact ⟨rfl, HF.out⟩
end
end Go.Proofs.YtkbfjgmgckbogaaGreat.Ld

/-
  What the reference's Open of chapter 5 does with its disk, plain: what the program does, on disks that are alike.
-/



namespace Go.Proofs.YtkbfjgmgckbogaaGreat.Ld
open Go.RowKit L Oct Dsk Fr Kp
section
variable {d : D} {r : RD}
def rclears (r : RD) (pre : ByteArray) : RD × Nat := if isAt r.fs (sh (imgN pre)) then r.remove (sh (imgN pre)) else (r, 0)
theorem like_clears (h : Like d r) (pre : ByteArray) : (clears d pre).2 = (rclears r pre).2 ∧ Like (clears d pre).1 (rclears r pre).1 := by
  obtain ⟨a1, a2⟩ := like_remove h (sh (imgN pre))
  unfold clears removes rclears
  rw [h.get]
  cases ha : isAt r.fs (sh (imgN pre)) with
  | false => exact ⟨rfl, h⟩
  | true =>
    rw [if_pos rfl]
    show (if (d.remove [sh (imgN pre)]).2 = 0 then removes (d.remove [sh (imgN pre)]).1 [] else d.remove [sh (imgN pre)]).2 = _ ∧ Like (if (d.remove [sh (imgN pre)]).2 = 0 then removes (d.remove [sh (imgN pre)]).1 [] else d.remove [sh (imgN pre)]).1 _
    rw [if_pos rfl]
    by_cases h0 : (d.remove [sh (imgN pre)]).2 = 0
    · rw [if_pos h0]
      exact ⟨h0.symm.trans a1, a2⟩
    · rw [if_neg h0]
      exact ⟨a1, a2⟩
def rcut (r : RD) (pre : ByteArray) (good len : Nat) : RD × Nat :=
  if good < len then if (r.truncate (logN pre) good).2 = 0 then (r.truncate (logN pre) good).1.sync (logN pre) else r.truncate (logN pre) good else (r, 0)
def rlogCut (r : RD) (pre : ByteArray) (good len : Nat) (none_ : Bool) : RD × Nat :=
  if (rcut r pre good len).2 = 0 then if none_ then (rcut r pre good len).1.remove (logN pre) else rcut r pre good len else rcut r pre good len
def dcut (d : D) (pre : ByteArray) (good len : Nat) : D × Nat :=
  if good < len then if (d.truncate (logN pre) good).2 = 0 then (d.truncate (logN pre) good).1.sync [logN pre] else d.truncate (logN pre) good else (d, 0)
theorem like_cut (h : Like d r) (pre : ByteArray) (good len : Nat) : (dcut d pre good len).2 = (rcut r pre good len).2 ∧ Like (dcut d pre good len).1 (rcut r pre good len).1 := by
  obtain ⟨a1, a2⟩ := like_truncate h (logN pre) (good : Int)
  obtain ⟨b1, b2⟩ := like_sync a2 (logN pre)
  unfold dcut rcut
  by_cases h0 : good < len
  · rw [if_pos h0, if_pos h0, a1]
    by_cases h1 : (r.truncate (logN pre) (good : Int)).2 = 0
    · rw [if_pos h1, if_pos h1]; exact ⟨b1, b2⟩
    · rw [if_neg h1, if_neg h1]; exact ⟨a1, a2⟩
  · rw [if_neg h0, if_neg h0]; exact ⟨rfl, h⟩
theorem logCut_eq (d : D) (pre : ByteArray) (good len : Nat) (b : Bool) : logCut d pre good len b = if (dcut d pre good len).2 = 0 then logEnd (dcut d pre good len).1 pre b else dcut d pre good len := by
  unfold logCut dcut
  by_cases h0 : good < len
  · rw [if_pos h0, if_pos h0]
    by_cases h1 : (d.truncate (logN pre) (good : Int)).2 = 0
    · rw [if_pos h1, if_pos h1]
    · rw [if_neg h1, if_neg h1, if_neg h1]
  · rw [if_neg h0, if_neg h0, if_pos rfl]
theorem cut_zero (r : RD × Nat) (h : r.2 = 0) : r = (r.1, 0) := by rw [← h]
theorem like_logCut (h : Like d r) (pre : ByteArray) (good len : Nat) (b : Bool) : (logCut d pre good len b).2 = (rlogCut r pre good len b).2 ∧ Like (logCut d pre good len b).1 (rlogCut r pre good len b).1 := by
  obtain ⟨a1, a2⟩ := like_cut h pre good len
  obtain ⟨b1, b2⟩ := like_remove a2 (logN pre)
  rw [logCut_eq]
  unfold rlogCut logEnd
  rw [a1]
  by_cases h0 : (rcut r pre good len).2 = 0
  · rw [if_pos h0, if_pos h0]
    cases b with
    | true => exact ⟨b1, b2⟩
    | false => exact ⟨h0.symm, a2⟩
  · rw [if_neg h0, if_neg h0]; exact ⟨a1, a2⟩
def rlog (r : RD) (g : Lg) : RD × Lg × Nat :=
  match r.read (logN g.pre) with
  | none => (r, g, 0)
  | some x =>
    if (takesAll (-1) g (scan x).1).1 then
      ((rlogCut r g.pre (scan x).2 x.length (takesAll (-1) g (scan x).1).2.ents.isEmpty).1, (takesAll (-1) g (scan x).1).2, (rlogCut r g.pre (scan x).2 x.length (takesAll (-1) g (scan x).1).2.ents.isEmpty).2)
    else (r, (takesAll (-1) g (scan x).1).2, 3)
theorem like_log (h : Like d r) (g : Lg) : (log d g).2 = (rlog r g).2 ∧ Like (log d g).1 (rlog r g).1 := by
  unfold log rlog
  rw [h.get, RD.read]
  cases ha : isAt r.fs (logN g.pre) with
  | false => exact ⟨rfl, h⟩
  | true =>
    rw [if_pos rfl, if_pos rfl]
    obtain ⟨x, hx⟩ : ∃ x, x = (r.fs.getD (spotN r.fs (logN g.pre)) default).data := ⟨_, rfl⟩
    show (if (takesAll (-1) g (scan (r.fs.getD (spotN r.fs (logN g.pre)) default).data).1).1 = true then _ else _ : D × Lg × Nat).2 = (if (takesAll (-1) g (scan (r.fs.getD (spotN r.fs (logN g.pre)) default).data).1).1 = true then _ else _ : RD × Lg × Nat).2 ∧ Like (if (takesAll (-1) g (scan (r.fs.getD (spotN r.fs (logN g.pre)) default).data).1).1 = true then _ else _ : D × Lg × Nat).1 (if (takesAll (-1) g (scan (r.fs.getD (spotN r.fs (logN g.pre)) default).data).1).1 = true then _ else _ : RD × Lg × Nat).1
    rw [← hx]
    obtain ⟨a1, a2⟩ := like_logCut h g.pre (scan x).2 x.length (takesAll (-1) g (scan x).1).2.ents.isEmpty
    by_cases h0 : (takesAll (-1) g (scan x).1).1 = true
    · rw [if_pos h0, if_pos h0]
      exact ⟨by rw [a1], a2⟩
    · rw [if_neg h0, if_neg h0]
      exact ⟨rfl, h⟩
def ropen (r : RD) (pre : ByteArray) : RD × Lg × Nat :=
  if (rclears r pre).2 = 0 then
    if (rimage (rclears r pre).1 (new pre)).2 = 0 then rlog (rclears r pre).1 (rimage (rclears r pre).1 (new pre)).1
    else ((rclears r pre).1, (rimage (rclears r pre).1 (new pre)).1, (rimage (rclears r pre).1 (new pre)).2)
  else ((rclears r pre).1, new pre, (rclears r pre).2)
theorem like_open (h : Like d r) (pre : ByteArray) : (openL d pre).2 = (ropen r pre).2 ∧ Like (openL d pre).1 (ropen r pre).1 := by
  obtain ⟨a1, a2⟩ := like_clears h pre
  unfold openL ropen
  rw [a1, rimage_eq a2]
  by_cases h0 : (rclears r pre).2 = 0
  · rw [if_pos h0, if_pos h0]
    by_cases h1 : (rimage (rclears r pre).1 (new pre)).2 = 0
    · rw [if_pos h1, if_pos h1]
      exact like_log a2 _
    · rw [if_neg h1, if_neg h1]
      exact ⟨rfl, a2⟩
  · rw [if_neg h0, if_neg h0]
    exact ⟨rfl, a2⟩
end
end Go.Proofs.YtkbfjgmgckbogaaGreat.Ld
