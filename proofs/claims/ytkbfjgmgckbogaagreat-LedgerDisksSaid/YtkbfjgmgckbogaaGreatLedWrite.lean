/-
  Write and Drop of chapter 5: an image in place of all; all away.
-/
import Derived.Test.YtkbfjgmgckbogaaGreatLedAppend
import Derived.Deep.RegionHeld3
import Derived.Deep.DeepCutAuto
namespace Go.Proofs.YtkbfjgmgckbogaaGreat.Ld
open Go.RowKit L Oct Dsk Fr Kp
def putI (d : D) (g : Lg) (i : Nat) (p : List UInt8) : D × Nat :=
  if (save d (imgN g.pre) (recL i p)).2 = 0 then removes (save d (imgN g.pre) (recL i p)).1 [logN g.pre] else save d (imgN g.pre) (recL i p)
def writeL (d : D) (g : Lg) (i : Nat) (p : List UInt8) : D × Lg × Nat :=
  if g.dead then (d, g, 9)
  else if i < g.last ∨ 1099511627776 < i then (d, g, 1)
  else if 524288 < p.length then (d, g, 5)
  else if (putI d g i p).2 = 0 then ((putI d g i p).1, { g with base := i, data := p, ents := [] }, 0)
  else ((putI d g i p).1, { g with dead := true }, (putI d g i p).2)
theorem inv_save {d : D} {n : Nat} (h : DInv d n) (s : ByteArray) (x : List UInt8) : DInv (save d s x).1 (n + 1) := by
  have ht : ∀ {d : D}, DInv d n → DInv (tailS d s x).1 (n + 1) := fun {d} h => by
    have h1 := h.append (sh s) (rec_ x)
    unfold tailS
    split
    · split
      · exact (h1.sync _).rename _ _
      · exact h1.sync _
    · exact h1
  unfold save
  split
  · split
    · split
      · exact ht (h.remove _)
      · exact (h.remove _).le (by omega)
    · exact ht h
  · exact h.le (by omega)
section
variable {W0 w : World} {R : Asrt} {lb b n : Nat} {g : Lg} {d : D}
/-- an image stands in the ledger -/
theorem img_put {v' : Value} {p : List UInt8} {i : Nat} (H : Hold W0 ((Row 5 1 v' p.length (u8s p)).sep ((LedgA lb b g).sep R)) w) :
    (∃ u2 u3 u4, w.cell? ⟨lb, 2, none⟩ = some u2 ∧ w.cell? ⟨lb, 3, none⟩ = some u3 ∧ w.cell? ⟨lb, 4, none⟩ = some u4) ∧ w.frozen? ⟨lb, 2, none⟩ = false ∧ w.frozen? ⟨lb, 3, none⟩ = false ∧ w.frozen? ⟨lb, 4, none⟩ = false ∧
    Hold W0 ((LedgA lb b { g with base := i, data := p, ents := [] }).sep R) (((w.setCell ⟨lb, 2, none⟩ (.int .i64 i)).setCell ⟨lb, 3, none⟩ v').setCell ⟨lb, 4, none⟩ (.slice none 0 0)) := by
  obtain ⟨dv, ev, vs, h1⟩ := led_open H.up2
  refine ⟨⟨_, _, _, blk_cell h1.blk 2, blk_cell h1.blk 3, blk_cell h1.blk 4⟩, blk_free h1.blk 2, blk_free h1.blk 3, blk_free h1.blk 4, ?_⟩
  have h2 := ((h1.setB 2 (.int .i64 i)).setB 3 v').setB 4 (.slice none 0 0)
  have h3 : Hold W0 ((Row 5 1 dv g.data.length (u8s g.data)).sep ((Row 22 1 ev g.ents.length vs).sep ((Inner vs g.ents).sep ((Blk lb #[ptr b, .string g.pre, .int .i64 i, v', .slice none 0 0, .bool g.dead] 71).sep ((Row 5 1 v' p.length (u8s p)).sep R))))) _ := h2.perm (by ac_rfl)
  have h4 := (h3.drop1.drop1.drop1.addInnerNil).addNil 22 1
  exact led_shut (g := { g with base := i, data := p, ents := [] }) (h4.perm (by ac_rfl))
set_option maxRecDepth 1000000 in
set_option maxHeartbeats 3200000 in
theorem writeL_any (H : Hold W0 ((LedgA lb b g).sep ((DiskA b d).sep R)) w) (hg : GOk g) (hi : DInv d n) (hn : n ≤ 4000) (i : Nat) (hi2 : i ≤ 4611686018427387904) (v : Value) (p : List UInt8) (hv : Reads W0 R 1 v p.length (u8s p)) (hpl : p.length ≤ 1073741824) :
    Calls Tryz.prog 23 #[ptr lb, .int .i64 i, v] w (RetL W0 R lb b (writeL d g i p)) := by
  have hsl := (hv.at H.drop1.drop1).run_len Tryz.underlying22
  obtain ⟨aov, capv, rfl⟩ : ∃ ao cap, v = .slice ao p.length cap := by
    obtain ⟨_, ao, cap, e, _⟩ := hv.at H.drop1.drop1
    exact ⟨ao, cap, e⟩
  have HV := Lib.hid hv
  have HG := Lib.hid hg
  have HI := Lib.hid hi
  have HH := Lib.hid H
  have hgl : g.last ≤ 1099512676352 := by unfold Lg.last; have := hg.base; have := hg.len; omega
  obtain ⟨dv, ev, vs, h1⟩ := led_open H
  have k5 := blk_cell h1.blk 5
  clear H hg hi hv h1
  unfold ptr
  cases hd : g.dead with
  | true =>
    have he : Hid (writeL d g i p = (d, g, 9)) := Lib.hid (by rw [writeL, if_pos hd])
    rw [hd] at k5
    clear hd
    go_enter Tryz.func23, Tryz.ntmps23
    go_wp2
    go_ret
    rw [he.out]
    exact ⟨rfl, HH.out⟩
  | false =>
    rw [hd] at k5
    have Hde := Lib.hid hd
    clear hd
    by_cases hlow : i < g.last
    · have he : Hid (writeL d g i p = (d, g, 1)) := Lib.hid (by rw [writeL, if_neg (by rw [Hde.out]; simp), if_pos (.inl hlow)])
      have g1 : decide (i < g.last) = true := by simpa using hlow
      clear hlow
      go_enter Tryz.func23, Tryz.ntmps23
      go_wp2_with (go_at_call 25; refine (last_any HH.out HG.out).mono ?_; rintro e w5 ⟨rfl, n5, rfl⟩)
      go_ret
      rw [he.out]
      exact ⟨rfl, HH.out.keeps (below_drewN (Below.refl _ _) _)⟩
    · have g1 : decide (i < g.last) = false := by simpa using hlow
      by_cases hmost : 1099511627776 < i
      · have he : Hid (writeL d g i p = (d, g, 1)) := Lib.hid (by rw [writeL, if_neg (by rw [Hde.out]; simp), if_pos (.inr hmost)])
        have g2 : decide ((1099511627776 : Int) < (i : Int)) = true := by simp; omega
        clear hmost hlow
        go_enter Tryz.func23, Tryz.ntmps23
        go_wp2_with (go_at_call 25; refine (last_any HH.out HG.out).mono ?_; rintro e w5 ⟨rfl, n5, rfl⟩)
        go_ret
        rw [he.out]
        exact ⟨rfl, HH.out.keeps (below_drewN (Below.refl _ _) _)⟩
      · have g2 : decide ((1099511627776 : Int) < (i : Int)) = false := by simp; omega
        have hno : ¬ (i < g.last ∨ 1099511627776 < i) := fun h => h.elim hlow hmost
        by_cases hlong : 524288 < p.length
        · have he : Hid (writeL d g i p = (d, g, 5)) := Lib.hid (by rw [writeL, if_neg (by rw [Hde.out]; simp), if_neg hno, if_pos hlong])
          have g3 : decide ((524288 : Int) < (p.length : Int)) = true := by simp; omega
          clear hmost hlow hno hlong
          go_enter Tryz.func23, Tryz.ntmps23
          go_wp2_with (go_at_call 25; refine (last_any HH.out HG.out).mono ?_; rintro e w5 ⟨rfl, n5, rfl⟩)
          go_ret
          rw [he.out]
          exact ⟨rfl, HH.out.keeps (below_drewN (Below.refl _ _) _)⟩
        · have g3 : decide ((524288 : Int) < (p.length : Int)) = false := by simp; omega
          have HA : Hid (writeL d g i p = if (putI d g i p).2 = 0 then ((putI d g i p).1, { g with base := i, data := p, ents := [] }, 0) else ((putI d g i p).1, { g with dead := true }, (putI d g i p).2)) := Lib.hid (by
            rw [writeL, if_neg (by rw [Hde.out]; simp), if_neg hno, if_neg hlong])
          have HPl : Hid (p.length ≤ 524288) := Lib.hid (by omega)
          clear hmost hlow hno hlong
          go_enter Tryz.func23, Tryz.ntmps23
          go_wp2_with fail
          refine (last_any HH.out HG.out).mono ?_
          rintro e w5 ⟨rfl, n5, hw5⟩
          have h5 := HH.out.keeps (w' := w5) (by rw [hw5]; exact below_drewN (Below.refl _ _) _)
          have h6 := addWr h5 (b := w5.heap.size) rfl
          have H7 := Lib.hid ((h6.addLits [.int .i64 (i : Int)] 3 (by simp [maxLen]) (b := w5.heap.size + 1) (by simp)).up2)
          clear h5 h6 HH hw5 k5
          go_wp2_with fail
          refine (nums_any H7.out _ [(i : Int)] Reads.row (by intro z hz; simp at hz; subst hz; omega) (by simp)).mono ?_
          rintro e w8 ⟨rfl, h8⟩
          have h9 := h8.up2.drop1
          have H9 := Lib.hid ((h9.addLits [.slice aov p.length capv] 22 (by simp [maxLen]) (b := w8.heap.size) rfl).up2)
          clear H7 h8 h9
          go_wp2_with fail
          refine (wbytes_any H9.out _ [.slice aov p.length capv] [p] (readsRows_one HV.out.under.under) (recL_room _ p (by have := HPl.out; omega))).mono ?_
          rintro e w10 ⟨rfl, h10⟩
          have h11 := h10.up2.drop1
          rw [List.nil_append, recL_eq] at h11
          obtain ⟨X, hX⟩ : ∃ X, X = recL i p := ⟨_, rfl⟩
          have hXl : X.length ≤ 600000 := by rw [hX]; exact Nat.le_trans (recL_length i p (by have := HPl.out; omega)) (by have := HPl.out; omega)
          rw [← hX] at h11
          have HX := Lib.hid hX
          have H11 := Lib.hid h11
          clear H9 h10 h11 hX
          have hp0 : putI d g i p = if (save d (imgN g.pre) X).2 = 0 then removes (save d (imgN g.pre) X).1 [logN g.pre] else save d (imgN g.pre) X := by rw [putI, ← HX.out]
          have HP0 := Lib.hid hp0
          obtain ⟨m1, hm1⟩ : ∃ m1, m1 = (save d (imgN g.pre) X).2 := ⟨_, rfl⟩
          obtain ⟨d1, hd1⟩ : ∃ d1, d1 = (save d (imgN g.pre) X).1 := ⟨_, rfl⟩
          have e1 : save d (imgN g.pre) X = (d1, m1) := by rw [hm1, hd1]
          have HI1 := Lib.hid (inv_save HI.out (imgN g.pre) X)
          rw [← hd1] at HI1
          rw [e1] at HP0
          have E1 := Lib.hid e1
          have HDk := Lib.hid HI.out.ok
          have HSz : Hid ((imgN g.pre).size ≤ 1000) := Lib.hid (by unfold imgN; rw [ByteArray.size_append]; have := HG.out.pre; show g.pre.size + 4 ≤ _; omega)
          have Hq := Lib.hid H11.out.drew
          have k0 := led_ptr H11.out.up2
          have m0 := World.new_ne _ _ k0
          clear hp0 hm1 hd1 e1 H11
          go_upto_region 12 with fail
          go_cut [8] (fun s8 wc => s8 = .int .i64 m1 ∧ Hold W0 ((LedgA lb b g).sep ((DiskA b d1).sep R)) wc)
          case first =>
            go_region_held3 (fun w' => w'.cell? ⟨lb, 0, none⟩ = some (.pointer (some ⟨b, 0, none⟩))) (first | exact hS6 | exact hS5 | go_keep)
              (first
                | (go_at_call 52; refine (imageName_any Hq.out.up2 HG.out).mono ?_; rintro e w4 ⟨rfl, rfl⟩)
                | (go_at_call 46; refine (out_any Hq.out (by omega)).mono ?_; rintro e w12 ⟨v12, rfl, ho12, hb12⟩; obtain ⟨ao12, cap12, rfl⟩ := ho12.shape; have H12 := Hq.out.addRow hb12 ho12; have hS5 : w12.cell? ⟨lb, 0, none⟩ = some (.pointer (some ⟨b, 0, none⟩)) := led_ptr H12.up3; have m12 := World.new_ne w12 _ hS5; have Hs12 := rowsLit [.slice ao12 X.length cap12] [X] 22 rfl (by simp) (fun j hj => by
                    have : j = 0 := by simpa using hj
                    subst this; exact ho12.sl) (b := w12.heap.size) rfl)
                | (go_at_call 51; refine (save_any (H12.up4.keeps ((Below.refl _ _).alloc (Nat.le_refl _) (.cells #[.slice ao12 X.length cap12] 22))) HDk.out (imgN g.pre) (by have := HSz.out; omega) _ [X] Hs12 (by simp) (by simp; omega)).mono ?_; rintro e w16 ⟨rfl, H5⟩; rw [show [X].flatten = X from by simp, E1.out] at H5 ⊢; have hS6 : w16.cell? ⟨lb, 0, none⟩ = some (.pointer (some ⟨b, 0, none⟩)) := led_ptr H5.up4))
            all_goals
              have HF : Hid (Hold W0 ((LedgA lb b g).sep ((DiskA b d1).sep R)) w16) := Lib.hid H5.up4.up3.drop1.up3.drop1
              clear H5 hS6
              go_wp2_with fail
              go_meet
              exact ⟨rfl, HF.out⟩
          case rest =>
            obtain ⟨rfl, h17⟩ := hcut
            have H17 := Lib.hid h17
            clear h17 Hq k0 m0
            by_cases hm1 : m1 = 0
            · subst hm1
              have hp1 := HP0.out.trans (if_pos rfl)
              obtain ⟨m2, hm2⟩ : ∃ m2, m2 = (removes d1 [logN g.pre]).2 := ⟨_, rfl⟩
              obtain ⟨d2, hd2⟩ : ∃ d2, d2 = (removes d1 [logN g.pre]).1 := ⟨_, rfl⟩
              have e2 : removes d1 [logN g.pre] = (d2, m2) := by rw [hm2, hd2]
              have HP2 : Hid (putI d g i p = (d2, m2)) := Lib.hid (hp1.trans e2)
              have E2 := Lib.hid e2
              have Hq := Lib.hid H17.out.drew
              have k0 := led_ptr H17.out
              have m0 := World.new_ne _ _ k0
              clear hp1 hm2 hd2 e2 H17
              go_upto_region 14 with fail
              go_cut [8] (fun s8 wc => s8 = .int .i64 m2 ∧ Hold W0 ((LedgA lb b g).sep ((DiskA b d2).sep R)) wc)
              case first =>
                go_region_held3 (fun w' => w'.cell? ⟨lb, 0, none⟩ = some (.pointer (some ⟨b, 0, none⟩))) (first | exact hS5 | go_keep)
                  (first
                    | (go_at_call 47; refine (logName_any Hq.out HG.out).mono ?_; rintro e w4 ⟨rfl, rfl⟩)
                    | (go_at_call 53; refine (removes_lit Hq.out.up2 rfl HI1.out (by omega) (logN g.pre)).mono ?_; rintro e w16 ⟨rfl, H5⟩; rw [E2.out] at H5 ⊢; have hS5 : w16.cell? ⟨lb, 0, none⟩ = some (.pointer (some ⟨b, 0, none⟩)) := led_ptr H5.up2))
                all_goals
                  have HF : Hid (Hold W0 ((LedgA lb b g).sep ((DiskA b d2).sep R)) w16) := Lib.hid H5.up2
                  clear H5 hS5
                  go_wp2_with fail
                  go_meet
                  exact ⟨rfl, HF.out⟩
              case rest =>
                obtain ⟨rfl, h18⟩ := hcut
                have H18 := Lib.hid h18
                clear h18 Hq k0 m0
                go_wp2_with fail
                refine (dies_any H18.out m2).mono ?_
                rintro e w20 ⟨rfl, h20⟩
                by_cases hm : m2 = 0
                · subst hm
                  have hg2 : ({ g with dead := g.dead || !decide (0 = 0) } : Lg) = g := dead_same Hde.out
                  rw [hg2] at h20
                  have hres : Hid (writeL d g i p = (d2, { g with base := i, data := p, ents := [] }, 0)) := Lib.hid (by rw [HA.out, HP2.out, if_pos rfl])
                  have H20 := Lib.hid h20
                  have hvp := HV.out.at h20.drop1.drop1
                  have hpp := HPl.out
                  clear h20 hg2 H18
                  go_wp2_with fail
                  refine (clone_any _ p _ hvp (by omega)).mono ?_
                  rintro e w22 ⟨v22, rfl, ho22, hb22⟩
                  obtain ⟨⟨u2, u3, u4, c2, c3, c4⟩, f2, f3, f4, h23⟩ := img_put (i := i) (H20.out.addRow hb22 ho22)
                  obtain ⟨ao22, cap22, rfl⟩ := ho22.shape
                  have H23 := Lib.hid h23
                  clear h23 ho22 hb22 H20 hvp
                  go_wp2
                  go_ret
                  rw [hres.out]
                  exact ⟨rfl, H23.out⟩
                · have hg2 : ({ g with dead := g.dead || !decide (m2 = 0) } : Lg) = { g with dead := true } := dead_now hm
                  rw [hg2] at h20
                  have hres : Hid (writeL d g i p = (d2, { g with dead := true }, m2)) := Lib.hid (by rw [HA.out, HP2.out, if_neg hm])
                  have q0 : ((m2 : Int) == 0) = false := by rw [beq_eq_false_iff_ne]; omega
                  have q1 : ((m2 : Int) != 0) = true := by simp; omega
                  have HF := Lib.hid h20
                  clear hm h20 hg2 H18
                  go_wp2
                  go_ret
                  rw [hres.out]
                  exact ⟨rfl, HF.out⟩
            · have HP1 := Lib.hid (HP0.out.trans (if_neg hm1))
              have r0 : ((m1 : Int) == 0) = false := by rw [beq_eq_false_iff_ne]; omega
              have r1 : ((m1 : Int) != 0) = true := by simp; omega
              clear hm1
              go_wp2_with fail
              refine (dies_any H17.out m1).mono ?_
              rintro e w20 ⟨rfl, h20⟩
              by_cases hm : m1 = 0
              · subst hm
                have hg2 : ({ g with dead := g.dead || !decide (0 = 0) } : Lg) = g := dead_same Hde.out
                rw [hg2] at h20
                have hres : Hid (writeL d g i p = (d1, { g with base := i, data := p, ents := [] }, 0)) := Lib.hid (by rw [HA.out, HP1.out, if_pos rfl])
                have H20 := Lib.hid h20
                have hvp := HV.out.at h20.drop1.drop1
                have hpp := HPl.out
                clear h20 hg2 H17
                go_wp2_with fail
                refine (clone_any _ p _ hvp (by omega)).mono ?_
                rintro e w22 ⟨v22, rfl, ho22, hb22⟩
                obtain ⟨⟨u2, u3, u4, c2, c3, c4⟩, f2, f3, f4, h23⟩ := img_put (i := i) (H20.out.addRow hb22 ho22)
                obtain ⟨ao22, cap22, rfl⟩ := ho22.shape
                have H23 := Lib.hid h23
                clear h23 ho22 hb22 H20 hvp
                go_wp2
                go_ret
                rw [hres.out]
                exact ⟨rfl, H23.out⟩
              · have hg2 : ({ g with dead := g.dead || !decide (m1 = 0) } : Lg) = { g with dead := true } := dead_now hm
                rw [hg2] at h20
                have hres : Hid (writeL d g i p = (d1, { g with dead := true }, m1)) := Lib.hid (by rw [HA.out, HP1.out, if_neg hm])
                have q0 : ((m1 : Int) == 0) = false := by rw [beq_eq_false_iff_ne]; omega
                have q1 : ((m1 : Int) != 0) = true := by simp; omega
                have HF := Lib.hid h20
                clear hm h20 hg2 H17
                go_wp2
                go_ret
                rw [hres.out]
                exact ⟨rfl, HF.out⟩
end
end Go.Proofs.YtkbfjgmgckbogaaGreat.Ld
