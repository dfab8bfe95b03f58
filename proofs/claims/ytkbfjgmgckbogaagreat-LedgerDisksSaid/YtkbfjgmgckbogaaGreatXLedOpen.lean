/-
  The reference's ledger (chapter 5): Open.
-/
import Derived.Test.YtkbfjgmgckbogaaGreatF22
import Derived.Test.YtkbfjgmgckbogaaGreatF24
import Derived.Test.YtkbfjgmgckbogaaGreatF18
import Derived.Deep.DeepCutAuto
namespace Go.Proofs.YtkbfjgmgckbogaaGreat.Ld
open Go.RowKit L Oct Dsk Fr Kp
def sTilX : ByteArray := ⟨#[45, 105, 109, 103, 126]⟩
theorem sh_tilX (a : ByteArray) : a ++ sTilX = sh (imgN a) := by
  unfold sh imgN
  rw [ByteArray.append_assoc]; rfl
/-- what the reference's contracts ask of a disk -/
structure RGood (r : RD) : Prop where
  ok : r.Ok
  used : Dsk.used r.fs ≤ 1000000
  fit : ∀ f ∈ r.fs, f.lasts ≤ f.data.length
theorem rgood_of {d : D} {r : RD} {n : Nat} (hl : Like d r) (hi : DInv d n) (hn : n ≤ 4096) (hr : d.room ≤ 1000000) : RGood r :=
  ⟨hl.ok hi hn, by rw [← hl.used]; exact Nat.le_trans hi.ok.used hr, fun f hf => (hl.fitr hi f hf).1⟩
section
variable {W0 w : World} {R : Asrt} {b n : Nat} {d : D} {r : RD} {pre : ByteArray}
theorem good_clears (hl : Like d r) (hi : DInv d n) (hn : n ≤ 4096) (hr : d.room ≤ 1000000) (pre : ByteArray) : RGood (rclears r pre).1 :=
  rgood_of (like_clears hl pre).2 (removes_inv [sh (imgN pre)] hi) hn (by show (removes d [sh (imgN pre)]).1.room ≤ _; rw [removes_room]; exact hr)
theorem good_trunc (hl : Like d r) (hi : DInv d n) (hn : n ≤ 4096) (hr : d.room ≤ 1000000) (pre : ByteArray) (gd : Nat) : RGood ((rclears r pre).1.truncate (logN pre) (gd : Int)).1 := by
  have h1 := (like_clears hl pre).2
  have i1 : DInv (clears d pre).1 n := removes_inv [sh (imgN pre)] hi
  refine rgood_of (like_truncate h1 (logN pre) (gd : Int)).2 (i1.truncate _ _) hn ?_
  rw [(trunc_fused _ _ _).2]
  show (removes d [sh (imgN pre)]).1.room ≤ _
  rw [removes_room]; exact hr
theorem good_cut (hl : Like d r) (hi : DInv d n) (hn : n ≤ 4096) (hr : d.room ≤ 1000000) (pre : ByteArray) (gd len : Nat) : RGood (rcut (rclears r pre).1 pre gd len).1 := by
  have h1 := (like_clears hl pre).2
  have i1 : DInv (clears d pre).1 n := removes_inv [sh (imgN pre)] hi
  have hr1 : (clears d pre).1.room ≤ 1000000 := by
    show (removes d [sh (imgN pre)]).1.room ≤ _
    rw [removes_room]; exact hr
  refine rgood_of (like_cut h1 pre gd len).2 (n := n) ?_ hn ?_
  · unfold dcut
    split
    · split
      · exact (i1.truncate _ _).sync _
      · exact i1.truncate _ _
    · exact i1
  · unfold dcut
    split
    · split
      · rw [(sync_fused _ _).2, (trunc_fused _ _ _).2]; exact hr1
      · rw [(trunc_fused _ _ _).2]; exact hr1
    · exact hr1
def RetXOpen (W0 : World) (R : Asrt) (b : Nat) (y : RD × Lg × Nat) (e : Ending) (w' : World) : Prop :=
  (y.2.2 = 0 ∧ ∃ lb, e = .returned (.tuple #[ptr lb, .int .i64 0]) ∧ Hold W0 ((XLedA lb b y.2.1).sep ((RefA b y.1).sep R)) w') ∨
  (y.2.2 ≠ 0 ∧ e = .returned (.tuple #[.pointer none, .int .i64 y.2.2]) ∧ Hold W0 ((RefA b y.1).sep R) w')
set_option maxRecDepth 100000 in
set_option maxHeartbeats 3200000 in
theorem xopen_any (H : Hold W0 ((RefA b r).sep R) w) (hl : Like d r) (hi : DInv d n) (hn : n ≤ 4096) (hr : d.room ≤ 1000000) (hp1 : 1 ≤ pre.size) (hp2 : pre.size ≤ 20) :
    Calls Tryz.prog 19 #[ptr b, .string pre] w (RetXOpen W0 R b (ropen r pre)) := by
  have g1 : decide ((pre.size : Int) < 1) = false := by simp; omega
  have g2 : decide ((20 : Int) < (pre.size : Int)) = false := by simp; omega
  have HG0 := Lib.hid (rgood_of hl hi hn hr)
  have HG1 := Lib.hid (good_clears hl hi hn hr pre)
  have HGt := Lib.hid (good_trunc hl hi hn hr pre)
  have HGc := Lib.hid (good_cut hl hi hn hr pre)
  have HGn := Lib.hid (new_ok hp2)
  have HIq : Hid (image (clears d pre).1 (new pre) = rimage (rclears r pre).1 (new pre)) := Lib.hid (rimage_eq (like_clears hl pre).2 (new pre))
  have hrun1 := fun w' : World => run_string_add_sum (P := Tryz.prog) (w := w') pre sTilX (by show pre.size + 5 ≤ _; omega)
  have hrun2 := fun w' : World => run_string_add_sum (P := Tryz.prog) (w := w') pre sLog (by show pre.size + 4 ≤ _; omega)
  obtain ⟨S1, hS1⟩ : ∃ S1, S1 = sh (imgN pre) := ⟨_, rfl⟩
  obtain ⟨S2, hS2⟩ : ∃ S2, S2 = logN pre := ⟨_, rfl⟩
  have q1 : pre ++ (⟨#[45, 105, 109, 103, 126]⟩ : ByteArray) = S1 := (sh_tilX pre).trans hS1.symm
  have q2 : pre ++ (⟨#[45, 108, 111, 103]⟩ : ByteArray) = S2 := hS2.symm
  unfold sTilX at hrun1
  unfold sLog at hrun2
  simp only [q1] at hrun1
  simp only [q2] at hrun2
  have HS1 := Lib.hid hS1
  have HS2 := Lib.hid hS2
  obtain ⟨lb, hlb⟩ : ∃ lb, lb = w.heap.size := ⟨_, rfl⟩
  have h1 : Hold W0 ((XLedA lb b (new pre)).sep ((RefA b r).sep R)) (w.alloc (.cells #[ptr b, .string pre, .int .i64 0, .slice none 0 0, .slice none 0 0, .bool false] 74)) := by
    rw [hlb]
    have h := (((H.addBlk (cs := #[ptr b, .string pre, .int .i64 0, .slice none 0 0, .slice none 0 0, .bool false]) (t := 74) (b := w.heap.size) rfl).addInnerNil).addNil 22 1).addNil 5 1
    exact xled_shut (g := new pre) (h.perm (by ac_rfl))
  have H1 := Lib.hid h1
  have Hlb := Lib.hid hlb
  obtain ⟨r1, hr1⟩ : ∃ r1, r1 = (rclears r pre).1 := ⟨_, rfl⟩
  obtain ⟨m1, hm1⟩ : ∃ m1, m1 = (rclears r pre).2 := ⟨_, rfl⟩
  have HC : Hid (rclears r pre = if isAt r.fs S1 then r.remove S1 else (r, 0)) := Lib.hid (by rw [hS1]; rfl)
  have Hr1 := Lib.hid hr1
  have Hm1 := Lib.hid hm1
  have HO : Hid (ropen r pre = if m1 = 0 then (if (rimage r1 (new pre)).2 = 0 then rlog r1 (rimage r1 (new pre)).1 else (r1, (rimage r1 (new pre)).1, (rimage r1 (new pre)).2)) else (r1, new pre, m1)) := Lib.hid (by rw [ropen, hr1, hm1])
  unfold ptr at H1
  clear H hi hl h1 hr hS1 hS2 q1 q2 hlb hr1 hm1
  unfold ptr
  go_enter Tryz.func19, Tryz.ntmps19
  go_wp2_with fail
  rw [← Hlb.out]
  clear Hlb g1 g2
  refine (lhas_any H1.out (by have := HG0.out.used; omega) S1).mono ?_
  rintro e w2 ⟨rfl, hb2⟩
  have H2 := Lib.hid (H1.out.keeps hb2)
  clear hb2 H1
  go_upto_if 30 with fail
  go_cut [7] (fun s7 wc => s7 = .int .i64 (m1 : Nat) ∧ Hold W0 ((XLedA lb b (new pre)).sep ((RefA b r1).sep R)) wc)
  case first =>
    cases ha : isAt r.fs S1 with
    | false =>
      have he := HC.out.trans (by rw [ha]; rfl : _ = (r, 0))
      have e1 : r1 = r := by rw [Hr1.out, he]
      have e2 : m1 = 0 := by rw [Hm1.out, he]
      have HF : Hid (m1 = 0 ∧ Hold W0 ((XLedA lb b (new pre)).sep ((RefA b r1).sep R)) w2) := Lib.hid ⟨e2, by rw [e1]; exact H2.out⟩
      clear he e1 e2 ha
      go_wp2_with fail
      go_meet
      rw [HF.out.1]
      exact ⟨rfl, HF.out.2⟩
    | true =>
      have he := HC.out.trans (by rw [ha, if_pos rfl] : _ = r.remove S1)
      have hrm := xRemove_any H2.out.up2 HG0.out.ok S1
      rw [← he] at hrm
      have HRm := Lib.hid hrm
      clear he ha hrm H2
      go_wp2_with fail
      refine HRm.out.mono ?_
      rintro e w3 ⟨rfl, h3⟩
      rw [← Hr1.out] at h3
      have H3 := Lib.hid h3.up2
      rw [← Hm1.out]
      clear h3 HRm
      go_wp2_with fail
      go_meet
      exact ⟨rfl, H3.out⟩
  case rest =>
    obtain ⟨rfl, h3⟩ := hcut
    rw [← Hr1.out] at HG1 HGt HGc HIq
    have H3 := Lib.hid h3
    clear h3 H2 HC Hr1 Hm1 hrun1 HG0
    by_cases hm0 : m1 = 0
    case neg =>
      have he := HO.out.trans (if_neg hm0)
      have HE := Lib.hid he
      have q0 : ((m1 : Int) == 0) = false := by rw [beq_eq_false_iff_ne]; omega
      have q1 : ((m1 : Int) != 0) = true := by simp; omega
      have Hm0 := Lib.hid hm0
      have HF := Lib.hid H3.out.drop1
      clear hm0 he
      go_wp2
      go_ret2
      rw [HE.out]
      exact .inr ⟨Hm0.out, rfl, HF.out⟩
    case pos =>
    have ho1 := HO.out.trans (if_pos hm0)
    have HO1 := Lib.hid ho1
    subst hm0
    obtain ⟨g1, hg1⟩ : ∃ g1, g1 = (rimage r1 (new pre)).1 := ⟨_, rfl⟩
    obtain ⟨m2, hm2⟩ : ∃ m2, m2 = (rimage r1 (new pre)).2 := ⟨_, rfl⟩
    have Hg1 := Lib.hid hg1
    have Hm2 := Lib.hid hm2
    clear ho1 HO hg1 hm2
    go_wp2_with fail
    refine (ximage_any H3.out HGn.out (by have := HG1.out.used; omega)).mono ?_
    rintro e w4 ⟨rfl, h4⟩
    dsimp only at h4 ⊢
    rw [← Hg1.out] at h4
    rw [← Hm2.out]
    have H4 := Lib.hid h4
    clear h4 H3
    by_cases hm0 : m2 = 0
    case neg =>
      have he := HO1.out.trans (if_neg (by rw [← Hm2.out]; exact hm0))
      rw [← Hg1.out, ← Hm2.out] at he
      have HE := Lib.hid he
      have q0 : ((m2 : Int) == 0) = false := by rw [beq_eq_false_iff_ne]; omega
      have q1 : ((m2 : Int) != 0) = true := by simp; omega
      have Hm0 := Lib.hid hm0
      have HF := Lib.hid H4.out.drop1
      clear hm0 he
      go_wp2
      go_ret2
      rw [HE.out]
      exact .inr ⟨Hm0.out, rfl, HF.out⟩
    case pos =>
    have ho2 := HO1.out.trans (if_pos (by rw [← Hm2.out]; exact hm0))
    rw [← Hg1.out] at ho2
    have HO2 := Lib.hid ho2
    subst hm0
    have HIo : Hid (GOk g1 ∧ g1.ents = [] ∧ g1.pre = pre) := Lib.hid (by
      have h := image_ok (d := (clears d pre).1) (new_ok hp2) (by rw [HIq.out]; exact Hm2.out.symm)
      rw [HIq.out, ← Hg1.out] at h
      exact h)
    clear ho2 HO1 Hg1 Hm2 HIq
    go_wp2_with fail
    refine (xread_any H4.out.up2 (by have := HG1.out.used; omega) S2).mono ?_
    intro e w5 h5
    rcases h5 with ⟨hrd, rfl, hb5⟩ | ⟨x, v5, hrd, rfl, ho5, hb5⟩
    · have he : ropen r pre = (r1, g1, 0) := by
        rw [HO2.out, rlog, HIo.out.2.2, ← HS2.out, hrd]
      have HE := Lib.hid he
      have HF := Lib.hid (H4.out.keeps hb5)
      clear he hrd hb5 H4
      go_wp2
      go_ret2
      rw [HE.out]
      exact .inl ⟨rfl, lb, rfl, HF.out⟩
    · have hxl : x.length ≤ 1000000 := by
        have h6 := HG1.out.used
        unfold RD.read at hrd
        split at hrd
        · rename_i ha
          have := used_get (isAt_lt ha)
          rw [Option.some.inj hrd] at this
          omega
        · cases hrd
      have he : ropen r pre = if (takesAll (-1) g1 (scan x).1).1 then ((rlogCut r1 pre (scan x).2 x.length (takesAll (-1) g1 (scan x).1).2.ents.isEmpty).1, (takesAll (-1) g1 (scan x).1).2, (rlogCut r1 pre (scan x).2 x.length (takesAll (-1) g1 (scan x).1).2.ents.isEmpty).2) else (r1, (takesAll (-1) g1 (scan x).1).2, 3) := by
        rw [HO2.out, rlog, HIo.out.2.2, ← HS2.out, hrd]
      have h5 := H4.out.addRow hb5 ho5
      have hlenx := h5.sl.run_len Tryz.underlying22
      obtain ⟨ao5, cap5, rfl⟩ := h5.own.shape
      have hsl := h5.sl
      have HSl := Lib.hid hsl
      have H5 := Lib.hid h5.up2
      have HEnt := Lib.hid (xents_any H5.out HIo.out.1 HIo.out.2.1 _ x HSl.out hxl)
      obtain ⟨tot, htot⟩ : ∃ tot, tot = takesAll (-1) g1 (scan x).1 := ⟨_, rfl⟩
      obtain ⟨gd, hgd⟩ : ∃ gd, gd = (scan x).2 := ⟨_, rfl⟩
      have hgl : gd ≤ x.length := by rw [hgd]; exact (scan_len x.length x (Nat.le_refl _)).2.2
      rw [← htot, ← hgd] at HEnt he
      have HE := Lib.hid he
      clear he hrd ho5 hb5 H4 htot hgd HO2 h5 hsl
      go_wp2_with fail
      refine HEnt.out.mono ?_
      rintro e w6 ⟨rfl, h6⟩
      have H6 : Hid (Hold W0 ((XLedA lb b tot.2).sep ((RefA b r1).sep R)) w6) := Lib.hid h6.up2.drop1
      have hsl6 := h6.up2.sl
      have hlenx := hsl6.run_len Tryz.underlying22
      clear h6 H5 HEnt HSl hsl6
      cases ht1 : tot.1 with
      | false =>
        have he := HE.out.trans (by rw [ht1]; rfl : _ = (r1, tot.2, 3))
        have HE2 := Lib.hid he
        have HF := Lib.hid H6.out.drop1
        clear he ht1
        go_wp2
        go_ret2
        rw [HE2.out]
        exact .inr ⟨(by decide : (3 : Nat) ≠ 0), rfl, HF.out⟩
      | true =>
        obtain ⟨g2, hg2⟩ : ∃ g2, g2 = tot.2 := ⟨_, rfl⟩
        have he := HE.out.trans (by rw [ht1, ← hg2]; rfl : _ = ((rlogCut r1 pre gd x.length g2.ents.isEmpty).1, g2, (rlogCut r1 pre gd x.length g2.ents.isEmpty).2))
        have HE2 := Lib.hid he
        rw [← hg2] at H6
        obtain ⟨rc, hrc⟩ : ∃ rc, rc = rcut r1 pre gd x.length := ⟨_, rfl⟩
        have hgc := HGc.out gd x.length
        rw [← hrc] at hgc
        have HGc2 := Lib.hid hgc
        have hcd : rlogCut r1 pre gd x.length g2.ents.isEmpty = if rc.2 = 0 then if g2.ents.isEmpty then rc.1.remove S2 else rc else rc := by rw [rlogCut, ← hrc, HS2.out]
        have HCd := Lib.hid hcd
        have hrcd : rc = if gd < x.length then if (r1.truncate S2 gd).2 = 0 then (r1.truncate S2 gd).1.sync S2 else r1.truncate S2 gd else (r1, 0) := by rw [hrc, rcut, HS2.out]
        have HRc := Lib.hid hrcd
        have hgt := HGt.out gd
        rw [← HS2.out] at hgt
        have HGt2 := Lib.hid hgt
        clear he ht1 hg2 HE hcd hrcd hrc hgc HGt HGc hgt
        go_upto_if 65 with fail
        go_cut [7] (fun s7 wc => s7 = .int .i64 (rc.2 : Nat) ∧ Hold W0 ((XLedA lb b g2).sep ((RefA b rc.1).sep R)) wc)
        case first =>
          by_cases hlt : gd < x.length
          · have h1 := HRc.out.trans (if_pos hlt)
            have H1 := Lib.hid h1
            obtain ⟨rt, hrt⟩ : ∃ rt, rt = r1.truncate S2 (gd : Int) := ⟨_, rfl⟩
            have htr := xtrunc_any H6.out.up2 HG1.out.ok (by have := HG1.out.used; omega) HG1.out.fit S2 (gd : Int)
            rw [← hrt] at htr H1 HGt2
            have HTr := Lib.hid htr
            clear h1 htr hrt
            go_wp2_with fail
            refine HTr.out.mono ?_
            rintro e w7 ⟨rfl, h7⟩
            have H7 := Lib.hid h7
            obtain ⟨m, hm⟩ : ∃ m, m = rt.2 := ⟨_, rfl⟩
            rw [← hm]
            clear h7 HTr H6
            by_cases hm0 : m = 0
            · have h2 := H1.out.trans (if_pos (by rw [← hm]; exact hm0))
              have hsy := xsync_any H7.out HGt2.out.ok S2
              rw [← h2] at hsy
              have HSy := Lib.hid hsy
              subst hm0
              clear h2 hsy hm
              go_wp2_with fail
              refine HSy.out.mono ?_
              rintro e w8 ⟨rfl, h8⟩
              have H8 := Lib.hid h8.up2
              clear h8 HSy H7
              go_wp2_with fail
              go_meet
              exact ⟨rfl, H8.out⟩
            · have h2 := H1.out.trans (if_neg (by rw [← hm]; exact hm0))
              have q0 : ((m : Int) == 0) = false := by rw [beq_eq_false_iff_ne]; omega
              have HF : Hid (m = rc.2 ∧ Hold W0 ((XLedA lb b g2).sep ((RefA b rc.1).sep R)) w7) := Lib.hid ⟨by rw [h2, hm], by rw [h2]; exact H7.out.up2⟩
              clear h2 hm hm0 H7
              go_wp2_with fail
              go_meet
              rw [HF.out.1]
              exact ⟨rfl, HF.out.2⟩
          · have h1 := HRc.out.trans (if_neg hlt)
            have HF : Hid (rc.2 = 0 ∧ Hold W0 ((XLedA lb b g2).sep ((RefA b rc.1).sep R)) w6) := Lib.hid ⟨by rw [h1], by rw [h1]; exact H6.out⟩
            clear h1 H6
            go_wp2_with fail
            go_meet
            rw [HF.out.1]
            exact ⟨rfl, HF.out.2⟩
        case rest =>
          obtain ⟨rfl, h7⟩ := hcut
          have H7 := Lib.hid h7
          clear h7 H6 HRc HGt2
          obtain ⟨m, hm⟩ : ∃ m, m = rc.2 := ⟨_, rfl⟩
          rw [← hm]
          have Hm := Lib.hid hm
          clear hm
          by_cases hm0 : m = 0
          · have hc2 := HCd.out.trans (if_pos (by rw [← Hm.out]; exact hm0))
            have HC2 := Lib.hid hc2
            obtain ⟨dv, ev, vs2, h8⟩ := xled_open H7.out
            have c4 := blk_cell h8.blk 4
            have hlenL := h8.up3.sl.run_len Tryz.underlying44
            subst hm0
            clear hc2 h8 HCd
            cases hem : g2.ents with
            | nil =>
              have hc3 := HC2.out.trans (by rw [hem]; rfl : _ = rc.1.remove S2)
              have hrm := xRemove_any H7.out.up2 HGc2.out.ok S2
              rw [← hc3] at hrm
              have HRm := Lib.hid hrm
              rw [hem] at hlenL
              have HEm := Lib.hid hem
              obtain ⟨z, hz⟩ : ∃ z, z = rlogCut r1 pre gd x.length g2.ents.isEmpty := ⟨_, rfl⟩
              rw [← hz] at HRm HE2
              clear hc3 hrm HC2 hem hz
              go_wp2_with fail
              refine HRm.out.mono ?_
              rintro e w8 ⟨rfl, h8⟩
              have H8 := Lib.hid h8
              obtain ⟨m5, hm5⟩ : ∃ m5, m5 = z.2 := ⟨_, rfl⟩
              rw [← hm5] at HE2 ⊢
              clear h8 HRm H7 hm5
              by_cases h50 : m5 = 0
              · subst h50
                have HF := Lib.hid H8.out.up2
                go_wp2
                go_ret2
                rw [HE2.out]
                exact .inl ⟨rfl, lb, rfl, HF.out⟩
              · have q1 : ((m5 : Int) != 0) = true := by simp; omega
                have HF := Lib.hid H8.out.up2.drop1
                have H50 := Lib.hid h50
                clear h50
                go_wp2
                go_ret2
                rw [HE2.out]
                exact .inr ⟨H50.out, rfl, HF.out⟩
            | cons y ys =>
              have hc3 := HC2.out.trans (by rw [hem]; rfl : _ = rc)
              have hF : Hid (ropen r pre = (rc.1, g2, 0)) := Lib.hid (by rw [HE2.out, hc3, ← Hm.out])
              have q2 : ((g2.ents.length : Int) == 0) = false := by rw [beq_eq_false_iff_ne, hem]; simp; omega
              clear hc3 HC2 hem
              go_wp2
              go_ret2
              rw [hF.out]
              exact .inl ⟨rfl, lb, rfl, H7.out⟩
          · have hc2 := HCd.out.trans (if_neg (by rw [← Hm.out]; exact hm0))
            have hF : Hid (ropen r pre = (rc.1, g2, m)) := Lib.hid (by rw [HE2.out, hc2, ← Hm.out])
            have q0 : ((m : Int) == 0) = false := by rw [beq_eq_false_iff_ne]; omega
            have q1 : ((m : Int) != 0) = true := by simp; omega
            have HF := Lib.hid H7.out.drop1
            have Hm0 := Lib.hid hm0
            clear hc2 hm0
            go_wp2
            go_ret2
            rw [hF.out]
            exact .inr ⟨Hm0.out, rfl, HF.out⟩
end
end Go.Proofs.YtkbfjgmgckbogaaGreat.Ld
