/-
  Texts that the proofs of this seat stand on, one behind the other: contracts of functions and plain lemmas. Conditions: those that each theorem states.
-/
import Derived.Test.YtkbfjgmgckbogaaGreatXLedOpen
import Derived.Test.YtkbfjgmgckbogaaGreatStep
import Derived.Deep.RegionLaw
import Derived.Deep.DeepCutAuto
import Derived.Test.YtkbfjgmgckbogaaGreatF17
import Derived.Deep.QuietTactic
import Derived.BigQuiet
import Derived.Test.YtkbfjgmgckbogaaGreatF19
import Derived.Test.YtkbfjgmgckbogaaGreatF26
/-
  The reference's ledger (chapter 5): At.
-/




namespace Go.Proofs.YtkbfjgmgckbogaaGreat.Ld
open Go.RowKit L Oct Dsk Fr Kp
section
variable {W0 w : World} {R : Asrt} {lb b : Nat} {g : Lg}
set_option maxRecDepth 100000 in
set_option maxHeartbeats 1600000 in
theorem xat_any (H : Hold W0 ((XLedA lb b g).sep R) w) (hg : GOk g) (i : Int) (hi1 : -9223372036854775808 ≤ i) (hi2 : i ≤ 9223372036854775807) : Calls Tryz.prog 42 #[ptr lb, .int .i64 i] w (RetAt w (g.at i)) := by
  obtain ⟨dv, ev, vs, H1⟩ := xled_open H
  have k2 := blk_cell H1.blk 2
  have k4 := blk_cell H1.blk 4
  have HL := Lib.hid (xlast_any H hg)
  have HR := Lib.hid (H1.drop1.drop1.rowsAt rfl)
  have hn := hg.len
  have hbs := hg.base
  have hent := Lib.hid hg.ent
  clear H1
  by_cases h1 : i ≤ g.base
  · have Hr : Hid (g.at i = none) := Lib.hid (by rw [Lg.at, if_pos (.inl h1)])
    have g1 : decide (i ≤ (g.base : Int)) = true := by simpa using h1
    clear H hg h1
    unfold ptr at HL ⊢
    go_enter Tryz.func42, Tryz.ntmps42
    go_wp2_with (go_at_call 40; refine HL.out.mono ?_; rintro e w5 ⟨rfl, n5, rfl⟩)
    go_ret2
    rw [Hr.out]
    exact .inl ⟨rfl, rfl, Below.refl _ _⟩
  · have g1 : decide (i ≤ (g.base : Int)) = false := by simpa using h1
    by_cases h2 : (g.last : Int) < i
    · have Hr : Hid (g.at i = none) := Lib.hid (by rw [Lg.at, if_pos (.inr h2)])
      have g2 : decide ((g.last : Int) < i) = true := by simpa using h2
      clear H hg h1 h2
      unfold ptr at HL ⊢
      go_enter Tryz.func42, Tryz.ntmps42
      go_wp2_with (go_at_call 40; refine HL.out.mono ?_; rintro e w5 ⟨rfl, n5, rfl⟩)
      go_ret2
      rw [Hr.out]
      exact .inl ⟨rfl, rfl, below_drewN (Below.refl _ _) _⟩
    · have g2 : decide ((g.last : Int) < i) = false := by simpa using h2
      obtain ⟨j, hj⟩ : ∃ j : Nat, j = i.toNat - g.base - 1 := ⟨_, rfl⟩
      have hlast : g.last = g.base + g.ents.length := rfl
      have hji : i = (g.base : Int) + (j : Int) + 1 := by omega
      have hjl : j < g.ents.length := by omega
      have Hr : Hid (g.at i = some (g.ents.getD j [])) := Lib.hid (by rw [Lg.at, if_neg (by omega), hj])
      obtain ⟨A, v4, x, hA, _, c4, Hx, hs4⟩ := HR.out.at (P := Tryz.prog) Tryz.underlying44 Tryz.size22 j hjl
      have e0 : i - (g.base : Int) - 1 = (j : Int) := by omega
      rw [← e0] at hA
      have a1 : IntKind.i64.wrap (i - (g.base : Int)) = i - (g.base : Int) := IntWalk.i64_in _ (by omega)
      have a2 : IntKind.i64.wrap (i - (g.base : Int) - 1) = i - (g.base : Int) - 1 := IntWalk.i64_in _ (by omega)
      have hxl : x.length ≤ 1073741824 := by rw [Hx.out]; exact hent.out _ (by simp [List.getD, hjl])
      rw [← Hx.out] at Hr
      have HS := Lib.hid hs4
      clear H hg h1 h2 hj hlast hji hjl e0 Hx hs4 hn hbs
      unfold ptr at HL ⊢
      go_enter Tryz.func42, Tryz.ntmps42
      go_wp2_with fail
      refine HL.out.mono ?_
      rintro e w5 ⟨rfl, n5, hw5⟩
      have hb5 : Below w.heap.size w w5 := by rw [hw5]; exact below_drewN (Below.refl _ _) _
      have HB5 := Lib.hid hb5
      have f2 := cell_on hb5 k2
      have f4 := cell_on hb5 k4
      have fA := cell_on hb5 c4
      have hal : Below w5.heap.size w5 (w5.alloc (.cells #[] 5)).drew := ((Below.refl _ _).alloc (Nat.le_refl _) _).drew
      have d2 : w5.drew.cell? ⟨lb, 2, none⟩ = some (.int .i64 g.base) := f2
      have d4 : w5.drew.cell? ⟨lb, 4, none⟩ = some ev := f4
      have dA : w5.drew.cell? A = some v4 := fA
      have e2 : (w5.alloc (.cells #[] 5)).drew.cell? ⟨lb, 2, none⟩ = some (.int .i64 g.base) := cell_on hal f2
      have e4 : (w5.alloc (.cells #[] 5)).drew.cell? ⟨lb, 4, none⟩ = some ev := cell_on hal f4
      have eA : (w5.alloc (.cells #[] 5)).drew.cell? A = some v4 := cell_on hal fA
      have hsl : Sl (w5.alloc (.cells #[] 5)).drew 1 v4 x.length (u8s x) := (HS.out.below' hb5).below' hal
      have hE : Hold w ((Row 5 1 (.slice (some ⟨w5.heap.size, 0, none⟩) 0 0) 0 []).sep Asrt.emp) (w5.alloc (.cells #[] 5)).drew := (((Hold.start w).keeps hb5).addEmpty 5).drew
      have HE := Lib.hid hE
      clear hb5 hw5 hal hE k2 k4 c4 HL
      go_upto_region 3 with fail
      go_region_law
        (first
          | (refine step_app el8 HE.out ?_ (.tmp 18) (.tmp 31) ?_ ?_ ?_ hsl (u8s_one _) (by omega) (by omega) ?_; (any_goals rfl); intro v16 ys16 w16 Y16 h16; rw [Y16.out, List.nil_append, Nat.zero_add] at h16; have HF := Lib.hid (Hold.fin h16); clear h16)
          | fail)
      all_goals
        go_wp2
        go_ret2
        rw [Hr.out]
        exact .inr ⟨_, _, rfl, rfl, HF.out.1, HF.out.2⟩
end
end Go.Proofs.YtkbfjgmgckbogaaGreat.Ld

/-
  'alike' of the laws of chapter 5: two ledgers that hold the same tell the same.
-/




namespace Go.Proofs.YtkbfjgmgckbogaaGreat.Ld
open Go.RowKit L Oct Dsk Fr Kp
section
variable {W0 w : World} {R : Asrt} {lb b lb2 b2 : Nat} {g : Lg}
def AlRel (W0 : World) (R : Asrt) (lb b lb2 b2 : Nat) (g : Lg) (i : Value) (wr : World) : Prop :=
  ∃ k : Nat, k ≤ g.ents.length + 3 ∧ i = .int .i64 ((g.base : Int) - 1 + k) ∧ Hold W0 ((LedgA lb b g).sep ((XLedA lb2 b2 g).sep R)) wr
set_option maxRecDepth 100000 in
set_option maxHeartbeats 3200000 in
theorem alike_any (H : Hold W0 ((LedgA lb b g).sep ((XLedA lb2 b2 g).sep R)) w) (hg : GOk g) :
    Calls Tryz.prog 21 #[ptr lb, ptr lb2] w fun e w' => e = .returned (.bool true) ∧ Hold W0 ((LedgA lb b g).sep ((XLedA lb2 b2 g).sep R)) w' := by
  have HG := Lib.hid hg
  have HH := Lib.hid H
  have hbs := hg.base
  have hln := hg.len
  clear H hg
  unfold ptr
  go_enter Tryz.func21, Tryz.ntmps21
  go_wp2_with fail
  refine (base_any HH.out HG.out).mono ?_
  rintro e w1 ⟨v1, rfl, ho1, hb1⟩
  have H1 := Lib.hid (HH.out.keeps hb1)
  obtain ⟨dv, ev, vs, h2⟩ := xled_open H1.out.up2
  have k2 := blk_cell h2.blk 2
  have k3 := blk_cell h2.blk 3
  have cv1 := fun m => (ho1.sl.below' (below_drewN (Below.refl _ _) m)).run_string (src := 22) (dst := 9) Tryz.underlying22 Tryz.underlying5 Tryz.underlying9
  have cv2 := fun m => (h2.up2.sl.below' (below_drewN (Below.refl _ _) m)).run_string (src := 22) (dst := 9) Tryz.underlying22 Tryz.underlying5 Tryz.underlying9
  obtain ⟨S, hS⟩ : ∃ S, S = ByteArray.mk g.data.toArray := ⟨_, rfl⟩
  rw [← hS] at cv1 cv2
  have hq1 : (S.toList == S.toList) = true := by simp
  have hq2 : ((g.base : Int) != (g.base : Int)) = false := by simp
  have hq3 : ((g.last : Int) != (g.last : Int)) = false := by simp
  have hlst : g.last ≤ 1099512676352 := by unfold Lg.last; omega
  have hlst2 : Hid (g.last = g.base + g.ents.length) := Lib.hid rfl
  have a1 : IntKind.i64.wrap ((g.base : Int) - 1) = (g.base : Int) - 1 := IntWalk.i64_in _ (by omega)
  have HL1 : Hid (∀ n, Calls Tryz.prog 25 #[.pointer (some ⟨lb, 0, none⟩)] (w1.drewN n) (RetDrew (w1.drewN n) (.int .i64 (g.last : Nat)))) := Lib.hid fun n => last_any (H1.out.keeps (below_drewN (Below.refl _ _) n)) HG.out
  have HL2 : Hid (∀ n, Calls Tryz.prog 40 #[.pointer (some ⟨lb2, 0, none⟩)] (w1.drewN n) (RetDrew (w1.drewN n) (.int .i64 (g.last : Nat)))) := Lib.hid fun n => xlast_any (H1.out.up2.keeps (below_drewN (Below.refl _ _) n)) HG.out
  clear ho1 hb1 h2 HH hS
  go_wp2_with fail
  go_quiet ((first | (go_at_call 25; exact Calls.quiet_of (HL1.out _)) | (go_at_call 40; exact Calls.quiet_of (HL2.out _))))
  have HP : Hid (AlRel W0 R lb b lb2 b2 g (.int .i64 ((g.base : Int) - 1)) (w1.drewN nq)) := Lib.hid ⟨0, by omega, by simp, H1.out.keeps (below_drewN (Below.refl _ _) _)⟩
  clear H1 HL1 HL2 k2 k3 cv1 cv2 hq1 hq2 hq3
  go_wp2_with fail
  go_loopw [7] (fun i wr => AlRel W0 R lb b lb2 b2 g i wr) (fun i _ => ((g.last : Int) + 2 - intOf i).toNat)
  case atStart => exact HP.out
  case round =>
    clear HP a1
    obtain ⟨k, hk, rfl, hH⟩ := hrel
    have HW := Lib.hid hH
    clear hH
    obtain ⟨z, hz⟩ : ∃ z, z = (g.base : Int) - 1 + k := ⟨_, rfl⟩
    rw [← hz]
    have Hz := Lib.hid hz
    have hz1 : -1 ≤ z := by omega
    have hz2 : z ≤ 1099513000000 := by omega
    clear hz
    go_wp2_with fail
    refine (last_any HW.out HG.out).mono ?_
    rintro e w2 ⟨rfl, n2, hw2⟩
    have H2 := Lib.hid (show Hold W0 _ w2 by rw [hw2]; exact HW.out.keeps (below_drewN (Below.refl _ _) n2))
    clear HW hw2
    by_cases hle : z ≤ (g.last : Int) + 1
    · have hz3 := Hz.out
      have hkk : k < g.ents.length + 3 := by have := hlst2.out; omega
      clear hz3
      go_wp2_with fail
      refine (at_any H2.out HG.out z (by omega) (by omega)).mono ?_
      intro e w3 h3
      rcases h3 with ⟨ho, rfl, hb3⟩ | ⟨x, v3, ho, rfl, ho3, hb3⟩
      · have H3 := Lib.hid (H2.out.keeps hb3)
        clear hb3 H2
        go_wp2_with fail
        refine (xat_any H3.out.up2 HG.out z (by omega) (by omega)).mono ?_
        intro e w4 h4
        rw [ho] at h4
        rcases h4 with ⟨_, rfl, hb4⟩ | ⟨x, v4, h4, _⟩
        case inr => cases h4
        have H4 := Lib.hid (H3.out.keeps hb4)
        have cv := (Sl.nil w4 1).run_string (P := Tryz.prog) (l := []) (src := 22) (dst := 9) Tryz.underlying22 Tryz.underlying5 Tryz.underlying9
        clear hb4 H3 ho
        go_wp2
        go_roundw
        case rel => exact ⟨k + 1, by omega, by rw [Hz.out]; go_num, H4.out⟩
        case measure => simp [intOf]; omega
      · have H3 := Lib.hid (H2.out.keeps hb3)
        have hs3 := ho3.sl
        have HS3 := Lib.hid hs3
        clear hb3 H2 ho3 hs3
        go_wp2_with fail
        refine (xat_any H3.out.up2 HG.out z (by omega) (by omega)).mono ?_
        intro e w4 h4
        rw [ho] at h4
        rcases h4 with ⟨h4, _⟩ | ⟨x2, v4, h4, rfl, ho4, hb4⟩
        · cases h4
        obtain rfl : x = x2 := Option.some.inj h4
        have H4 := Lib.hid (H3.out.keeps hb4)
        have cv1 := (HS3.out.below' hb4).run_string (src := 22) (dst := 9) Tryz.underlying22 Tryz.underlying5 Tryz.underlying9
        have cv2 := ho4.sl.run_string (src := 22) (dst := 9) Tryz.underlying22 Tryz.underlying5 Tryz.underlying9
        obtain ⟨S, hS⟩ : ∃ S, S = ByteArray.mk x.toArray := ⟨_, rfl⟩
        rw [← hS] at cv1 cv2
        have hq1 : (S.toList == S.toList) = true := by simp
        clear hb4 H3 ho h4 ho4 hS
        go_wp2
        go_roundw
        case rel => exact ⟨k + 1, by omega, by rw [Hz.out]; go_num, H4.out⟩
        case measure => simp [intOf]; omega
    · go_wp2
      go_ret
      exact ⟨rfl, H2.out⟩
end
end Go.Proofs.YtkbfjgmgckbogaaGreat.Ld

/-
  'opened' of the laws of chapter 5: two disks that are alike are opened alike.
-/




namespace Go.Proofs.YtkbfjgmgckbogaaGreat.Ld
open Go.RowKit L Oct Dsk Fr Kp
theorem removes_keep : ∀ (l : List ByteArray) (d : D), (removes d l).1.room = d.room := removes_room
theorem logEnd_room (d : D) (pre : ByteArray) (b : Bool) : (logEnd d pre b).1.room = d.room := by
  unfold logEnd
  split
  · exact remove_room _ _
  · rfl
theorem open_room (d : D) (pre : ByteArray) : (openL d pre).1.room = d.room := by
  have h1 : (clears d pre).1.room = d.room := removes_room _ _
  have h2 : ∀ (d : D) (g : Lg), (log d g).1.room = d.room := fun d g => by
    unfold log
    split
    · rfl
    · split
      · show (logCut d g.pre _ _ _).1.room = _
        unfold logCut
        split
        · split
          · split
            · rw [logEnd_room, (sync_fused _ _).2, (trunc_fused _ _ _).2]
            · rw [(sync_fused _ _).2, (trunc_fused _ _ _).2]
          · exact (trunc_fused _ _ _).2
        · exact logEnd_room _ _ _
      · rfl
  unfold openL
  split
  · split
    · rw [h2]; exact h1
    · exact h1
  · exact h1
theorem scan_rows_len (x : List UInt8) : ∀ p ∈ (scan x).1, p.length ≤ 1048576 := (scan_len x.length x (Nat.le_refl _)).2.1
theorem all_ok : ∀ (rs : List (List UInt8)) (last : Int) (g : Lg) (k : Nat), GOk g → -1 ≤ last ∧ last ≤ 4611686018427387904 → g.ents.length ≤ k → k + rs.length ≤ 1048576 → (∀ p ∈ rs, p.length ≤ 1073741824) → GOk (takesAll last g rs).2
  | [], _, g, _, hg, _, _, _, _ => hg
  | p :: r, last, g, k, hg, hl, hk, hb, hp => by
    simp only [List.length_cons] at hb
    obtain ⟨t1, t2, t3, _⟩ := takes_ok (last := last) (g := g) (p := p) (k := k) hg hl (hp p (List.mem_cons_self ..)) hk (by omega)
    unfold takesAll
    split
    · exact all_ok r _ _ (k + 1) t1 t2 t3 (by omega) fun q hq => hp q (List.mem_cons_of_mem _ hq)
    · exact t1
/-- what is opened has numbers in bounds -/
theorem open_ok {d : D} {n : Nat} {pre : ByteArray} (hi : DInv d n) (hr : d.room ≤ 1000000) (hp : pre.size ≤ 20) (h0 : (openL d pre).2.2 = 0) : GOk (openL d pre).2.1 := by
  have i1 : DInv (clears d pre).1 n := removes_inv [sh (imgN pre)] hi
  have r1 : (clears d pre).1.room ≤ 1000000 := by
    show (removes d [sh (imgN pre)]).1.room ≤ _
    rw [removes_room]; exact hr
  unfold openL at h0 ⊢
  split at h0
  · rename_i hc
    rw [if_pos hc]
    split at h0
    · rename_i hm
      rw [if_pos hm]
      obtain ⟨k1, k2, _⟩ := image_ok (new_ok hp) hm
      obtain ⟨g, hg⟩ : ∃ g, g = (image (clears d pre).1 (new pre)).1 := ⟨_, rfl⟩
      rw [← hg] at k1 k2 ⊢
      unfold log
      split
      · exact k1
      · rename_i f hf
        have hfl : f.data.length ≤ 1000000 := by
          have h1 := used_mem (getF_name hf).1
          have h2 := i1.ok.used
          exact Nat.le_trans h1 (Nat.le_trans h2 r1)
        obtain ⟨s1, s2, _⟩ := scan_len f.data.length f.data (Nat.le_refl _)
        have key : GOk (takesAll (-1) g (scan f.data).1).2 := all_ok _ (-1) g 0 k1 ⟨by omega, by omega⟩ (by rw [k2]; exact Nat.le_refl _) (by omega) (fun p hp => by have := s2 p hp; omega)
        split
        · exact key
        · exact key
    · rename_i hm
      exact absurd h0 hm
  · rename_i hc
    exact absurd h0 hc
section
variable {W0 w : World} {R : Asrt} {b b2 n : Nat} {d : D} {r : RD}
def RetOpened (W0 : World) (e : Ending) (w' : World) : Prop := ∃ p1 p2, e = .returned (.tuple #[p1, p2, .bool true]) ∧ Below W0.heap.size W0 w'
set_option maxRecDepth 100000 in
set_option maxHeartbeats 1600000 in
theorem opened_any (H : Hold W0 ((DiskA b d).sep ((RefA b2 r).sep R)) w) (hl : Like d r) (hi : DInv d n) (hn : n ≤ 4096) (hr : d.room ≤ 1000000) :
    Calls Tryz.prog 8 #[ptr b, ptr b2] w (RetOpened W0) := by
  obtain ⟨lo1, lo2⟩ := like_open hl sAx
  have HLo2 := Lib.hid lo2
  have Hio := Lib.hid (inv_open hi sAx)
  have hroom := open_room d sAx
  have HX := Lib.hid (show ∀ (W0 w : World) (R : Asrt), Hold W0 ((RefA b2 r).sep R) w → Calls Tryz.prog 19 #[ptr b2, .string sAx] w (RetXOpen W0 R b2 (ropen r sAx)) from fun _ _ _ h => xopen_any h hl hi hn hr (by decide) (by decide))
  have HOp := Lib.hid (open_any H hi hn hr (pre := sAx) (by decide) (by decide))
  obtain ⟨y, hy⟩ : ∃ y, y = openL d sAx := ⟨_, rfl⟩
  obtain ⟨z, hz⟩ : ∃ z, z = ropen r sAx := ⟨_, rfl⟩
  have HGk : Hid (y.2.2 = 0 → GOk y.2.1) := Lib.hid fun h => by rw [hy] at h ⊢; exact open_ok hi hr (by decide) h
  rw [← hy, ← hz] at lo1 HLo2
  rw [← hy] at HOp Hio hroom
  have HXz : Hid (∀ (W0 w : World) (R : Asrt), Hold W0 ((RefA b2 r).sep R) w → Calls Tryz.prog 19 #[ptr b2, .string sAx] w (RetXOpen W0 R b2 z)) := Lib.hid fun _ _ _ h => by rw [hz]; exact HX.out _ _ _ h
  have Hlo1 := Lib.hid lo1
  have Hroom := Lib.hid hroom
  have HFi : Hid (∀ f ∈ y.1.fs, f.name.size ≤ 140737488355328) := Lib.hid fun f hf => by have := Hio.out.names f hf; omega
  have HFl : Hid (y.1.fs.length ≤ 4096) := Lib.hid (by have := Hio.out.len; omega)
  clear HX H hl hi hr lo1 lo2 hroom hy hz
  unfold ptr at HOp HXz ⊢
  go_enter Tryz.func8, Tryz.ntmps8
  go_wp2_with fail
  refine HOp.out.mono ?_
  intro e w1 h1
  clear HOp
  rcases h1 with ⟨hc, lb, rfl, h1⟩ | ⟨hc, rfl, h1⟩
  · have hcz : z.2.2 = 0 := by rw [← Hlo1.out]; exact hc
    have H1 : Hid (Hold W0 ((RefA b2 r).sep ((LedgA lb b y.2.1).sep ((DiskA b y.1).sep R))) w1) := Lib.hid (h1.perm (by ac_rfl))
    have HGk2 := Lib.hid (HGk.out hc)
    have hgz : z.2.1 = y.2.1 := by rw [← Hlo1.out]
    have HCz := Lib.hid hcz
    have HGz := Lib.hid hgz
    unfold ptr
    clear h1 hc hcz hgz
    go_wp2_with fail
    refine (HXz.out _ _ _ H1.out).mono ?_
    intro e w2 h2
    rcases h2 with ⟨_, lb2, rfl, h2⟩ | ⟨h2, _⟩
    case inr => exact absurd HCz.out h2
    rw [HGz.out] at h2
    have H2 : Hid (Hold W0 ((DiskA b y.1).sep ((RefA b2 z.1).sep ((LedgA lb b y.2.1).sep ((XLedA lb2 b2 y.2.1).sep R)))) w2) := Lib.hid (h2.perm (by ac_rfl))
    unfold ptr
    clear h2 H1
    go_wp2_with fail
    refine (files_any H2.out HLo2.out Hio.out.ok HFl.out HFi.out).mono ?_
    rintro e w3 ⟨rfl, h3⟩
    have H3 : Hid (Hold W0 ((LedgA lb b y.2.1).sep ((XLedA lb2 b2 y.2.1).sep ((DiskA b y.1).sep ((RefA b2 z.1).sep R)))) w3) := Lib.hid (h3.perm (by ac_rfl))
    clear h3 H2
    go_wp2_with fail
    refine (alike_any H3.out HGk2.out).mono ?_
    rintro e w4 ⟨rfl, h4⟩
    have HF := Lib.hid h4.old
    clear h4 H3
    go_wp2
    go_ret3
    exact ⟨_, _, rfl, HF.out⟩
  · have hcz : z.2.2 ≠ 0 := by rw [← Hlo1.out]; exact hc
    have heq : z.2.2 = y.2.2 := by rw [← Hlo1.out]
    obtain ⟨m, hm⟩ : ∃ m, m = y.2.2 := ⟨_, rfl⟩
    rw [← hm] at hc ⊢
    have Hm := Lib.hid hm
    have H1 : Hid (Hold W0 ((RefA b2 r).sep ((DiskA b y.1).sep R)) w1) := Lib.hid (h1.perm (by ac_rfl))
    have HCz := Lib.hid hcz
    have Heq := Lib.hid heq
    have q0 : ((m : Int) != 0) = true := by simp; omega
    have q1 : ((m : Int) != (m : Int)) = false := by simp
    have Hc := Lib.hid hc
    clear h1 hcz heq hm hc
    go_wp2_with fail
    refine (HXz.out _ _ _ H1.out).mono ?_
    intro e w2 h2
    rcases h2 with ⟨h2, _⟩ | ⟨_, rfl, h2⟩
    · exact absurd h2 HCz.out
    rw [Heq.out, ← Hm.out]
    have H2 : Hid (Hold W0 ((DiskA b y.1).sep ((RefA b2 z.1).sep R)) w2) := Lib.hid h2.up2
    clear h2 H1
    go_wp2_with fail
    refine (files_any H2.out HLo2.out Hio.out.ok HFl.out HFi.out).mono ?_
    rintro e w3 ⟨rfl, h3⟩
    have HF := Lib.hid h3.old
    clear h3 H2
    go_wp2
    go_ret3
    exact ⟨_, _, rfl, HF.out⟩
end
end Go.Proofs.YtkbfjgmgckbogaaGreat.Ld

/-
  LedgerDisks: any files under its names: a ledger, or refused; what is torn is cut off.
-/



namespace Go.Proofs.YtkbfjgmgckbogaaGreat.ledgerDisks
open Go.RowKit L Oct Dsk Fr Kp Ld
/-- two disks that are alike -/
def Two (W0 : World) (b b2 k : Nat) (wr : World) : Prop := ∃ (d : D) (r : RD), Like d r ∧ DInv d k ∧ d.room = 65536 ∧ Hold W0 ((DiskA b d).sep ((RefA b2 r).sep Asrt.emp)) wr
theorem two_zero : Like (kd []) ⟨65536, [], -1⟩ := ⟨rfl, .refl _, .nil, rfl⟩
theorem two_append {d : D} {r : RD} {k : Nat} (hl : Like d r) (hi : DInv d k) (hr : d.room = 65536) (s : ByteArray) (x : List UInt8) : Like (d.append s x).1 (r.append s x).1 ∧ DInv (d.append s x).1 (k + 1) ∧ (d.append s x).1.room = 65536 :=
  ⟨(like_append hl s x).2, hi.append s x, by
    rw [← hr]
    unfold D.append
    split
    · split
      · rfl
      · show (D.done _).room = d.room
        rw [done_room]
    · rfl⟩
set_option maxRecDepth 100000 in
set_option maxHeartbeats 1600000 in
theorem walk {w : World} (v0 : Value) (l0 : List UInt8) (h0 : Sl w 1 v0 l0.length (u8s l0)) (_b0 : l0.length ≤ 140737488351232) (v1 : Value) (l1 : List UInt8) (h1 : Sl w 1 v1 l1.length (u8s l1)) (_b1 : l1.length ≤ 140737488351232) :
    Calls Tryz.prog 3 #[v0, v1] w fun e w' => e = .returned (.bool true) ∧ Below w.heap.size w w' := by
  have hl0 := h0.run_len Tryz.underlying22
  have hl1 := h1.run_len Tryz.underlying22
  have shape : ∀ {v : Value} {l : List UInt8}, Sl w 1 v l.length (u8s l) → ∃ ao cap, v = .slice ao l.length cap := by
    rintro v l ⟨_, ao, cap, e, _⟩
    exact ⟨ao, cap, e⟩
  obtain ⟨ao0, cap0, rfl⟩ := shape h0
  obtain ⟨ao1, cap1, rfl⟩ := shape h1
  clear shape
  have S0 := Lib.hid h0
  have S1 := Lib.hid h1
  clear h0 h1
  by_cases hbig : 2000 < l0.length + l1.length
  · have g1 : decide ((2000 : Int) < (l0.length : Int) + (l1.length : Int)) = true := by simp; omega
    go_enter Tryz.func3, Tryz.ntmps3
    go_wp2
    go_ret
    exact ⟨rfl, Below.refl _ _⟩
  · have g1 : decide ((2000 : Int) < (l0.length : Int) + (l1.length : Int)) = false := by simp; omega
    go_enter Tryz.func3, Tryz.ntmps3
    go_wp2_with fail
    refine (Dsk.new_ok (Hold.start w) 65536 (by omega)).mono ?_
    rintro e w1 ⟨_, rfl, b, rfl, h1⟩
    unfold ptr
    have H1 := Lib.hid h1
    clear h1
    go_wp2_with fail
    refine (Dsk.xnew_ok H1.out 65536 (by omega)).mono ?_
    rintro e w2 ⟨_, rfl, b2, rfl, h2⟩
    unfold ptr
    have H2 : Hid (Two w b b2 0 w2) := Lib.hid ⟨kd [], _, two_zero, kd_inv0, rfl, h2.up2⟩
    clear h2 H1 g1
    go_upto_if 28 with fail
    go_cut [] (fun wc => Two w b b2 1 wc)
    case first =>
      obtain ⟨d, r, hl, hi, hr, h⟩ := H2.out
      by_cases hlt : 0 < l0.length
      · have ht := Lib.hid (two_append hl hi hr sImgA l0)
        have HOk := Lib.hid hi.ok
        have HRo := Lib.hid (hl.ok hi (by omega))
        have HU := Lib.hid (hl.usedr hi)
        have HH := Lib.hid h
        clear hl hi hr h H2
        go_wp2_with fail
        refine (append_lit HH.out rfl HOk.out sImgA (.slice ao0 l0.length cap0) l0 (Reads.old S0.out) (by omega)).mono ?_
        rintro e w3 ⟨rfl, h3⟩
        have H3 := Lib.hid h3.up2
        clear h3 HH
        go_wp2_with fail
        refine (xappend_any H3.out HRo.out HU.out sImgA (.slice ao0 l0.length cap0) l0 (Reads.old S0.out) (by omega)).mono ?_
        rintro e w4 ⟨rfl, h4⟩
        have H4 : Hid (Two w b b2 1 w4) := Lib.hid ⟨_, _, ht.out.1, ht.out.2.1, ht.out.2.2, h4.up2⟩
        clear h4 H3
        go_wp2_with fail
        go_meet
        exact H4.out
      · have H4 : Hid (Two w b b2 1 w2) := Lib.hid ⟨d, r, hl, hi.le (by omega), hr, h⟩
        clear hl hi hr h H2
        go_wp2_with fail
        go_meet
        exact H4.out
    case rest =>
      clear H2
      have H5 := Lib.hid hcut
      clear hcut
      go_upto_if 38 with fail
      go_cut [] (fun wd => Two w b b2 2 wd)
      case first =>
        obtain ⟨d, r, hl, hi, hr, h⟩ := H5.out
        by_cases hlt : 0 < l1.length
        · have ht := Lib.hid (two_append hl hi hr sLogA l1)
          have HOk := Lib.hid hi.ok
          have HRo := Lib.hid (hl.ok hi (by omega))
          have HU := Lib.hid (hl.usedr hi)
          have HH := Lib.hid h
          clear hl hi hr h H5
          go_wp2_with fail
          refine (append_lit HH.out rfl HOk.out sLogA (.slice ao1 l1.length cap1) l1 (Reads.old S1.out) (by omega)).mono ?_
          rintro e w3 ⟨rfl, h3⟩
          have H3 := Lib.hid h3.up2
          clear h3 HH
          go_wp2_with fail
          refine (xappend_any H3.out HRo.out HU.out sLogA (.slice ao1 l1.length cap1) l1 (Reads.old S1.out) (by omega)).mono ?_
          rintro e w4 ⟨rfl, h4⟩
          have H4 : Hid (Two w b b2 2 w4) := Lib.hid ⟨_, _, ht.out.1, ht.out.2.1, ht.out.2.2, h4.up2⟩
          clear h4 H3
          go_wp2_with fail
          go_meet
          exact H4.out
        · have H4 : Hid (Two w b b2 2 wc) := Lib.hid ⟨d, r, hl, hi.le (by omega), hr, h⟩
          clear hl hi hr h H5
          go_wp2_with fail
          go_meet
          exact H4.out
      case rest =>
        clear H5
        obtain ⟨d, r, hl, hi, hr, h⟩ := hcut
        have HO := Lib.hid (opened_any h hl hi (by omega) (by rw [hr]; omega))
        have HB := Lib.hid h.old
        clear hl hi hr h
        go_wp2_with fail
        refine HO.out.mono ?_
        rintro e w6 ⟨p1, p2, rfl, hb6⟩
        have HB6 := Lib.hid hb6
        clear hb6 HO
        go_wp2_with fail
        refine (known_any _).mono ?_
        rintro e w7 ⟨rfl, hb7⟩
        have HF : Hid (Below w.heap.size w w7) := Lib.hid (HB6.out.trans (hb7.mono HB6.out.size))
        clear hb7
        go_wp2
        go_ret
        exact ⟨rfl, HF.out⟩
end Go.Proofs.YtkbfjgmgckbogaaGreat.ledgerDisks
