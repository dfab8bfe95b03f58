/-
  Append of chapter 5: an entry more.
-/
import Derived.Test.YtkbfjgmgckbogaaGreatLedLog
import Derived.Deep.RegionHeld3
import Derived.Deep.RegionLaw
import Derived.Deep.DeepCutAuto
namespace Go.Proofs.YtkbfjgmgckbogaaGreat.Ld
open Go.RowKit L Oct Dsk Fr Kp
/-- a record of a number and bytes -/
def recL (n : Nat) (p : List UInt8) : List UInt8 := encs [(n : Int)] ++ rows [p]
theorem recL_length (n : Nat) (p : List UInt8) (hp : p.length ≤ 4611686018427387904) : (recL n p).length ≤ p.length + 18 := by
  have h1 := encs_length [(n : Int)]
  have h2 : (rows [p]).length ≤ p.length + 9 := by
    have e : rows [p] = enc p.length ++ p := by simp [rows, row]
    rw [e, List.length_append]
    have := enc_le9 hp; omega
  unfold recL
  rw [List.length_append]
  simp at h1
  omega
theorem recL_eq (n : Nat) (p : List UInt8) : encs [(n : Int)] ++ rows [p] = recL n p := rfl
theorem recL_room (n : Nat) (p : List UInt8) (hp : p.length ≤ 1000000) : ([] ++ encs [(n : Int)]).length + (rows [p]).length + 9 ≤ 140737488355328 := by
  have h := recL_length n p (by omega)
  rw [← recL_eq, List.length_append] at h
  rw [List.nil_append]
  omega
theorem dead_same {g : Lg} (h : g.dead = false) : ({ g with dead := g.dead || !decide (0 = 0) } : Lg) = g := by
  obtain ⟨pre, base, data, ents, dead⟩ := g
  have : dead = false := h
  subst this; rfl
theorem dead_now {g : Lg} {m : Nat} (h : m ≠ 0) : ({ g with dead := g.dead || !decide (m = 0) } : Lg) = { g with dead := true } := by
  have e : (g.dead || !decide (m = 0)) = true := by simp [h]
  rw [e]
def putE (d : D) (g : Lg) (p : List UInt8) : D × Nat :=
  if (d.append (logN g.pre) (rec_ (recL (g.last + 1) p))).2 = 0 then (d.append (logN g.pre) (rec_ (recL (g.last + 1) p))).1.sync [logN g.pre] else d.append (logN g.pre) (rec_ (recL (g.last + 1) p))
/-- the disk, the ledger, the number, the error -/
def appendL (d : D) (g : Lg) (p : List UInt8) : D × Lg × Nat × Nat :=
  if g.dead then (d, g, 0, 9)
  else if 65536 < p.length ∨ 1099511627776 ≤ g.last then (d, g, 0, 5)
  else if (putE d g p).2 = 0 then ((putE d g p).1, { g with ents := g.ents ++ [p] }, g.last + 1, 0)
  else ((putE d g p).1, { g with dead := true }, 0, (putE d g p).2)
section
variable {W0 w : World} {R : Asrt} {lb b n : Nat} {g : Lg} {d : D}
def RetApp2 (W0 : World) (R : Asrt) (lb b : Nat) (y : D × Lg × Nat × Nat) (e : Ending) (w' : World) : Prop :=
  e = .returned (.tuple #[.int .i64 y.2.2.1, .int .i64 y.2.2.2]) ∧ Hold W0 ((LedgA lb b y.2.1).sep ((DiskA b y.1).sep R)) w'
set_option maxRecDepth 1000000 in
set_option maxHeartbeats 3200000 in
theorem appendL_any (H : Hold W0 ((LedgA lb b g).sep ((DiskA b d).sep R)) w) (hg : GOk g) (hln : g.ents.length + 1 ≤ 1048576) (hi : DInv d n) (v : Value) (p : List UInt8) (hv : Reads W0 R 1 v p.length (u8s p)) (hpl : p.length ≤ 1073741824) :
    Calls Tryz.prog 22 #[ptr lb, v] w (RetApp2 W0 R lb b (appendL d g p)) := by
  have hsl := (hv.at H.drop1.drop1).run_len Tryz.underlying22
  obtain ⟨aov, capv, rfl⟩ : ∃ ao cap, v = .slice ao p.length cap := by
    obtain ⟨_, ao, cap, e, _⟩ := hv.at H.drop1.drop1
    exact ⟨ao, cap, e⟩
  have HV := Lib.hid hv
  have HG := Lib.hid hg
  have HI := Lib.hid hi
  have HLn := Lib.hid hln
  have HH := Lib.hid H
  have hgl : g.last ≤ 1099512676352 := by unfold Lg.last; have := hg.base; have := hg.len; omega
  obtain ⟨dv, ev, vs, h1⟩ := led_open H
  have k5 := blk_cell h1.blk 5
  clear H hg hi hv hln h1
  unfold ptr
  cases hd : g.dead with
  | true =>
    have he : Hid (appendL d g p = (d, g, 0, 9)) := Lib.hid (by rw [appendL, if_pos hd])
    rw [hd] at k5
    clear hd
    go_enter Tryz.func22, Tryz.ntmps22
    go_wp2
    go_ret2
    rw [he.out]
    exact ⟨rfl, HH.out⟩
  | false =>
    rw [hd] at k5
    have Hde := Lib.hid hd
    clear hd
    by_cases hlong : 65536 < p.length
    · have he : Hid (appendL d g p = (d, g, 0, 5)) := Lib.hid (by rw [appendL, if_neg (by rw [Hde.out]; simp), if_pos (.inl hlong)])
      have g1 : decide ((65536 : Int) < (p.length : Int)) = true := by simp; omega
      clear hlong
      go_enter Tryz.func22, Tryz.ntmps22
      go_wp2
      go_ret2
      rw [he.out]
      exact ⟨rfl, HH.out⟩
    · have g1 : decide ((65536 : Int) < (p.length : Int)) = false := by simp; omega
      by_cases hmost : 1099511627776 ≤ g.last
      · have he : Hid (appendL d g p = (d, g, 0, 5)) := Lib.hid (by rw [appendL, if_neg (by rw [Hde.out]; simp), if_pos (.inr hmost)])
        have g2 : decide ((1099511627776 : Int) ≤ (g.last : Int)) = true := by simp; omega
        clear hmost hlong
        go_enter Tryz.func22, Tryz.ntmps22
        go_wp2_with (go_at_call 25; refine (last_any HH.out HG.out).mono ?_; rintro e w5 ⟨rfl, n5, rfl⟩)
        go_ret2
        rw [he.out]
        exact ⟨rfl, HH.out.keeps (below_drewN (Below.refl _ _) _)⟩
      · have g2 : decide ((1099511627776 : Int) ≤ (g.last : Int)) = false := by simp; omega
        have HA : Hid (appendL d g p = if (putE d g p).2 = 0 then ((putE d g p).1, { g with ents := g.ents ++ [p] }, g.last + 1, 0) else ((putE d g p).1, { g with dead := true }, 0, (putE d g p).2)) := Lib.hid (by
          rw [appendL, if_neg (by rw [Hde.out]; simp), if_neg (fun h => h.elim hlong hmost)])
        have HPl : Hid (p.length ≤ 65536) := Lib.hid (by omega)
        clear hmost hlong
        go_enter Tryz.func22, Tryz.ntmps22
        go_wp2_with fail
        refine (last_any HH.out HG.out).mono ?_
        rintro e w5 ⟨rfl, n5, hw5⟩
        have h5 := HH.out.keeps (w' := w5) (by rw [hw5]; exact below_drewN (Below.refl _ _) _)
        have h6 := addWr h5 (b := w5.heap.size) rfl
        have H6 := Lib.hid h6
        clear h5 h6 HH hw5 k5
        go_wp2_with fail
        refine (last_any H6.out.up2 HG.out).mono ?_
        rintro e w7 ⟨rfl, n7, hw7⟩
        have h7 := H6.out.keeps (w' := w7) (by rw [hw7]; exact below_drewN (Below.refl _ _) _)
        have H7 := Lib.hid ((h7.addLits [.int .i64 ((g.last + 1 : Nat) : Int)] 3 (by simp [maxLen]) (b := w7.heap.size) rfl).up2)
        clear h7 H6 hw7
        go_wp2_with fail
        refine (nums_any H7.out _ [((g.last + 1 : Nat) : Int)] Reads.row (by intro z hz; simp at hz; subst hz; omega) (by simp)).mono ?_
        rintro e w8 ⟨rfl, h8⟩
        have h9 := h8.up2.drop1
        have H9 := Lib.hid ((h9.addLits [.slice aov p.length capv] 22 (by simp [maxLen]) (b := w8.heap.size) rfl).up2)
        clear H7 h8 h9
        go_wp2_with fail
        refine (wbytes_any H9.out _ [.slice aov p.length capv] [p] (readsRows_one HV.out.under.under) (recL_room _ p (by have := HPl.out; omega))).mono ?_
        rintro e w10 ⟨rfl, h10⟩
        have h11 := h10.up2.drop1
        rw [List.nil_append, recL_eq] at h11
        obtain ⟨X, hX⟩ : ∃ X, X = recL (g.last + 1) p := ⟨_, rfl⟩
        have hXl : X.length ≤ 70000 := by rw [hX]; exact Nat.le_trans (recL_length (g.last + 1) p (by have := HPl.out; omega)) (by have := HPl.out; omega)
        rw [← hX] at h11
        have HX := Lib.hid hX
        have H11 := Lib.hid h11
        clear H9 h10 h11 hX
        go_wp2_with fail
        refine (out_any H11.out (by omega)).mono ?_
        rintro e w12 ⟨v12, rfl, ho12, hb12⟩
        have H12 := Lib.hid ((H11.out.addRow hb12 ho12).up2.drop1)
        have Hs12 := Lib.hid (rowsLit [v12] [X] 22 rfl (by simp) (fun i hi => by
          have : i = 0 := by simpa using hi
          subst this; exact ho12.sl) (b := w12.heap.size) rfl)
        have H13 : Hid (Hold W0 ((LedgA lb b g).sep ((DiskA b d).sep R)) (w12.alloc (.cells #[v12] 22))) := Lib.hid (H12.out.drop1.keeps ((Below.refl _ _).alloc (Nat.le_refl _) _))
        obtain ⟨ao12, cap12, rfl⟩ := ho12.shape
        clear ho12 hb12 H11 H12
        go_wp2_with fail
        refine (encode_any _ [X] _ Hs12.out (by simp) (by simp; omega)).mono ?_
        rintro e w14 ⟨v14, rfl, ho14, hb14⟩
        rw [show [X].flatten = X from by simp] at ho14
        have H14 := Lib.hid (H13.out.addRow hb14 ho14)
        obtain ⟨ao14, cap14, rfl⟩ := ho14.shape
        have hrl : (rec_ X).length ≤ 80000 := by rw [rec_length]; omega
        clear ho14 hb14 H13 Hs12
        have hp0 : putE d g p = if (d.append (logN g.pre) (rec_ X)).2 = 0 then (d.append (logN g.pre) (rec_ X)).1.sync [logN g.pre] else d.append (logN g.pre) (rec_ X) := by rw [putE, ← HX.out]
        have HP0 := Lib.hid hp0
        obtain ⟨m1, hm1⟩ : ∃ m1, m1 = (d.append (logN g.pre) (rec_ X)).2 := ⟨_, rfl⟩
        obtain ⟨d1, hd1⟩ : ∃ d1, d1 = (d.append (logN g.pre) (rec_ X)).1 := ⟨_, rfl⟩
        have e1 : d.append (logN g.pre) (rec_ X) = (d1, m1) := by rw [hm1, hd1]
        have HI1 := Lib.hid (HI.out.append (logN g.pre) (rec_ X))
        rw [← hd1] at HI1
        rw [e1] at HP0
        have E1 := Lib.hid e1
        have Hq := Lib.hid H14.out.up2.drew
        have k0 := led_ptr H14.out.up2
        have m0 := World.new_ne _ _ k0
        have hn1 : Calls Tryz.prog 47 #[.pointer (some ⟨lb, 0, none⟩)] _ _ := logName_any H14.out.up2.drew HG.out
        have hn2 : Calls Tryz.prog 47 #[.pointer (some ⟨lb, 0, none⟩)] _ _ := logName_any ((H14.out.up2.keeps ((Below.refl _ _).alloc (Nat.le_refl _) (.cells #[.slice ao14 (rec_ X).length cap14] 22))).drew) HG.out
        have HN1 := Lib.hid hn1
        have HN2 := Lib.hid hn2
        clear hp0 hm1 hd1 e1 hn1 hn2
        go_upto_region 12 with fail
        go_cut [8] (fun s8 wc => s8 = .int .i64 m1 ∧ Hold W0 ((LedgA lb b g).sep ((DiskA b d1).sep R)) wc)
        case first =>
          go_region_held3 (fun w' => w'.cell? ⟨lb, 0, none⟩ = some (.pointer (some ⟨b, 0, none⟩))) (first | exact hS5 | go_keep)
            (first
              | (go_at_call 47; first | ((with_reducible refine HN1.out.mono ?_); rintro e w4 ⟨rfl, rfl⟩) | ((with_reducible refine HN2.out.mono ?_); rintro e w4 ⟨rfl, rfl⟩))
              | (go_at_call 6; refine (append_lit Hq.out.up3 rfl HI.out.ok (logN g.pre) _ (rec_ X) (fun w2 h2 => h2.up2.sl) (by omega)).mono ?_; rintro e w16 ⟨rfl, H5⟩; rw [E1.out] at H5 ⊢; have hS5 : w16.cell? ⟨lb, 0, none⟩ = some (.pointer (some ⟨b, 0, none⟩)) := led_ptr H5.up2))
          all_goals
            have HF : Hid (Hold W0 ((LedgA lb b g).sep ((DiskA b d1).sep R)) w16) := Lib.hid H5.up3.drop1.up2
            clear H5 hS5
            go_wp2_with fail
            go_meet
            exact ⟨rfl, HF.out⟩
        case rest =>
          obtain ⟨rfl, h17⟩ := hcut
          have H17 := Lib.hid h17
          clear h17 Hq k0 m0 H14
          by_cases hm1 : m1 = 0
          · subst hm1
            have hp1 := HP0.out.trans (if_pos rfl)
            obtain ⟨m2, hm2⟩ : ∃ m2, m2 = (d1.sync [logN g.pre]).2 := ⟨_, rfl⟩
            obtain ⟨d2, hd2⟩ : ∃ d2, d2 = (d1.sync [logN g.pre]).1 := ⟨_, rfl⟩
            have e2 : d1.sync [logN g.pre] = (d2, m2) := by rw [hm2, hd2]
            have HP2 : Hid (putE d g p = (d2, m2)) := Lib.hid (hp1.trans e2)
            have E2 := Lib.hid e2
            have Hq := Lib.hid H17.out.drew
            have k0 := led_ptr H17.out
            have m0 := World.new_ne _ _ k0
            clear hp1 hm2 hd2 e2 H17
            go_upto_region 14 with fail
            go_cut [8] (fun s8 wc => s8 = .int .i64 m2 ∧ Hold W0 ((LedgA lb b g).sep ((DiskA b d2).sep R)) wc)
            case first =>
              go_region_held3 (fun w' => w'.cell? ⟨lb, 0, none⟩ = some (.pointer (some ⟨b, 0, none⟩))) (first | exact hS5 | go_keep)
                (first
                  | (go_at_call 47; refine (logName_any Hq.out HG.out).mono ?_; rintro e w4 ⟨rfl, rfl⟩)
                  | (go_at_call 48; refine (sync_lit Hq.out.up2 rfl HI1.out.ok.left (logN g.pre)).mono ?_; rintro e w16 ⟨rfl, H5⟩; rw [E2.out] at H5 ⊢; have hS5 : w16.cell? ⟨lb, 0, none⟩ = some (.pointer (some ⟨b, 0, none⟩)) := led_ptr H5.up2))
              all_goals
                have HF : Hid (Hold W0 ((LedgA lb b g).sep ((DiskA b d2).sep R)) w16) := Lib.hid H5.up2
                clear H5 hS5
                go_wp2_with fail
                go_meet
                exact ⟨rfl, HF.out⟩
            case rest =>
              obtain ⟨rfl, h18⟩ := hcut
              have H18 := Lib.hid h18
              clear h18 Hq k0 m0
              go_wp2_with fail
              refine (dies_any H18.out m2).mono ?_
              rintro e w20 ⟨rfl, h20⟩
              by_cases hm : m2 = 0
              · subst hm
                have hg2 : ({ g with dead := g.dead || !decide (0 = 0) } : Lg) = g := dead_same Hde.out
                rw [hg2] at h20
                have hres : Hid (appendL d g p = (d2, { g with ents := g.ents ++ [p] }, g.last + 1, 0)) := Lib.hid (by rw [HA.out, HP2.out, if_pos rfl])
                obtain ⟨dv2, ev2, vs2, h21⟩ := led_open h20.drew
                have h21b : Hold W0 ((Row 22 1 ev2 g.ents.length vs2).sep ((Blk lb #[ptr b, .string g.pre, .int .i64 g.base, dv2, ev2, .bool g.dead] 71).sep ((Inner vs2 g.ents).sep ((Row 5 1 dv2 g.data.length (u8s g.data)).sep ((DiskA b d2).sep R))))) w20.drew := h21.perm (by ac_rfl)
                have d4 : w20.drew.cell? ⟨lb, 4, none⟩ = some ev2 := blk_cell h21b.up2.blk 4
                have H21 := Lib.hid h21b
                have hvp := HV.out.at h20.drew.drop1.drop1
                have hln2 := HLn.out
                have hpp := HPl.out
                clear h20 h21 h21b hg2 H18
                go_upto_region 17 with fail
                go_cut [] (fun wc => Hold W0 ((LedgA lb b { g with ents := g.ents ++ [p] }).sep ((DiskA b d2).sep R)) wc)
                case first =>
                  go_region_law
                    (first
                      | (rw [if_pos (by rfl)]; go_simp; go_at_call 50; refine (clone_any _ p _ hvp (by omega)).mono ?_; rintro e w22 ⟨v22, rfl, ho22, hb22⟩; obtain ⟨ao22, cap22, rfl⟩ := ho22.shape; have h23 : Hold W0 ((Row 22 1 ev2 g.ents.length vs2).sep ((Blk lb #[ptr b, .string g.pre, .int .i64 g.base, dv2, ev2, .bool g.dead] 71).sep ((Row 5 1 (.slice ao22 p.length cap22) p.length (u8s p)).sep ((Inner vs2 g.ents).sep ((Row 5 1 dv2 g.data.length (u8s g.data)).sep ((DiskA b d2).sep R)))))) w22 := (H21.out.addRow hb22 ho22).perm (by ac_rfl); have e4 : w22.cell? ⟨lb, 4, none⟩ = some ev2 := blk_cell h23.up2.blk 4; have h24 := h23.addLit (.slice ao22 p.length cap22) 22; have hsl24 := h24.sl; have H24 := Lib.hid h24.up2; have f4 : (w22.alloc (.cells #[.slice ao22 p.length cap22] 22)).cell? ⟨lb, 4, none⟩ = some ev2 := blk_cell h24.up3.blk 4; clear h23 h24 ho22 hb22)
                      | (refine step_app elR H24.out ?_ (.tmp 70) (.tmp 73) ?_ ?_ ?_ hsl24 (by simp [Value.oneCell']) (by omega) (by omega) ?_; (any_goals rfl); intro v25 ys25 w25 Y25 h25; rw [Y25.out] at h25; obtain ⟨ao25, cap25, rfl⟩ := h25.own.shape; obtain ⟨c25, f25, h26⟩ := ent_put h25.up2.drop1 rfl; have H26 := Lib.hid h26; clear h25 h26)
                      | fail)
                  all_goals
                    go_wp2_with fail
                    go_meet
                    exact H26.out
                case rest =>
                  have H27 := Lib.hid hcut
                  have HG2 : Hid (GOk { g with ents := g.ents ++ [p] }) := Lib.hid ⟨HG.out.pre, HG.out.base, by show (g.ents ++ [p]).length ≤ _; simp; omega, HG.out.data, by
                    intro x hx
                    rcases List.mem_append.1 hx with hx | hx
                    · exact HG.out.ent x hx
                    · have : x = p := by simpa using hx
                      subst this; omega⟩
                  have hl2 : Hid (({ g with ents := g.ents ++ [p] } : Lg).last = g.last + 1) := Lib.hid (by show g.base + (g.ents ++ [p]).length = g.base + g.ents.length + 1; simp; omega)
                  clear hcut d4 H21 hvp
                  go_wp2_with fail
                  refine (last_any H27.out HG2.out).mono ?_
                  rintro e w28 ⟨rfl, n28, hw28⟩
                  have H28 := Lib.hid (H27.out.keeps (w' := w28) (by rw [hw28]; exact below_drewN (Below.refl _ _) _))
                  rw [hl2.out]
                  clear hw28 H27
                  go_wp2
                  go_ret2
                  rw [hres.out]
                  exact ⟨rfl, H28.out⟩
              · have hg2 : ({ g with dead := g.dead || !decide (m2 = 0) } : Lg) = { g with dead := true } := dead_now hm
                rw [hg2] at h20
                have hres : Hid (appendL d g p = (d2, { g with dead := true }, 0, m2)) := Lib.hid (by rw [HA.out, HP2.out, if_neg hm])
                have q0 : ((m2 : Int) == 0) = false := by rw [beq_eq_false_iff_ne]; omega
                have q1 : ((m2 : Int) != 0) = true := by simp; omega
                have HF := Lib.hid h20
                clear hm h20 hg2 H18
                go_wp2
                go_ret2
                rw [hres.out]
                exact ⟨rfl, HF.out⟩
          · have HP1 := Lib.hid (HP0.out.trans (if_neg hm1))
            have r0 : ((m1 : Int) == 0) = false := by rw [beq_eq_false_iff_ne]; omega
            have r1 : ((m1 : Int) != 0) = true := by simp; omega
            clear hm1
            go_wp2_with fail
            refine (dies_any H17.out m1).mono ?_
            rintro e w20 ⟨rfl, h20⟩
            by_cases hm : m1 = 0
            · subst hm
              have hg2 : ({ g with dead := g.dead || !decide (0 = 0) } : Lg) = g := dead_same Hde.out
              rw [hg2] at h20
              have hres : Hid (appendL d g p = (d1, { g with ents := g.ents ++ [p] }, g.last + 1, 0)) := Lib.hid (by rw [HA.out, HP1.out, if_pos rfl])
              obtain ⟨dv2, ev2, vs2, h21⟩ := led_open h20.drew
              have h21b : Hold W0 ((Row 22 1 ev2 g.ents.length vs2).sep ((Blk lb #[ptr b, .string g.pre, .int .i64 g.base, dv2, ev2, .bool g.dead] 71).sep ((Inner vs2 g.ents).sep ((Row 5 1 dv2 g.data.length (u8s g.data)).sep ((DiskA b d1).sep R))))) w20.drew := h21.perm (by ac_rfl)
              have d4 : w20.drew.cell? ⟨lb, 4, none⟩ = some ev2 := blk_cell h21b.up2.blk 4
              have H21 := Lib.hid h21b
              have hvp := HV.out.at h20.drew.drop1.drop1
              have hln2 := HLn.out
              have hpp := HPl.out
              clear h20 h21 h21b hg2 H17
              go_upto_region 17 with fail
              go_cut [] (fun wc => Hold W0 ((LedgA lb b { g with ents := g.ents ++ [p] }).sep ((DiskA b d1).sep R)) wc)
              case first =>
                go_region_law
                  (first
                    | (rw [if_pos (by rfl)]; go_simp; go_at_call 50; refine (clone_any _ p _ hvp (by omega)).mono ?_; rintro e w22 ⟨v22, rfl, ho22, hb22⟩; obtain ⟨ao22, cap22, rfl⟩ := ho22.shape; have h23 : Hold W0 ((Row 22 1 ev2 g.ents.length vs2).sep ((Blk lb #[ptr b, .string g.pre, .int .i64 g.base, dv2, ev2, .bool g.dead] 71).sep ((Row 5 1 (.slice ao22 p.length cap22) p.length (u8s p)).sep ((Inner vs2 g.ents).sep ((Row 5 1 dv2 g.data.length (u8s g.data)).sep ((DiskA b d1).sep R)))))) w22 := (H21.out.addRow hb22 ho22).perm (by ac_rfl); have e4 : w22.cell? ⟨lb, 4, none⟩ = some ev2 := blk_cell h23.up2.blk 4; have h24 := h23.addLit (.slice ao22 p.length cap22) 22; have hsl24 := h24.sl; have H24 := Lib.hid h24.up2; have f4 : (w22.alloc (.cells #[.slice ao22 p.length cap22] 22)).cell? ⟨lb, 4, none⟩ = some ev2 := blk_cell h24.up3.blk 4; clear h23 h24 ho22 hb22)
                    | (refine step_app elR H24.out ?_ (.tmp 70) (.tmp 73) ?_ ?_ ?_ hsl24 (by simp [Value.oneCell']) (by omega) (by omega) ?_; (any_goals rfl); intro v25 ys25 w25 Y25 h25; rw [Y25.out] at h25; obtain ⟨ao25, cap25, rfl⟩ := h25.own.shape; obtain ⟨c25, f25, h26⟩ := ent_put h25.up2.drop1 rfl; have H26 := Lib.hid h26; clear h25 h26)
                    | fail)
                all_goals
                  go_wp2_with fail
                  go_meet
                  exact H26.out
              case rest =>
                have H27 := Lib.hid hcut
                have HG2 : Hid (GOk { g with ents := g.ents ++ [p] }) := Lib.hid ⟨HG.out.pre, HG.out.base, by show (g.ents ++ [p]).length ≤ _; simp; omega, HG.out.data, by
                  intro x hx
                  rcases List.mem_append.1 hx with hx | hx
                  · exact HG.out.ent x hx
                  · have : x = p := by simpa using hx
                    subst this; omega⟩
                have hl2 : Hid (({ g with ents := g.ents ++ [p] } : Lg).last = g.last + 1) := Lib.hid (by show g.base + (g.ents ++ [p]).length = g.base + g.ents.length + 1; simp; omega)
                clear hcut d4 H21 hvp
                go_wp2_with fail
                refine (last_any H27.out HG2.out).mono ?_
                rintro e w28 ⟨rfl, n28, hw28⟩
                have H28 := Lib.hid (H27.out.keeps (w' := w28) (by rw [hw28]; exact below_drewN (Below.refl _ _) _))
                rw [hl2.out]
                clear hw28 H27
                go_wp2
                go_ret2
                rw [hres.out]
                exact ⟨rfl, H28.out⟩
            · have hg2 : ({ g with dead := g.dead || !decide (m1 = 0) } : Lg) = { g with dead := true } := dead_now hm
              rw [hg2] at h20
              have hres : Hid (appendL d g p = (d1, { g with dead := true }, 0, m1)) := Lib.hid (by rw [HA.out, HP1.out, if_neg hm])
              have q0 : ((m1 : Int) == 0) = false := by rw [beq_eq_false_iff_ne]; omega
              have q1 : ((m1 : Int) != 0) = true := by simp; omega
              have HF := Lib.hid h20
              clear hm h20 hg2 H17
              go_wp2
              go_ret2
              rw [hres.out]
              exact ⟨rfl, HF.out⟩
end
end Go.Proofs.YtkbfjgmgckbogaaGreat.Ld
