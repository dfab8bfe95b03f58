/-
  KeepPlays: of every script each answer, and all files, byte by byte, burnt fuses too; where what comes in is of bulk at most 1048576.
-/
import Derived.Test.YtfkingloapohjaaHeavyK
import Derived.Test.YtfkingloapohjaaRClear
import Derived.Test.YtfkingloapohjaaKeepKnown
import Derived.Test.YtfkingloapohjaaF6
import Derived.Test.YtfkingloapohjaaDiskCrash
import Derived.Test.YtfkingloapohjaaRefCrash
import Derived.Test.YtfkingloapohjaaStep
import Derived.Deep.RegionHeld3
import Derived.Deep.DeepCutAuto
import Derived.Deep.CutBlock
namespace Go.Proofs.Ytfkingloapohjaa.keepPlays
open Go.RowKit L Oct Dsk Fr Kp
def KBoth (W0 : World) (b b2 n : Nat) (w' : World) : Prop := ∃ d' r', Like d' r' ∧ DInv d' n ∧ Hold W0 ((DiskA b d').sep ((RefA b2 r').sep Asrt.emp)) w'
def PlayRel (W0 : World) (l : List Stp) (b b2 : Nat) (s9 : Value) (wr : World) : Prop := ∃ (k : Nat), s9 = .int .i64 k ∧ k ≤ l.length ∧ k ≤ 80 ∧ KBoth W0 b b2 k wr
theorem cell_next3 {w w' : World} {p : Addr} {v : Value} (hb : Below w.heap.size w w') (h : w.cell? p = some v) : w'.cell? p = some v := (hb.cell (World.block_lt_of_cell? w _ h)).trans h
def StK (W0 : World) (b b2 : Nat) (d : D) (r : RD) (v1 : Value) (wr : World) : Prop := Hold W0 ((Row 9 1 v1 (nms r.fs).length (strs (nms r.fs))).sep ((DiskA b d).sep ((RefA b2 r).sep Asrt.emp))) wr
theorem nms_get {fs : List AF} {k : Nat} (hk : k < fs.length) : (nms fs).getD k ByteArray.empty = (fs.getD k default).name := by
  simp [nms, List.getD, hk]
theorem read_at {fs : List AF} (h : Srt fs) {k : Nat} (hk : k < fs.length) : isAt fs (fs.getD k default).name = true ∧ fs.getD (spotN fs (fs.getD k default).name) default = fs.getD k default := by
  have hg := srt_get h (fs.getD k default).name
  rw [getF_mem (srt_nd h) (by simp [List.getD, hk])] at hg
  cases ha : isAt fs (fs.getD k default).name with
  | false => rw [ha] at hg; simp at hg
  | true =>
    rw [ha, if_pos rfl] at hg
    exact ⟨rfl, (Option.some.inj hg).symm⟩
theorem to_end {W0 w : World} {R X : Asrt} {b b2 : Nat} {d : D} {r : RD} (h : Hold W0 ((DiskA b d).sep ((RefA b2 r).sep (X.sep R))) w) : Hold W0 ((DiskA b d).sep ((RefA b2 r).sep R)) w := by
  have h2 : Hold W0 (X.sep ((DiskA b d).sep ((RefA b2 r).sep R))) w := h.perm (by ac_rfl)
  exact h2.drop1
set_option maxRecDepth 1000000 in
set_option maxHeartbeats 3200000 in
theorem walk {w : World} (a0 : Int) (_w0 : (Lit.int .i64 a0).wf = true) (v1 : Value) (l1 : List Stp) (h1 : Sl w 6 v1 l1.length (stps l1)) (_b1 : l1.length ≤ 140737488351232) (i1 : ∀ c ∈ l1, StpIn w c) :
    Calls Try.prog 6 #[.int .i64 a0, v1] w fun e w' => e = .returned (.bool true) ∧ Below w.heap.size w w' := by
  have hlen := h1.run_len Try.underlying41
  have HS := Lib.hid h1
  have Hi := Lib.hid i1
  clear h1 i1
  by_cases hneg : a0 < 0 ∨ 1048576 < a0
  · have hn1 : a0 < 0 ∨ (¬ a0 < 0 ∧ 1048576 < a0) := by omega
    clear hneg
    rcases hn1 with hn1 | ⟨hn0, hn1⟩
    · have g1 : decide (a0 < 0) = true := by simpa using hn1
      go_enter Try.func6, Try.ntmps6
      go_wp2_with fail
      refine (heavyK_any _ l1 w HS.out Hi.out).mono ?_
      rintro e w1 ⟨bh, rfl, hb1⟩
      have HB1 := Lib.hid hb1
      clear hb1
      cases bh
      all_goals
        go_wp2_with fail
        refine (known_any _).mono ?_
        rintro e w2 ⟨rfl, hb2⟩
        have HF := Lib.hid (HB1.out.trans (hb2.mono HB1.out.size))
        clear hb2
        go_wp2
        go_ret
        exact ⟨rfl, HF.out⟩
    · have g1 : decide (a0 < 0) = false := by simpa using hn0
      have g2 : decide (1048576 < a0) = true := by simpa using hn1
      go_enter Try.func6, Try.ntmps6
      go_wp2_with fail
      refine (heavyK_any _ l1 w HS.out Hi.out).mono ?_
      rintro e w1 ⟨bh, rfl, hb1⟩
      have HB1 := Lib.hid hb1
      clear hb1
      cases bh
      all_goals
        go_wp2_with fail
        refine (known_any _).mono ?_
        rintro e w2 ⟨rfl, hb2⟩
        have HF := Lib.hid (HB1.out.trans (hb2.mono HB1.out.size))
        clear hb2
        go_wp2
        go_ret
        exact ⟨rfl, HF.out⟩
  · obtain ⟨rm, hrm⟩ : ∃ rm : Nat, a0 = rm := ⟨a0.toNat, by omega⟩
    subst hrm
    have g1 : decide ((rm : Int) < 0) = false := by simp
    have g2 : decide ((1048576 : Int) < (rm : Int)) = false := by simp; omega
    have Hrm : Hid (rm ≤ 1048576) := Lib.hid (by omega)
    clear hneg
    go_enter Try.func6, Try.ntmps6
    go_wp2_with fail
    refine (heavyK_any _ l1 w HS.out Hi.out).mono ?_
    rintro e w1 ⟨bh, rfl, hb1⟩
    have HB1 := Lib.hid hb1
    clear hb1
    cases bh with
    | true =>
      go_wp2_with fail
      refine (known_any _).mono ?_
      rintro e w2 ⟨rfl, hb2⟩
      have HF := Lib.hid (HB1.out.trans (hb2.mono HB1.out.size))
      clear hb2
      go_wp2
      go_ret
      exact ⟨rfl, HF.out⟩
    | false =>
      go_wp2_with fail
      refine (new_ok ((Hold.start w).keeps HB1.out) rm (by have := Hrm.out; omega)).mono ?_
      rintro e w2 ⟨_, rfl, b, rfl, h2⟩
      unfold ptr
      go_wp2_with fail
      refine (xnew_ok h2 rm (by have := Hrm.out; omega)).mono ?_
      rintro e w3 ⟨_, rfl, b2, rfl, h3⟩
      unfold ptr
      have hP : PlayRel w l1 b b2 (.int .i64 0) w3 :=
        ⟨0, rfl, Nat.zero_le _, Nat.zero_le _, ⟨rm, [], false, 0⟩, ⟨rm, [], -1⟩, ⟨rfl, .nil, .nil, rfl⟩, ⟨⟨by have := Hrm.out; show rm ≤ _; omega, Nat.zero_le _, Nat.zero_le _, fun f hf => by cases hf⟩, Nat.le_refl _, (fun f hf => by cases hf), .nil⟩, h3.up2⟩
      have HP := Lib.hid hP
      clear h2 h3 hP HB1
      go_wp2_with fail
      go_loopw [9] (fun s9 wr => PlayRel w l1 b b2 s9 wr) (fun s9 _ => 80 - (intOf s9).toNat)
      case atStart => exact HP.out
      case round =>
        clear HP
        obtain ⟨k, rfl, hk, hk2, d, r, hl, hi, H⟩ := hrel
        have HL := Lib.hid hl
        have HI := Lib.hid hi
        have HH := Lib.hid H
        clear hl hi H
        by_cases hgo : k < l1.length ∧ k < 80
        · obtain ⟨hlt, h80⟩ := hgo
          have g3 : decide ((k : Int) < 80) = true := by simp; omega
          obtain ⟨A, c, hA, hcells, Hc⟩ := (HS.out.below' HH.out.old).atK k hlt
          have hin := Hi.out c (by rw [Hc.out]; simp [List.getD, hlt])
          obtain ⟨kd, num, name, av, bv, sv, la, lb, stay⟩ := c
          have Hin := Lib.hid hin
          obtain ⟨aa, ca, rfl⟩ : ∃ ao cap, av = .slice ao la.length cap := by
            obtain ⟨_, _, _, ⟨_, _, ao, cap, e, _⟩, _⟩ := hin
            exact ⟨ao, cap, e⟩
          obtain ⟨ab, cb, rfl⟩ : ∃ ao cap, bv = .slice ao lb.length cap := by
            obtain ⟨_, _, _, _, ⟨_, _, ao, cap, e, _⟩, _⟩ := hin
            exact ⟨ao, cap, e⟩
          obtain ⟨ay, cy, rfl⟩ : ∃ ao cap, sv = .slice ao stay.length cap := by
            obtain ⟨_, _, _, _, _, ⟨_, ao, cap, e, _⟩, _⟩ := hin
            exact ⟨ao, cap, e⟩
          obtain ⟨c0, c1, c2, c3, c4, c5⟩ := hcells
          dsimp only at c0 c1 c2 c3 c4 c5
          clear hin hk2
          go_upto_block 2 with fail
          obtain ⟨_, ⟨_, hnum⟩, hnsz, ⟨_, sa⟩, ⟨_, sb⟩, ss, hbulk⟩ := Hin.out
          dsimp only at hnum hnsz sa sb ss hbulk
          have SA := Lib.hid sa
          have SB := Lib.hid sb
          have SS := Lib.hid ss
          have Hnum := Lib.hid hnum
          have HBk := Lib.hid hbulk
          clear hnum hnsz sa sb ss hbulk Hin
          have HB := HH.out.addBlk (cs := #[.int .i64 kd, .int .i64 num, .string name, .slice aa la.length ca, .slice ab lb.length cb, .slice ay stay.length cy]) (t := 47) (b := wr.heap.size) rfl
          have x1 := blk_cell HB.blk 1
          have x2 := blk_cell HB.blk 2
          have x3 := blk_cell HB.blk 3
          have x4 := blk_cell HB.blk 4
          have x5 := blk_cell HB.blk 5
          have H1 : Hid (Hold w ((DiskA b d).sep ((RefA b2 r).sep ((Blk wr.heap.size #[.int .i64 kd, .int .i64 num, .string name, .slice aa la.length ca, .slice ab lb.length cb, .slice ay stay.length cy] 47).sep Asrt.emp))) (wr.alloc (.cells #[.int .i64 kd, .int .i64 num, .string name, .slice aa la.length ca, .slice ab lb.length cb, .slice ay stay.length cy] 47))) := Lib.hid (HB.perm (by ac_rfl))
          have HOk := Lib.hid (HL.out.ok HI.out (by omega))
          have HU := Lib.hid (HL.out.usedr HI.out)
          have HLe := Lib.hid HI.out.ok.left
          clear HB c0 c1 c2 c3 c4 c5 hA
          go_cut [11] (fun s11 wc => s11 = .bool true ∧ KBoth w b b2 (k + 1) wc)
          case first =>
            clear hlen g1 g2 g3
            by_cases k1 : kd = 1
            · subst k1
              obtain ⟨hq, hl2⟩ := like_save HL.out name (la ++ lb)
              have HQ := Lib.hid hq
              have HL2 := Lib.hid hl2
              have HI2 := Lib.hid (HI.out.save name (la ++ lb))
              have HDk := Lib.hid HI.out.ok
              have hla : la.length ≤ 1048576 := by have := HBk.out; omega
              have hlb : lb.length ≤ 1048576 := by have := HBk.out; omega
              have HZ : Hid (name.size ≤ 1048576 ∧ ([la, lb] : List (List UInt8)).flatten.length ≤ 1048576 ∧ (la ++ lb).length ≤ 1048576) := Lib.hid (by have := HBk.out; simp; omega)
              have HF2 : Hid (([la, lb] : List (List UInt8)).flatten = la ++ lb) := Lib.hid (by simp)
              have hd := H1.out
              have sa := SA.out.below' hd.old
              have sb := SB.out.below' hd.old
              have r3 := rowsLit2 23 sa sb (b := wr.heap.size + 1) (by simp)
              have h3 := hd.keeps ((Below.refl _ _).alloc (Nat.le_refl _) (.cells #[.slice aa la.length ca, .slice ab lb.length cb] 23))
              have R3 := Lib.hid (r3.below' ((Below.refl _ _).drew))
              have H3 := Lib.hid h3.drew
              have R31 := Lib.hid ((rows_alloc r3 (.cells #[] 5)).below' ((Below.refl _ _).drew))
              have H31 := Lib.hid (h3.addLits [] 5 (Nat.zero_le _) (b := wr.heap.size + 1 + 1) (by simp)).up2.drew
              have he := hd.addLits [] 5 (Nat.zero_le _) (b := wr.heap.size + 1) (by simp)
              have R2 := Lib.hid ((rowsLit2 23 (sl_alloc sa (.cells #[] 5)) (sl_alloc sb (.cells #[] 5)) (b := wr.heap.size + 1 + 1) (by simp)).below' ((Below.refl _ _).drew))
              have H2 := Lib.hid (he.keeps ((Below.refl _ _).alloc (Nat.le_refl _) (.cells #[.slice aa la.length ca, .slice ab lb.length cb] 23))).up2.drew
              have hc3 : Calls Try.prog 10 #[.pointer (some ⟨b, 0, none⟩), .string name, .slice (some ⟨wr.heap.size + 1, 0, none⟩) 2 2] _ (RetApp _ _ b (save d name ([la, lb] : List (List UInt8)).flatten)) := save_any H3.out HDk.out name (by have := HZ.out.1; omega) _ [la, lb] R3.out (by simp) HZ.out.2.1
              have HC3 := Lib.hid hc3
              have hc31 : Calls Try.prog 10 #[.pointer (some ⟨b, 0, none⟩), .string name, .slice (some ⟨wr.heap.size + 1, 0, none⟩) 2 2] _ (RetApp _ _ b (save d name ([la, lb] : List (List UInt8)).flatten)) := save_any H31.out HDk.out name (by have := HZ.out.1; omega) _ [la, lb] R31.out (by simp) HZ.out.2.1
              have HC31 := Lib.hid hc31
              have hc2 : Calls Try.prog 10 #[.pointer (some ⟨b, 0, none⟩), .string name, .slice (some ⟨wr.heap.size + 1 + 1, 0, none⟩) 2 2] _ (RetApp _ _ b (save d name ([la, lb] : List (List UInt8)).flatten)) := save_any H2.out HDk.out name (by have := HZ.out.1; omega) _ [la, lb] R2.out (by simp) HZ.out.2.1
              have HC2 := Lib.hid hc2
              clear x1 x5 hq hl2 H1 hd sa sb he r3 h3 hc3 hc31 hc2 R3 H3 R31 H31 R2 H2
              go_wp2_with fail
              go_region_held3 (fun w' => w'.cell? ⟨wr.heap.size, 2, none⟩ = some (.string name) ∧ w'.cell? ⟨wr.heap.size, 3, none⟩ = some (.slice aa la.length ca) ∧ w'.cell? ⟨wr.heap.size, 4, none⟩ = some (.slice ab lb.length cb)) (first | exact hS8 | exact hS7 | exact hS6 | exact hS5 | go_keep)
                (first
                  | (go_at_call 10; first
                      | ((with_reducible refine HC3.out.mono ?_); rintro e w5 ⟨rfl, H5⟩; rw [HF2.out] at H5 ⊢; have HApp := H5.addLits [] 5 (Nat.zero_le _) (b := w5.heap.size) rfl; have hS5 : w5.cell? ⟨wr.heap.size, 2, none⟩ = some (.string name) ∧ w5.cell? ⟨wr.heap.size, 3, none⟩ = some (.slice aa la.length ca) ∧ w5.cell? ⟨wr.heap.size, 4, none⟩ = some (.slice ab lb.length cb) := ⟨blk_cell H5.up3.blk 2, blk_cell H5.up3.blk 3, blk_cell H5.up3.blk 4⟩; have n2 := World.new_ne w5 _ hS5.1; rw [HQ.out])
                      | ((with_reducible refine HC31.out.mono ?_); rintro e w5 ⟨rfl, H5⟩; rw [HF2.out] at H5 ⊢; have HApp := H5.up2; have hS5 : w5.cell? ⟨wr.heap.size, 2, none⟩ = some (.string name) ∧ w5.cell? ⟨wr.heap.size, 3, none⟩ = some (.slice aa la.length ca) ∧ w5.cell? ⟨wr.heap.size, 4, none⟩ = some (.slice ab lb.length cb) := ⟨blk_cell HApp.up4.blk 2, blk_cell HApp.up4.blk 3, blk_cell HApp.up4.blk 4⟩; rw [HQ.out])
                      | ((with_reducible refine HC2.out.mono ?_); rintro e w5 ⟨rfl, H5⟩; rw [HF2.out] at H5 ⊢; have HApp := H5.up2; have hS5 : w5.cell? ⟨wr.heap.size, 2, none⟩ = some (.string name) ∧ w5.cell? ⟨wr.heap.size, 3, none⟩ = some (.slice aa la.length ca) ∧ w5.cell? ⟨wr.heap.size, 4, none⟩ = some (.slice ab lb.length cb) := ⟨blk_cell HApp.up4.blk 2, blk_cell HApp.up4.blk 3, blk_cell HApp.up4.blk 4⟩; rw [HQ.out]))
                  | (refine wp_app (sx := .tmp 79) el8 HApp _ (by rfl) (by rfl) (by rfl) (SA.out.below' HApp.old) (u8s_one _) (by simp only [List.length_nil]; omega) (by simp only [List.length_nil]; omega) ?_; intro v6 ys6 w6 Y6 H6; rw [Y6.out, List.nil_append, List.length_nil, Nat.zero_add] at H6; have hS6 : w6.cell? ⟨wr.heap.size, 2, none⟩ = some (.string name) ∧ w6.cell? ⟨wr.heap.size, 3, none⟩ = some (.slice aa la.length ca) ∧ w6.cell? ⟨wr.heap.size, 4, none⟩ = some (.slice ab lb.length cb) := ⟨blk_cell H6.up4.blk 2, blk_cell H6.up4.blk 3, blk_cell H6.up4.blk 4⟩)
                  | (refine wp_app (sx := .tmp 82) el8 H6 _ (by rfl) (by rfl) (by rfl) (SB.out.below' H6.old) (u8s_one _) (by omega) (by omega) ?_; intro v7 ys7 w7 Y7 H7; rw [Y7.out, ← u8s_append, ← List.length_append] at H7; have hS7 : w7.cell? ⟨wr.heap.size, 2, none⟩ = some (.string name) ∧ w7.cell? ⟨wr.heap.size, 3, none⟩ = some (.slice aa la.length ca) ∧ w7.cell? ⟨wr.heap.size, 4, none⟩ = some (.slice ab lb.length cb) := ⟨blk_cell H7.up4.blk 2, blk_cell H7.up4.blk 3, blk_cell H7.up4.blk 4⟩)
                  | (go_at_call 19; refine (rsave_any H7.up3 HL.out HI.out (by omega) name (by have := HZ.out.1; omega) v7 (la ++ lb) Reads.row HZ.out.2.2).mono ?_; rintro e w8 ⟨rfl, H8⟩; have hS8 : w8.cell? ⟨wr.heap.size, 2, none⟩ = some (.string name) ∧ w8.cell? ⟨wr.heap.size, 3, none⟩ = some (.slice aa la.length ca) ∧ w8.cell? ⟨wr.heap.size, 4, none⟩ = some (.slice ab lb.length cb) := ⟨blk_cell H8.up4.blk 2, blk_cell H8.up4.blk 3, blk_cell H8.up4.blk 4⟩))
              all_goals
                have HF := Lib.hid (to_end H8.up2.drop1.up2)
                clear H8 hS8
                go_wp2_with fail
                go_meet
                exact ⟨rfl, _, _, HL2.out, HI2.out, HF.out⟩
            by_cases k2 : kd = 2
            · subst k2
              have HQ := Lib.hid (like_load HL.out name)
              have HFit : Hid (∀ f ∈ d.fs, f.data.length ≤ 1073741824) := Lib.hid fun f hf => (HI.out.fit f hf).2
              clear x1 x3 x4 x5
              go_wp2_with fail
              refine (load_any H1.out name HFit.out).mono ?_
              rintro e w5 ⟨v5, rfl, ho5, hb5⟩
              have H5 := Lib.hid (H1.out.addRow hb5 ho5)
              have y2 := blk_cell H5.out.up4.blk 2
              clear ho5 hb5 H1 x2
              go_wp2_with fail
              refine (rload_any H5.out.up3 HU.out name).mono ?_
              rintro e w6 ⟨v6, rfl, ho6, hb6⟩
              have H6 := Lib.hid (H5.out.addRow hb6 ho6)
              have hs6 := H6.out.up2.sl
              rw [HQ.out] at hs6 ⊢
              have HS6 := Lib.hid hs6
              clear ho6 hb6 H5 y2 hs6
              go_wp2_with fail
              refine (same_any v5 v6 (rload r name).1 (rload r name).1 _ HS6.out H6.out.sl).mono ?_
              rintro e w7 ⟨rfl, hb7⟩
              have H7 := Lib.hid (to_end ((H6.out.keeps hb7).drop1.drop1))
              have ht : decide ((rload r name).1 = (rload r name).1) = true := by simp
              rw [ht]
              clear H6 HS6 hb7 ht
              go_wp2_with fail
              go_meet
              exact ⟨rfl, d, r, HL.out, HI.out.le (by omega), H7.out⟩
            by_cases k3 : kd = 3
            · subst k3
              obtain ⟨hq, hl2⟩ := like_clear HL.out name stay
              have HQ := Lib.hid hq
              have HL2 := Lib.hid hl2
              have HI2 := Lib.hid (DInv.clear HI.out name stay)
              have H1d := Lib.hid H1.out.drew
              have HD1 : Hid (d.fs.length ≤ 4096 ∧ (∀ f ∈ d.fs, f.name.size ≤ 1000000) ∧ name.size ≤ 140737488355328) := Lib.hid ⟨by have := HI.out.len; omega, fun f hf => Nat.le_trans (HI.out.names f hf) (by omega), by have := HBk.out; omega⟩
              have m2 := World.new_ne (wr.alloc (.cells #[.int .i64 3, .int .i64 num, .string name, .slice aa la.length ca, .slice ab lb.length cb, .slice ay stay.length cy] 47)) _ x2
              have m5 := World.new_ne (wr.alloc (.cells #[.int .i64 3, .int .i64 num, .string name, .slice aa la.length ca, .slice ab lb.length cb, .slice ay stay.length cy] 47)) _ x5
              clear x1 x3 x4 hq hl2 H1
              go_wp2_with fail
              go_region_held3 (fun w' => w'.cell? ⟨wr.heap.size, 2, none⟩ = some (.string name) ∧ w'.cell? ⟨wr.heap.size, 5, none⟩ = some (.slice ay stay.length cy)) (first | exact hS6 | exact hS5 | go_keep)
                (first
                  | (go_at_call 14; refine (clear_any H1d.out HLe.out HD1.out.1 HD1.out.2.1 name HD1.out.2.2 _ stay (Reads.old SS.out)).mono ?_; rintro e w5 ⟨rfl, H5⟩; have hS5 : w5.cell? ⟨wr.heap.size, 2, none⟩ = some (.string name) ∧ w5.cell? ⟨wr.heap.size, 5, none⟩ = some (.slice ay stay.length cy) := ⟨blk_cell H5.up3.blk 2, blk_cell H5.up3.blk 5⟩; rw [HQ.out])
                  | (go_at_call 21; refine (rclear_any H5.up2 HL.out HI.out (by omega) name HD1.out.2.2 _ stay (Reads.old SS.out)).mono ?_; rintro e w6 ⟨rfl, H6⟩; have hS6 : w6.cell? ⟨wr.heap.size, 2, none⟩ = some (.string name) ∧ w6.cell? ⟨wr.heap.size, 5, none⟩ = some (.slice ay stay.length cy) := ⟨blk_cell H6.up3.blk 2, blk_cell H6.up3.blk 5⟩))
              all_goals
                have HF := Lib.hid (to_end H6.up2)
                clear H5 H6 hS5 hS6
                go_wp2_with fail
                go_meet
                exact ⟨rfl, _, _, HL2.out, HI2.out.le (by omega), HF.out⟩
            by_cases k4 : kd = 4
            · subst k4
              have HA : Hid (∀ f ∈ d.fs, f.lasts ≤ f.data.length ∧ f.data.length ≤ 4611686018427387904) := Lib.hid fun f hf => by have := HI.out.fit f hf; omega
              have HX := Lib.hid (HL.out.fitr HI.out)
              have HLn : Hid (r.fs.length ≤ 4096) := Lib.hid HOk.out.2.2
              have HK : Hid ((0 < num ∧ num = num.toNat) ∨ (num ≤ 0 ∧ num.toNat = 0)) := Lib.hid (by omega)
              have HK2 : Hid (num.toNat ≤ 9223372036854775807) := Lib.hid (by have := Hnum.out; omega)
              clear x2 x3 x4 x5
              go_wp2_with (first
                | (go_at_call 11; refine (crash_any H1.out num Hnum.out HA.out).mono ?_; rintro e w5 ⟨rfl, H5⟩; have y1 := blk_cell H5.up3.blk 1)
                | (go_at_call 22; refine (xcrash_at H5.up2 HLn.out HX.out num num.toNat HK.out HK2.out).mono ?_; rintro e w6 ⟨rfl, H6⟩))
              have HF := Lib.hid (to_end H6.up2)
              clear H5 H6
              go_meet
              exact ⟨rfl, _, _, like_crash HL.out num.toNat, (HI.out.crash num.toNat).le (by omega), HF.out⟩
            by_cases k5 : kd = 5
            · subst k5
              clear x2 x3 x4 x5
              go_wp2_with (first
                | (go_at_call 9; refine (fuse_any H1.out num).mono ?_; rintro e w5 ⟨rfl, H5⟩; have y1 := blk_cell H5.up3.blk 1)
                | (go_at_call 23; refine (xfuse_any H5.up2 num).mono ?_; rintro e w6 ⟨rfl, H6⟩))
              have HF := Lib.hid (to_end H6.up2)
              clear H5 H6
              go_meet
              exact ⟨rfl, _, _, like_fuse HL.out num, (HI.out.fuse num Hnum.out).le (by omega), HF.out⟩
            by_cases k6 : kd = 6
            · subst k6
              obtain ⟨hq, hl2⟩ := like_append HL.out name la
              have HQ := Lib.hid hq
              have HL2 := Lib.hid hl2
              have HI2 := Lib.hid (HI.out.append name la)
              have HDk := Lib.hid HI.out.ok
              have H1d := Lib.hid H1.out.drew
              have HLn : Hid (la.length ≤ 1073741824) := Lib.hid (by have := HBk.out; omega)
              have m2 := World.new_ne (wr.alloc (.cells #[.int .i64 6, .int .i64 num, .string name, .slice aa la.length ca, .slice ab lb.length cb, .slice ay stay.length cy] 47)) _ x2
              have m3 := World.new_ne (wr.alloc (.cells #[.int .i64 6, .int .i64 num, .string name, .slice aa la.length ca, .slice ab lb.length cb, .slice ay stay.length cy] 47)) _ x3
              clear x1 x4 x5 hq hl2 H1
              go_wp2_with fail
              go_region_held3 (fun w' => w'.cell? ⟨wr.heap.size, 2, none⟩ = some (.string name) ∧ w'.cell? ⟨wr.heap.size, 3, none⟩ = some (.slice aa la.length ca)) (first | exact hS6 | exact hS5 | go_keep)
                (first
                  | (go_at_call 24; refine (append_lit H1d.out (by simp) HDk.out name _ la (Reads.old SA.out) HLn.out).mono ?_; rintro e w5 ⟨rfl, H5⟩; have hS5 : w5.cell? ⟨wr.heap.size, 2, none⟩ = some (.string name) ∧ w5.cell? ⟨wr.heap.size, 3, none⟩ = some (.slice aa la.length ca) := ⟨blk_cell H5.up3.blk 2, blk_cell H5.up3.blk 3⟩; rw [HQ.out])
                  | (go_at_call 25; refine (xappend_any H5.up2 HOk.out HU.out name _ la (Reads.old SA.out) HLn.out).mono ?_; rintro e w6 ⟨rfl, H6⟩; have hS6 : w6.cell? ⟨wr.heap.size, 2, none⟩ = some (.string name) ∧ w6.cell? ⟨wr.heap.size, 3, none⟩ = some (.slice aa la.length ca) := ⟨blk_cell H6.up3.blk 2, blk_cell H6.up3.blk 3⟩))
              all_goals
                have HF := Lib.hid (to_end H6.up2)
                clear H5 H6 hS5 hS6
                go_wp2_with fail
                go_meet
                exact ⟨rfl, _, _, HL2.out, HI2.out, HF.out⟩
            have q1 : (kd == 1) = false := by rw [beq_eq_false_iff_ne]; exact k1
            have q2 : (kd == 2) = false := by rw [beq_eq_false_iff_ne]; exact k2
            have q3 : (kd == 3) = false := by rw [beq_eq_false_iff_ne]; exact k3
            have q4 : (kd == 4) = false := by rw [beq_eq_false_iff_ne]; exact k4
            have q5 : (kd == 5) = false := by rw [beq_eq_false_iff_ne]; exact k5
            have q6 : (kd == 6) = false := by rw [beq_eq_false_iff_ne]; exact k6
            have HF := Lib.hid (to_end H1.out)
            clear k1 k2 k3 k4 k5 k6 x1 x2 x3 x4 x5 H1
            go_wp2_with fail
            go_meet
            exact ⟨rfl, d, r, HL.out, HI.out.le (by omega), HF.out⟩
          case rest =>
            obtain ⟨rfl, d', r', hl', hi', H'⟩ := hcut
            have HL' := Lib.hid hl'
            have HI' := Lib.hid hi'
            have HH' := Lib.hid H'
            have hn2 : r'.fs.length ≤ 4096 := (hl'.ok hi' (by omega)).2.2
            have hn1 : d'.fs.length ≤ 4096 := by rw [hl'.perm.length_eq]; exact hn2
            have hur : used r'.fs ≤ 1073741824 := hl'.usedr hi'
            have Hnm := Lib.hid (names_like hl')
            have Hlen1 : Hid (d'.fs.length = (nms r'.fs).length) := Lib.hid (by rw [nms, List.length_map, hl'.perm.length_eq])
            clear hl' hi' H' H1 HL HI HH HOk HU HLe x1 x2 x3 x4 x5
            go_wp2_with fail
            refine (xlist_any HH'.out.up2 hn2).mono ?_
            rintro e w5 ⟨v5, rfl, ho5, hb5⟩
            have H5 := Lib.hid (HH'.out.addRow hb5 ho5)
            clear ho5 hb5 HH'
            go_wp2_with fail
            refine (list_any H5.out.up2 hn1 (fun f hf => Nat.le_trans (HI'.out.names f hf) (by omega))).mono ?_
            rintro e w6 ⟨v6, rfl, h6⟩
            rw [Hnm.out, Hlen1.out] at h6
            have H6 := Lib.hid h6
            clear h6 H5
            go_wp2_with fail
            refine (texts_any v6 v5 (nms r'.fs) (nms r'.fs) _ H6.out.sl H6.out.up3.sl).mono ?_
            rintro e w7 ⟨rfl, hb7⟩
            have H7 : Hid (StK w b b2 d' r' v5 w7) := Lib.hid (H6.out.keeps hb7).drop1.up2
            have ht : decide (nms r'.fs = nms r'.fs) = true := by simp
            rw [ht]
            have hlenv := H7.out.sl.run_len Try.underlying38
            clear hb7 H6 ht
            go_wp2_with fail
            go_loopw [17] (fun i wi => ∃ j : Nat, i = .int .i64 j ∧ j ≤ (nms r'.fs).length ∧ StK w b b2 d' r' v5 wi) (fun i _ => (nms r'.fs).length - (intOf i).toNat)
            case atStart => exact ⟨0, rfl, Nat.zero_le _, H7.out⟩
            case round =>
              clear H7
              obtain ⟨j, rfl, hj, hR⟩ := hrel
              unfold StK at hR
              by_cases hjl : j < (nms r'.fs).length
              · obtain ⟨A, u, hA, _, e0, Hu⟩ := hR.sl.at1 (P := Try.prog) Try.underlying38 Try.size9 j hjl
                rw [Hu.out, strs_get _ j hjl] at e0
                have hkl : j < r'.fs.length := by simpa [nms] using hjl
                rw [nms_get hkl] at e0
                obtain ⟨f, hf⟩ : ∃ f, f = r'.fs.getD j default := ⟨_, rfl⟩
                obtain ⟨ha, hg⟩ := read_at HL'.out.srt hkl
                rw [← hf] at ha hg e0
                have hgd : getF d'.fs f.name = some f := by rw [HL'.out.get, ha, if_pos rfl, hg]
                have hfl : f.data.length ≤ 1073741824 := by
                  have := used_get hkl
                  rw [← hf] at this; omega
                have hrd : r'.read f.name = some f.data := by rw [RD.read, ha, if_pos rfl, hg]
                obtain ⟨s, hs⟩ : ∃ s, s = f.name := ⟨_, rfl⟩
                rw [← hs] at e0 hgd hrd
                have Hgd := Lib.hid hgd
                have Hrd := Lib.hid hrd
                have HR := Lib.hid hR
                have hcell := fun (w' : World) hb => cell_next3 (w' := w') hb e0
                have Hcell := Lib.hid hcell
                clear hf ha hg hgd hrd hs hR hcell Hu
                go_wp2_with fail
                refine (read_yes HR.out.up2 s Hgd.out (by omega)).mono ?_
                rintro e w8 ⟨v8, rfl, ho8, hb8⟩
                have H8 := Lib.hid (HR.out.addRow hb8 ho8)
                have c8 := Hcell.out w8 hb8
                clear ho8 hb8 HR Hcell e0
                go_wp2_with fail
                refine (xread_any H8.out.up4 (by omega) s).mono ?_
                intro e w9 h9
                rw [Hrd.out] at h9
                rcases h9 with ⟨h9, _⟩ | ⟨x, v9, hx, rfl, ho9, hb9⟩
                · cases h9
                obtain rfl : f.data = x := by simpa using hx
                have H9 := Lib.hid (H8.out.addRow hb9 ho9)
                clear ho9 hb9 H8 c8 hx
                go_wp2_with fail
                refine (same_any v8 v9 f.data f.data _ H9.out.up2.sl H9.out.sl).mono ?_
                rintro e w10 ⟨rfl, hb10⟩
                have H10 : Hid (StK w b b2 d' r' v5 w10) := Lib.hid (H9.out.keeps hb10).drop1.drop1
                have ht : decide (f.data = f.data) = true := by simp
                rw [ht]
                clear hb10 H9 ht
                go_wp2
                go_roundw
                case rel => exact ⟨j + 1, by go_num, by omega, H10.out⟩
                case measure => simp [intOf]; omega
              · have HF := Lib.hid hR.drop1
                clear hR
                go_wp2
                go_roundw
                case rel => exact ⟨k + 1, by go_num, by omega, by omega, d', r', HL'.out, HI'.out, HF.out⟩
                case measure => simp [intOf]; omega
        · have HO := Lib.hid HH.out.old
          clear HH HL HI
          by_cases hlt : k < l1.length
          · have g3 : decide ((k : Int) < 80) = false := by simp; omega
            clear hgo hk2
            go_wp2_with fail
            refine (known_any _).mono ?_
            rintro e w4 ⟨rfl, hb4⟩
            have HF := Lib.hid (HO.out.trans (hb4.mono HO.out.size))
            clear hb4
            go_wp2
            go_ret
            exact ⟨rfl, HF.out⟩
          · clear hgo hk2
            go_wp2_with fail
            refine (known_any _).mono ?_
            rintro e w4 ⟨rfl, hb4⟩
            have HF := Lib.hid (HO.out.trans (hb4.mono HO.out.size))
            clear hb4
            go_wp2
            go_ret
            exact ⟨rfl, HF.out⟩
end Go.Proofs.Ytfkingloapohjaa.keepPlays
