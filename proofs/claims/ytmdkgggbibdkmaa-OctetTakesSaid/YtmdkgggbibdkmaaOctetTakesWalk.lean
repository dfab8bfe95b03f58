/-
  The walk of the law OctetTakes: it answers true.
-/
import Derived.Test.YtmdkgggbibdkmaaOctetRefRd
import Derived.Test.YtmdkgggbibdkmaaOctetRdNums
import Derived.Test.YtmdkgggbibdkmaaOctetKnown
import Derived.Test.YtmdkgggbibdkmaaOctetHelp
import Derived.Deep.RegionWith
import Derived.Deep.QuietTactic
import Derived.BigQuiet
namespace Go.Proofs.Ytmdkgggbibdkmaa.octetTakes
open Go.RowKit L Oct
theorem _root_.Go.Proofs.Ytmdkgggbibdkmaa.L.Hold.drewN {W0 w : World} {A : Asrt} (h : Hold W0 A w) (n : Nat) : Hold W0 A (w.drewN n) := h.keeps (below_drewN (Below.refl _ _) n)
theorem quietOf {P : Program} {f : FuncId} {args : Array Value} {w : World} {n : Nat} {v : Value} (h : Calls P f args (w.drewN n) fun e w' => e = .returned v ∧ w.drewN n = w') : Calls P f args (w.drewN n) fun e w'' => e = .returned v ∧ ∃ m, w'' = w.drewN m :=
  h.mono fun _ _ ⟨he, hm⟩ => ⟨he, n, hm.symm⟩
theorem left_raw (n : Int) (l : List UInt8) : (left (decRaw n l)).length ≤ l.length := by
  unfold decRaw
  split <;> simp [left]
theorem left_row (l : List UInt8) : (left (decRow l)).length ≤ l.length := by
  rw [(decRow_raw l false).2.1]
  exact Nat.le_trans (left_raw _ _) (left_dec l)
theorem got_raw (n : Int) (l : List UInt8) : (got [] (decRaw n l)).length ≤ l.length := by
  unfold decRaw
  split
  · show (l.take _).length ≤ _
    rw [List.length_take]; omega
  · simp [got]
theorem got_row (l : List UInt8) : (got [] (decRow l)).length ≤ l.length := by
  rw [(decRow_raw l false).1]
  exact Nat.le_trans (got_raw _ _) (left_dec l)
theorem _root_.Go.Proofs.Ytmdkgggbibdkmaa.L.Hold.assoc {W0 w : World} {A B R : Asrt} : Hold W0 ((A.sep B).sep R) w ↔ Hold W0 (A.sep (B.sep R)) w := by
  constructor
  · rintro ⟨h1, F, hF, F12, F3, h2, h3, ⟨F1, F2, h4, h5, h6, h7⟩, h8⟩
    exact ⟨h1, F, hF, F1, fun k => F2 k ∨ F3 k, fun k => by rw [h2, h4, or_assoc], fun k hk hk2 => hk2.elim (h5 k hk) (h3 k ((h4 k).2 (.inl hk))), h6, F2, F3, fun k => Iff.rfl, fun k hk => h3 k ((h4 k).2 (.inr hk)), h7, h8⟩
  · rintro ⟨h1, F, hF, F1, F23, h2, h3, h4, F2, F3, h5, h6, h7, h8⟩
    exact ⟨h1, F, hF, fun k => F1 k ∨ F2 k, F3, fun k => by rw [h2, h5, or_assoc], fun k hk hk2 => hk.elim (fun hk => h3 k hk ((h5 k).2 (.inr hk2))) (fun hk => h6 k hk hk2), ⟨F1, F2, fun k => Iff.rfl, fun k hk hk2 => h3 k hk ((h5 k).2 (.inl hk2)), h4, h7⟩, h8⟩
/-- the two variables of 'r.Nums(&a, nil, &c)', when k numbers were taken -/
def Tk (ba bc : Nat) (l : List UInt8) (bad : Bool) (k : Nat) : Asrt :=
  (Blk ba #[.int .i64 (if k = 0 then 7 else takesAt l bad 0)] 3).sep (Blk bc #[.int .i64 (if k < 3 then 7 else takesAt l bad 2)] 3)
theorem tk_step (ba bc : Nat) (l : List UInt8) (bad : Bool) (W0 : World) : ∀ k, k < 3 → ∀ (w : World) (Q : Asrt), Hold W0 ((Tk ba bc l bad k).sep Q) w →
    (([.pointer (some ⟨ba, 0, none⟩), .pointer none, .pointer (some ⟨bc, 0, none⟩)] : List Value).getD k undef = .pointer none ∧ Hold W0 ((Tk ba bc l bad (k + 1)).sep Q) w) ∨
    ∃ A old, ([.pointer (some ⟨ba, 0, none⟩), .pointer none, .pointer (some ⟨bc, 0, none⟩)] : List Value).getD k undef = .pointer (some A) ∧ w.cell? A = some old ∧ w.frozen? A = false ∧ Hold W0 ((Tk ba bc l bad (k + 1)).sep Q) (w.setCell A (.int .i64 (takesAt l bad k))) := by
  intro k hk w Q h
  have h1 := Hold.assoc.1 h
  match k, hk with
  | 0, _ =>
    refine .inr ⟨⟨ba, 0, none⟩, _, rfl, blk_cell h1.blk 0, blk_free h1.blk 0, ?_⟩
    exact Hold.assoc.2 (h1.setBlk 0 _)
  | 1, _ => exact .inl ⟨rfl, h⟩
  | 2, _ =>
    refine .inr ⟨⟨bc, 0, none⟩, _, rfl, blk_cell h1.up2.blk 0, blk_free h1.up2.blk 0, ?_⟩
    exact Hold.assoc.2 (h1.up2.setBlk 0 _).up2
/-- what a round goes from -/
def St (w : World) (b bx : Nat) (u7 : Value) (L : List UInt8) (l : List UInt8) (bad : Bool) (wr : World) : Prop :=
  Hold w ((Rd b l bad).sep ((Xd w bx l bad).sep ((Row 5 1 u7 (L.length + 1) (u8s (L ++ [171]))).sep Asrt.emp))) wr
set_option maxRecDepth 100000 in
set_option maxHeartbeats 3200000 in
theorem walkIn {w : World} (v0 : Value) (l0 : List UInt8) (h0 : Sl w 1 v0 l0.length (u8s l0)) (v1 : Value) (l1 : List Int) (h1 : Sl w 1 v1 l1.length (l1.map (Value.int .i64))) (v2 : Value) (l2 : List Int) (h2 : Sl w 1 v2 l2.length (l2.map (Value.int .i64)))
    (hn0 : l0.length ≤ 4000) (hn1 : l1.length ≤ 200) (hn2 : l1.length ≤ l2.length) (hmx2 : l2.length ≤ 9223372036854775807) :
    Calls Try.prog 10 #[v0, v1, v2] w fun e w' => e = .returned (.bool true) ∧ Below w.heap.size w w' := by
  have hlen0 := h0.run_len Try.underlying23
  have hlen1 := h1.run_len Try.underlying30
  have hlen2 := h2.run_len Try.underlying30
  go_enter Try.func10, Try.ntmps10
  go_wp2_with fail
  refine (roomy_any v0 l0 w h0 (by omega)).mono ?_
  rintro e w1 ⟨u7, rfl, ho1, hb1⟩
  have H1 := (Hold.start w).addRow hb1 ho1
  obtain ⟨p7, c7, rfl⟩ := ho1.shape
  have hr1 := run_slice_lit (P := Try.prog) ho1 Try.underlying23 Try.size5 l0.length (by omega) (.int .i64 (l0.length : Int)) ⟨_, rfl⟩
  have hs1 : Sl w1 1 (.slice p7 l0.length c7) l0.length (u8s l0) := by
    have := Reads.take (W0 := w) (e := 5) (s := 1) (ao := p7) (cap := c7) (n := l0.length + 1) (m := l0.length) (xs := u8s (l0 ++ [171])) (R := Asrt.emp) (by omega) w1 H1
    rw [Nat.mul_one, u8s_append, List.take_append_of_le_length (by simp [u8s]), List.take_of_length_le (by simp [u8s])] at this
    exact this
  clear ho1 hb1
  go_wp2_with fail
  refine (newReader_any H1 _ l0 hs1 (by omega)).mono ?_
  rintro e w2 ⟨vr, rfl, b, rfl, H2⟩
  have H3 := H2.addEmpty 5
  have hs3 := sl_alloc (h0.below' H2.old) (.cells #[] 5)
  clear H1 H2 hs1 hr1
  go_wp2_with (at_builtin; refine wpList_app el8 H3 rfl _ _ rfl rfl rfl hs3 (u8s_one _) (by omega) (by omega) ?_; intro v4 xs4 w4 X4 H4; rw [X4.out, List.nil_append, Nat.zero_add] at H4; obtain ⟨p4, c4, rfl⟩ := H4.own.shape; have H5 := Lib.hid ((addXd H4 (b := w4.heap.size) rfl).up2); clear X4 H4 H3 hs3)
  obtain ⟨bx, hbx⟩ : ∃ bx, bx = w4.heap.size := ⟨_, rfl⟩
  rw [← hbx] at H5 ⊢
  clear hbx
  go_loopw [10] (fun i wr => ∃ (k : Nat) (l : List UInt8) (bad : Bool), k ≤ l1.length ∧ i = .int .i64 k ∧ l.length ≤ 4000 ∧ St w b bx (.slice p7 (l0.length + 1) c7) l0 l bad wr) (fun i _ => l1.length - (intOf i).toNat)
  case atStart => exact ⟨0, l0, false, Nat.zero_le _, rfl, hn0, H5.out⟩
  case round =>
    clear H5
    obtain ⟨k, l, bad, hk, rfl, hll, H⟩ := hrel
    by_cases hlt : k < l1.length
    · obtain ⟨A, z, hA, hblk, hc, _⟩ := (h1.below' H.old).atI (P := Try.prog) Try.underlying30 Try.size3 k hlt
      clear hblk
      by_cases hz1 : z = 1
      · subst hz1
        go_wp2_with fail
        refine (num_any H (by omega)).mono ?_
        rintro e w5 ⟨rfl, H5⟩
        go_wp2_with fail
        refine (xnum_any H5.up2 (by omega)).mono ?_
        rintro e w6 ⟨rfl, H6⟩
        have hl' := left_dec l
        obtain ⟨l', hl'e⟩ : ∃ l', l' = left (dec 0 0 l) := ⟨_, rfl⟩
        obtain ⟨bad', hbe⟩ : ∃ bad', bad' = (bad || (dec 0 0 l).isNone) := ⟨_, rfl⟩
        obtain ⟨nn, hnn⟩ : ∃ nn, nn = got 0 (dec 0 0 l) := ⟨_, rfl⟩
        rw [← hl'e] at H6 hl'
        rw [← hbe] at H6
        rw [← hnn]
        have Hnow := H6.up2
        clear H H5 H6 hl'e hbe hnn hc
        have Hq := Lib.hid Hnow
        obtain ⟨vq, hbq, _, hsq, _⟩ := xd_open Hq.out.up2
        have hcq0 : w6.cell? ⟨bx, 0, none⟩ = some vq := blk_cell hbq 0
        have hcq1 : w6.cell? ⟨bx, 1, none⟩ = some (.bool bad') := blk_cell hbq 1
        have hlenq := hsq.run_len Try.underlying23
        have hgood : ((!bad') == bad') = false := by cases bad' <;> rfl
        clear hbq hsq
        go_wp2_with fail
        go_quiet (first
          | (go_at_call 31; exact quietOf (left_any (Hq.out.drewN _)))
          | (go_at_call 19; exact quietOf (good_any (Hq.out.drewN _)))
          | (go_at_call 20; exact quietOf (whole_any (Hq.out.drewN _)))
          | (go_at_call 39; exact quietOf (xwhole_any (Hq.out.drewN _).up2)))
        go_wp2
        go_roundw
        case rel => exact ⟨k + 1, _, _, by omega, by go_num, by omega, Hq.out.drewN nq⟩
        case measure => simp [intOf]; omega
      by_cases hz2 : z = 2
      · subst hz2
        clear hz1
        have hgl := got_row l
        have hl' := left_row l
        go_wp2_with fail
        refine (rbytes_any H (by omega)).mono ?_
        rintro e w5 ⟨v5, rfl, H5⟩
        go_wp2_with fail
        refine (xbytes_any H5.up3 (by omega)).mono ?_
        rintro e w6 ⟨v6, rfl, H6⟩
        obtain ⟨g, hg⟩ : ∃ g, g = got [] (decRow l) := ⟨_, rfl⟩
        obtain ⟨l', hl'e⟩ : ∃ l', l' = left (decRow l) := ⟨_, rfl⟩
        obtain ⟨bad', hbe⟩ : ∃ bad', bad' = (bad || (decRow l).isNone) := ⟨_, rfl⟩
        rw [← hl'e, ← hg, ← hbe] at H6
        rw [← hl'e] at hl'
        rw [← hg] at hgl
        clear H H5 hl'e hg hbe hc
        go_wp2_with fail
        refine (same_any v5 v6 g g _ H6.up3.sl H6.sl).mono ?_
        rintro e w7 ⟨rfl, hb7⟩
        have H7 := (H6.keeps hb7).up3
        have e5 : decide (g = g) = true := by simp
        rw [e5]
        clear e5 hb7 H6
        go_wp2_with fail
        refine (spoil_any H7 (by omega)).mono ?_
        rintro e w8 ⟨rfl, H8⟩
        have Hnow := H8.drop1.up2
        clear H7 H8
        have Hq := Lib.hid Hnow
        obtain ⟨vq, hbq, _, hsq, _⟩ := xd_open Hq.out.up2
        have hcq0 : w8.cell? ⟨bx, 0, none⟩ = some vq := blk_cell hbq 0
        have hcq1 : w8.cell? ⟨bx, 1, none⟩ = some (.bool bad') := blk_cell hbq 1
        have hlenq := hsq.run_len Try.underlying23
        have hgood : ((!bad') == bad') = false := by cases bad' <;> rfl
        clear hbq hsq
        go_wp2_with fail
        go_quiet (first
          | (go_at_call 31; exact quietOf (left_any (Hq.out.drewN _)))
          | (go_at_call 19; exact quietOf (good_any (Hq.out.drewN _)))
          | (go_at_call 20; exact quietOf (whole_any (Hq.out.drewN _)))
          | (go_at_call 39; exact quietOf (xwhole_any (Hq.out.drewN _).up2)))
        go_wp2
        go_roundw
        case rel => exact ⟨k + 1, _, _, by omega, by go_num, by omega, Hq.out.drewN nq⟩
        case measure => simp [intOf]; omega
      by_cases hz3 : z = 3
      · subst hz3
        clear hz1 hz2
        obtain ⟨A2, z2, hA2, hblk2, hc2, _⟩ := h2.atI (P := Try.prog) Try.underlying30 Try.size3 k (by omega)
        have hlt2 : A2.block < w.heap.size := h2.lt (by omega) _ hblk2.symm
        have hgl := got_raw z2 l
        have hl' := left_raw z2 l
        obtain ⟨g, hg⟩ : ∃ g, g = got [] (decRaw z2 l) := ⟨_, rfl⟩
        obtain ⟨l', hl'e⟩ : ∃ l', l' = left (decRaw z2 l) := ⟨_, rfl⟩
        obtain ⟨bad', hbe⟩ : ∃ bad', bad' = (bad || (decRaw z2 l).isNone) := ⟨_, rfl⟩
        rw [← hl'e] at hl'
        rw [← hg] at hgl
        have HG := Lib.hid hg
        have HL := Lib.hid hl'e
        have HB := Lib.hid hbe
        have hc2a : wr.cell? A2 = some (.int .i64 z2) := (H.old.cell hlt2).trans hc2
        have hc2b : wr.drew.cell? A2 = some (.int .i64 z2) := (H.drew.old.cell hlt2).trans hc2
        have HH := Lib.hid H
        have HD := Lib.hid H.drew
        have Hc2 := Lib.hid hc2
        clear H hg hl'e hbe hc2 hblk2
        go_wp2_with fail
        clear hc
        go_region_with (first
          | (go_at_call 32; refine (rraw_any HD.out _ (by omega)).mono ?_; rintro e w5 ⟨v5, rfl, H5⟩; rw [← HG.out, ← HL.out, ← HB.out] at H5; have hc5 : w5.cell? A2 = some (.int .i64 z2) := (H5.old.cell hlt2).trans Hc2.out; have HH5 := Lib.hid H5; clear H5)
          | (go_at_call 37; refine (xraw_any HH5.out.up3 _ (by omega)).mono ?_; rintro e w6 ⟨v6, rfl, H6⟩; rw [← HG.out, ← HL.out, ← HB.out] at H6; have HH6 := Lib.hid H6; clear H6)
          | (go_at_call 14; refine (same_any v5 v6 g g _ HH6.out.up3.sl HH6.out.sl).mono ?_; rintro e w7 ⟨rfl, hb7⟩; rw [show decide (g = g) = true from by simp]; have HH7 := Lib.hid (HH6.out.keeps hb7).drop1.up2.drop1.up2; clear hb7))
        all_goals
          have Hq := HH7
          obtain ⟨vq, hbq, _, hsq, _⟩ := xd_open Hq.out.up2
          have hcq0 : w7.cell? ⟨bx, 0, none⟩ = some vq := blk_cell hbq 0
          have hcq1 : w7.cell? ⟨bx, 1, none⟩ = some (.bool bad') := blk_cell hbq 1
          have hlenq := hsq.run_len Try.underlying23
          have hgood : ((!bad') == bad') = false := by cases bad' <;> rfl
          clear hbq hsq
          go_wp2_with fail
          go_quiet (first
            | (go_at_call 31; exact quietOf (left_any (Hq.out.drewN _)))
            | (go_at_call 19; exact quietOf (good_any (Hq.out.drewN _)))
            | (go_at_call 20; exact quietOf (whole_any (Hq.out.drewN _)))
            | (go_at_call 39; exact quietOf (xwhole_any (Hq.out.drewN _).up2)))
          go_wp2
          go_roundw
          case rel => exact ⟨k + 1, _, _, by omega, by go_num, by omega, Hq.out.drewN nq⟩
          case measure => simp [intOf]; omega
      by_cases hz4 : z = 4
      · subst hz4
        clear hz1 hz2 hz3
        go_wp2_with fail
        refine (bad_any H).mono ?_
        rintro e w5 ⟨rfl, H5⟩
        go_wp2_with fail
        refine (xbad_any H5.up2).mono ?_
        rintro e w6 ⟨rfl, H6⟩
        obtain ⟨bad', hbe⟩ : ∃ bad', bad' = true := ⟨_, rfl⟩
        rw [← hbe] at H6
        have Hnow := H6.up2
        clear H H5 H6 hbe hc
        have Hq := Lib.hid Hnow
        obtain ⟨vq, hbq, _, hsq, _⟩ := xd_open Hq.out.up2
        have hcq0 : w6.cell? ⟨bx, 0, none⟩ = some vq := blk_cell hbq 0
        have hcq1 : w6.cell? ⟨bx, 1, none⟩ = some (.bool bad') := blk_cell hbq 1
        have hlenq := hsq.run_len Try.underlying23
        have hgood : ((!bad') == bad') = false := by cases bad' <;> rfl
        clear hbq hsq
        go_wp2_with fail
        go_quiet (first
          | (go_at_call 31; exact quietOf (left_any (Hq.out.drewN _)))
          | (go_at_call 19; exact quietOf (good_any (Hq.out.drewN _)))
          | (go_at_call 20; exact quietOf (whole_any (Hq.out.drewN _)))
          | (go_at_call 39; exact quietOf (xwhole_any (Hq.out.drewN _).up2)))
        go_wp2
        go_roundw
        case rel => exact ⟨k + 1, _, _, by omega, by go_num, by simp, Hq.out.drewN nq⟩
        case measure => simp [intOf]; omega
      · have hy1 : (z == 1) = false := by simpa using hz1
        have hy2 : (z == 2) = false := by simpa using hz2
        have hy3 : (z == 3) = false := by simpa using hz3
        have hy4 : (z == 4) = false := by simpa using hz4
        clear hz1 hz2 hz3 hz4
        have Ha := (H.addBlk (cs := #[.int .i64 7]) (t := 3) (b := wr.heap.size) rfl).addBlk (cs := #[.int .i64 7]) (t := 3) (b := wr.heap.size + 1) (by simp)
        have Hb := (Ha.up2.addLits [.pointer (some ⟨wr.heap.size, 0, none⟩), .pointer none, .pointer (some ⟨wr.heap.size + 1, 0, none⟩)] 58 (by simp [maxLen]) (b := wr.heap.size + 1 + 1) (by simp))
        have Hc := (Hb.up4.up4).up4
        have Hc := Hold.assoc.2 Hc
        obtain ⟨ba, hba⟩ : ∃ ba, ba = wr.heap.size := ⟨_, rfl⟩
        rw [← hba] at Hc
        go_wp2_with fail
        rw [← hba]
        refine (rnumsTo_any (Tk ba (ba + 1) l bad) [.pointer (some ⟨ba, 0, none⟩), .pointer none, .pointer (some ⟨ba + 1, 0, none⟩)] _ (l := l) (bad := bad) Hc (by omega) Reads.row (tk_step ba (ba + 1) l bad w)).mono ?_
        rintro e w5 ⟨rfl, H5⟩
        have H5 : Hold w ((Tk ba (ba + 1) l bad 3).sep ((Rd b (takes l bad 3).1 (takes l bad 3).2).sep _)) w5 := H5
        have H6 := H5.up3.drop1.up3
        have hl' := takes_length l bad 3
        have hl1' := takes_length l bad 1
        have hl2' := takes_length l bad 2
        clear Ha Hb Hc H H5 hba hc
        go_wp2_with fail
        refine (xnum_any (H6 : Hold w ((Xd w bx (takes l bad 0).1 (takes l bad 0).2).sep _) w5) (by show l.length ≤ _; omega)).mono ?_
        rintro e w6 ⟨rfl, H7⟩
        have H7 : Hold w ((Xd w bx (takes l bad 1).1 (takes l bad 1).2).sep _) w6 := H7
        rw [show got 0 (dec 0 0 l) = takesAt l bad 0 from rfl]
        clear H6
        go_wp2_with fail
        refine (xnum_any H7 (by omega)).mono ?_
        rintro e w7 ⟨rfl, H8⟩
        have H8 : Hold w ((Xd w bx (takes l bad 2).1 (takes l bad 2).2).sep _) w7 := H8
        clear H7
        have H9 := H8.up2
        have H10 := Hold.assoc.1 H9
        have hca : w7.cell? ⟨ba, 0, none⟩ = some (.int .i64 (takesAt l bad 0)) := blk_cell H10.blk 0
        have hcb : w7.cell? ⟨ba + 1, 0, none⟩ = some (.int .i64 (takesAt l bad 2)) := blk_cell H10.up2.blk 0
        have hcad : w7.drew.cell? ⟨ba, 0, none⟩ = some (.int .i64 (takesAt l bad 0)) := blk_cell H10.drew.blk 0
        have hcbd : w7.drew.cell? ⟨ba + 1, 0, none⟩ = some (.int .i64 (takesAt l bad 2)) := blk_cell H10.drew.up2.blk 0
        have HH8 := Lib.hid H8.drew
        clear H8 H9 H10
        go_wp2_with fail
        go_region_with (first
          | (go_at_call 35; refine (xnum_any HH8.out (by omega)).mono ?_; rintro e w8 ⟨rfl, H9⟩; have hca8 : w8.cell? ⟨ba, 0, none⟩ = some (.int .i64 (takesAt l bad 0)) := blk_cell (Hold.assoc.1 H9.up2).blk 0; have hcb8 : w8.cell? ⟨ba + 1, 0, none⟩ = some (.int .i64 (takesAt l bad 2)) := blk_cell (Hold.assoc.1 H9.up2).up2.blk 0; have HH9 := Lib.hid H9; clear H9; rw [show got 0 (dec 0 0 (takes l bad 2).1) = takesAt l bad 2 from rfl]))
        all_goals
          have Hn : Hold w ((Xd w bx (takes l bad 3).1 (takes l bad 3).2).sep _) w8 := HH9.out
          have Hnow : Hold w ((Rd b (takes l bad 3).1 (takes l bad 3).2).sep ((Xd w bx (takes l bad 3).1 (takes l bad 3).2).sep _)) w8 := Hn.up2.drop1.up2
          clear Hn
          clear HH9
          obtain ⟨bad', hbe⟩ : ∃ bad', bad' = (takes l bad 3).2 := ⟨_, rfl⟩
          rw [← hbe] at Hnow
          clear hbe
          have Hq := Lib.hid Hnow
          obtain ⟨vq, hbq, _, hsq, _⟩ := xd_open Hq.out.up2
          have hcq0 : w8.cell? ⟨bx, 0, none⟩ = some vq := blk_cell hbq 0
          have hcq1 : w8.cell? ⟨bx, 1, none⟩ = some (.bool bad') := blk_cell hbq 1
          have hlenq := hsq.run_len Try.underlying23
          have hgood : ((!bad') == bad') = false := by cases bad' <;> rfl
          clear hbq hsq
          go_wp2_with fail
          go_quiet (first
            | (go_at_call 31; exact quietOf (left_any (Hq.out.drewN _)))
            | (go_at_call 19; exact quietOf (good_any (Hq.out.drewN _)))
            | (go_at_call 20; exact quietOf (whole_any (Hq.out.drewN _)))
            | (go_at_call 39; exact quietOf (xwhole_any (Hq.out.drewN _).up2)))
          go_wp2
          go_roundw
          case rel => exact ⟨k + 1, _, _, by omega, by go_num, Nat.le_trans hl' hll, Hq.out.drewN nq⟩
          case measure => simp [intOf]; omega
    · obtain rfl : k = l1.length := by omega
      go_wp2_with fail
      refine (stands_any _ v0 l0 wr (by have := H.up3.sl; rw [show (l0 ++ [(171 : UInt8)]).length = l0.length + 1 from by simp]; exact this) (h0.below' H.old)).mono ?_
      rintro e w4 ⟨rfl, hb4⟩
      have H4 := H.keeps hb4
      clear hb4
      go_wp2_with fail
      refine (whole_any H4).mono ?_
      rintro e w5 ⟨rfl, rfl⟩
      go_wp2_with fail
      refine (xwhole_any H4.up2).mono ?_
      rintro e w5 ⟨rfl, rfl⟩
      go_wp2_with fail
      refine (known_any _).mono ?_
      rintro e w9 ⟨rfl, hb9⟩
      have Hfin := Lib.hid (H4.keeps hb9).old
      clear hb9 H4 H
      go_wp2
      go_ret
      exact ⟨rfl, Hfin.out⟩
theorem walk {w : World} (v0 : Value) (l0 : List UInt8) (h0 : Sl w 1 v0 l0.length (u8s l0)) (_b0 : l0.length ≤ 140737488351232) (v1 : Value) (l1 : List Int) (h1 : Sl w 1 v1 l1.length (l1.map (Value.int .i64))) (_b1 : l1.length * 8 ≤ 140737488351232) (_c1 : ∀ z ∈ l1, (Lit.int .i64 z).wf = true) (v2 : Value) (l2 : List Int) (h2 : Sl w 1 v2 l2.length (l2.map (Value.int .i64))) (_b2 : l2.length * 8 ≤ 140737488351232) (_c2 : ∀ z ∈ l2, (Lit.int .i64 z).wf = true) :
    Calls Try.prog 10 #[v0, v1, v2] w fun e w' => e = .returned (.bool true) ∧ Below w.heap.size w w' := by
  have hmx2 := h2.le'
  by_cases hn : l0.length ≤ 4000 ∧ l1.length ≤ 200 ∧ l1.length ≤ l2.length
  · exact walkIn v0 l0 h0 v1 l1 h1 v2 l2 h2 hn.1 hn.2.1 hn.2.2 hmx2
  · have hlen0 := h0.run_len Try.underlying23
    have hlen1 := h1.run_len Try.underlying30
    have hlen2 := h2.run_len Try.underlying30
    clear _c1 _c2
    by_cases hn0 : l0.length ≤ 4000
    · by_cases hn1 : l1.length ≤ 200
      · have hn2 : l2.length < l1.length := by omega
        clear hn
        go_enter Try.func10, Try.ntmps10
        go_wp2
        go_ret
        exact ⟨rfl, Below.refl _ _⟩
      · clear hn
        go_enter Try.func10, Try.ntmps10
        go_wp2
        go_ret
        exact ⟨rfl, Below.refl _ _⟩
    · clear hn
      go_enter Try.func10, Try.ntmps10
      go_wp2
      go_ret
      exact ⟨rfl, Below.refl _ _⟩
end Go.Proofs.Ytmdkgggbibdkmaa.octetTakes
