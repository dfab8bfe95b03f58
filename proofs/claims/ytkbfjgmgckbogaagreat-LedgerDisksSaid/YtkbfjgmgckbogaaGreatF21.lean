/-
  Texts that the proofs of this seat stand on, one behind the other: contracts of functions and plain lemmas. Conditions: those that each theorem states.
-/
import Derived.Test.YtkbfjgmgckbogaaGreatF14
import Derived.Test.YtkbfjgmgckbogaaGreatF19
import Derived.Test.YtkbfjgmgckbogaaGreatRefPut
import Derived.Test.YtkbfjgmgckbogaaGreatRefGone
import Derived.Test.YtkbfjgmgckbogaaGreatF20
import Derived.Test.YtkbfjgmgckbogaaGreatF17
import Derived.Test.YtkbfjgmgckbogaaGreatLedLog
import Derived.Test.YtkbfjgmgckbogaaGreatF12
import Derived.Deep.RegionHeld3
import Derived.Deep.DeepCutAuto
/-
  The reference's Load of chapter 4, over the reference's disk.
-/





namespace Go.Proofs.YtkbfjgmgckbogaaGreat.Kp
open Go.RowKit L Oct Dsk Fr
def rload (r : RD) (s : ByteArray) : List UInt8 × Nat :=
  match r.read s with
  | none => ([], 7)
  | some x => if (unone x).2 = 0 then ((unone x).1, 0) else ([], 3)
section
variable {W0 w : World} {R : Asrt} {b n : Nat} {d : D} {r : RD}
theorem like_load (h : Like d r) (s : ByteArray) : load d s = rload r s := by
  unfold load rload RD.read
  rw [h.get]
  cases isAt r.fs s <;> rfl
set_option maxHeartbeats 800000 in
theorem rload_any (H : Hold W0 ((RefA b r).sep R) w) (hu : used r.fs ≤ 1073741824) (s : ByteArray) : Calls Tryz.prog 66 #[ptr b, .string s] w (RetLoad w (rload r s)) := by
  have hr := xread_any H (by omega) s
  unfold ptr at hr ⊢
  cases ha : isAt r.fs s with
  | false =>
    have Hr : Hid (r.read s = none) := Lib.hid (by rw [RD.read, ha]; rfl)
    have HR := Lib.hid hr
    have he : Hid (rload r s = ([], 7)) := Lib.hid (by rw [rload, Hr.out])
    clear hr ha
    go_enter Tryz.func66, Tryz.ntmps66
    go_wp2_with fail
    refine HR.out.mono ?_
    intro e w6 h6
    rw [Hr.out] at h6
    rcases h6 with ⟨_, rfl, hb6⟩ | ⟨x, v6, hx, _⟩
    case inr => cases hx
    have Hb := Lib.hid hb6
    clear hb6
    go_wp2
    go_ret2
    rw [he.out]
    exact ⟨_, rfl, Own.nil _ _ _ _, Hb.out⟩
  | true =>
    obtain ⟨y, hy⟩ : ∃ y, y = (r.fs.getD (spotN r.fs s) default).data := ⟨_, rfl⟩
    have hyl : y.length ≤ 1073741824 := by
      have hlt := isAt_lt ha
      have := used_get hlt
      rw [← hy] at this; omega
    have Hr : Hid (r.read s = some y) := Lib.hid (by rw [RD.read, ha, if_pos rfl, ← hy])
    have HR := Lib.hid hr
    clear hr ha hy
    go_enter Tryz.func66, Tryz.ntmps66
    go_wp2_with fail
    refine HR.out.mono ?_
    intro e w6 h6
    rw [Hr.out] at h6
    rcases h6 with ⟨h6, _⟩ | ⟨x, v6, hx, rfl, ho6, hb6⟩
    · cases h6
    obtain rfl : y = x := by simpa using hx
    clear hx
    by_cases h0 : (unone y).2 = 0
    · have he : Hid (rload r s = ((unone y).1, 0)) := Lib.hid (by rw [rload, Hr.out]; show (if (unone y).2 = 0 then _ else _) = _; rw [if_pos h0])
      go_wp2_with fail
      refine (rone_any v6 y _ ho6.sl (by omega)).mono ?_
      rintro e w3 ⟨v3, rfl, ho3, hb3⟩
      have Ho := Lib.hid (ho3.from (B' := w.heap.size) fun k hk => Nat.le_trans hb6.size (ho3.lt k hk).1)
      have Hb := Lib.hid (hb6.trans (hb3.mono hb6.size))
      rw [h0]
      clear h0 ho6 hb6 ho3 hb3
      go_wp2
      go_ret2
      rw [he.out]
      exact ⟨_, rfl, Ho.out, Hb.out⟩
    · have he : Hid (rload r s = ([], 3)) := Lib.hid (by rw [rload, Hr.out]; show (if (unone y).2 = 0 then _ else _) = _; rw [if_neg h0])
      obtain ⟨m, hm⟩ : ∃ m : Nat, m = (unone y).2 := ⟨_, rfl⟩
      have hm0 : ((m : Int) == 0) = false := by rw [beq_eq_false_iff_ne]; omega
      have hm1 : ((m : Int) != 0) = true := by simp; omega
      have Hm := Lib.hid hm
      clear h0 hm
      go_wp2_with fail
      refine (rone_any v6 y _ ho6.sl (by omega)).mono ?_
      rintro e w3 ⟨v3, rfl, ho3, hb3⟩
      rw [← Hm.out]
      have Hb := Lib.hid (hb6.trans (hb3.mono hb6.size))
      clear ho6 hb6 ho3 hb3
      go_wp2
      go_ret2
      rw [he.out]
      exact ⟨_, rfl, Own.nil _ _ _ _, Hb.out⟩
end
end Go.Proofs.YtkbfjgmgckbogaaGreat.Kp

/-
  The reference's ledger (chapter 5) in memory: as the program's own; and its small functions: has, Last, At.
-/


namespace Go.Proofs.YtkbfjgmgckbogaaGreat.Ld
open Go.RowKit L Oct Dsk Fr Kp
def XLedA (lb b : Nat) (g : Lg) : Asrt := ExA fun y : Value × Value × List Value =>
  (Blk lb #[ptr b, .string g.pre, .int .i64 g.base, y.1, y.2.1, .bool g.dead] 74).sep ((Row 5 1 y.1 g.data.length (u8s g.data)).sep ((Row 22 1 y.2.1 g.ents.length y.2.2).sep (Inner y.2.2 g.ents)))
section
variable {W0 w : World} {R : Asrt} {lb b : Nat} {g : Lg} {r : RD}
theorem xled_open (h : Hold W0 ((XLedA lb b g).sep R) w) : ∃ dv ev vs, Hold W0 ((Blk lb #[ptr b, .string g.pre, .int .i64 g.base, dv, ev, .bool g.dead] 74).sep ((Row 5 1 dv g.data.length (u8s g.data)).sep ((Row 22 1 ev g.ents.length vs).sep ((Inner vs g.ents).sep R)))) w := by
  obtain ⟨⟨dv, ev, vs⟩, h⟩ := h.unex
  exact ⟨dv, ev, vs, h.perm (by ac_rfl)⟩
theorem xled_shut {dv ev : Value} {vs : List Value} (h : Hold W0 ((Blk lb #[ptr b, .string g.pre, .int .i64 g.base, dv, ev, .bool g.dead] 74).sep ((Row 5 1 dv g.data.length (u8s g.data)).sep ((Row 22 1 ev g.ents.length vs).sep ((Inner vs g.ents).sep R)))) w) : Hold W0 ((XLedA lb b g).sep R) w :=
  Hold.toex (f := fun y : Value × Value × List Value => (Blk lb #[ptr b, .string g.pre, .int .i64 g.base, y.1, y.2.1, .bool g.dead] 74).sep ((Row 5 1 y.1 g.data.length (u8s g.data)).sep ((Row 22 1 y.2.1 g.ents.length y.2.2).sep (Inner y.2.2 g.ents)))) (dv, ev, vs) (h.perm (by ac_rfl))
theorem xled_ptr (H : Hold W0 ((XLedA lb b g).sep R) w) : w.cell? ⟨lb, 0, none⟩ = some (.pointer (some ⟨b, 0, none⟩)) := by
  obtain ⟨dv, ev, vs, H1⟩ := xled_open H
  exact blk_cell H1.blk 0
theorem xled_pre (H : Hold W0 ((XLedA lb b g).sep R) w) : w.cell? ⟨lb, 1, none⟩ = some (.string g.pre) := by
  obtain ⟨dv, ev, vs, H1⟩ := xled_open H
  exact blk_cell H1.blk 1
theorem lhas_any (H : Hold W0 ((XLedA lb b g).sep ((RefA b r).sep R)) w) (hu : used r.fs ≤ 140737488355328) (s : ByteArray) : Calls Tryz.prog 30 #[ptr lb, .string s] w (RetThere w (isAt r.fs s)) := by
  have k0 := xled_ptr H
  have hr := xread_any H.up2 hu s
  unfold ptr at hr ⊢
  cases ha : isAt r.fs s with
  | false =>
    have Hr : Hid (r.read s = none) := Lib.hid (by rw [RD.read, ha]; rfl)
    have HR := Lib.hid hr
    clear hr ha
    go_enter Tryz.func30, Tryz.ntmps30
    go_wp2_with fail
    refine HR.out.mono ?_
    intro e w6 h6
    rw [Hr.out] at h6
    rcases h6 with ⟨_, rfl, hb6⟩ | ⟨x, v6, hx, _⟩
    case inr => cases hx
    go_wp2
    go_ret
    exact ⟨rfl, hb6⟩
  | true =>
    have Hr : Hid (∃ x, r.read s = some x) := Lib.hid ⟨_, by rw [RD.read, ha, if_pos rfl]⟩
    have HR := Lib.hid hr
    clear hr ha
    go_enter Tryz.func30, Tryz.ntmps30
    go_wp2_with fail
    refine HR.out.mono ?_
    intro e w6 h6
    obtain ⟨y, hy⟩ := Hr.out
    rw [hy] at h6
    rcases h6 with ⟨h6, _⟩ | ⟨x, v6, _, rfl, _, hb6⟩
    · cases h6
    clear hy
    go_wp2
    go_ret
    exact ⟨rfl, hb6⟩
theorem xlast_any (H : Hold W0 ((XLedA lb b g).sep R) w) (hg : GOk g) : Calls Tryz.prog 40 #[ptr lb] w (RetDrew w (.int .i64 (g.last : Nat))) := by
  obtain ⟨dv, ev, vs, H1⟩ := xled_open H
  have k2 := blk_cell H1.blk 2
  have k4 := blk_cell H1.blk 4
  have hlen := H1.up3.sl.run_len Tryz.underlying44
  have hb := hg.base
  have hn := hg.len
  have a1 : IntKind.i64.wrap ((g.base : Int) + (g.ents.length : Int)) = (g.base : Int) + (g.ents.length : Int) := IntWalk.i64_in _ (by omega)
  have e1 : Hid (((g.last : Nat) : Int) = (g.base : Int) + (g.ents.length : Int)) := Lib.hid (by unfold Lg.last; omega)
  clear H H1 hb hn hg
  unfold ptr
  go_enter Tryz.func40, Tryz.ntmps40
  go_wp2_with fail
  go_quiet (fail)
  go_wp2
  go_ret
  rw [e1.out]
  exact ⟨rfl, _, rfl⟩
end
end Go.Proofs.YtkbfjgmgckbogaaGreat.Ld

/-
  The reference's ledger (chapter 5): image.
-/






namespace Go.Proofs.YtkbfjgmgckbogaaGreat.Ld
open Go.RowKit L Oct Dsk Fr Kp
def rimage (r : RD) (g : Lg) : Lg × Nat :=
  if isAt r.fs (imgN g.pre) then
    if (rload r (imgN g.pre)).2 = 0 then ({ g with base := recN (rload r (imgN g.pre)).1, data := recB (rload r (imgN g.pre)).1 }, if recW (rload r (imgN g.pre)).1 ∧ recN (rload r (imgN g.pre)).1 ≤ 1099511627776 then 0 else 3)
    else (g, 3)
  else (g, 0)
section
variable {W0 w : World} {R : Asrt} {lb b n : Nat} {g : Lg} {r : RD} {d : D}
theorem rload_at (h : isAt r.fs (imgN g.pre) = true) : (rload r (imgN g.pre)).2 = 0 ∨ (rload r (imgN g.pre)).2 = 3 := by
  unfold rload
  rw [RD.read, h, if_pos rfl]
  show (if (unone _).2 = 0 then _ else _ : List UInt8 × Nat).2 = 0 ∨ _
  split
  · exact .inl rfl
  · rename_i h2
    right
    show (if (unone _).2 = 0 then _ else _ : List UInt8 × Nat).2 = 3
    rw [if_neg h2]
theorem rimage_eq (h : Like d r) (g : Lg) : image d g = rimage r g := by
  unfold image rimage
  rw [like_load h]
  cases ha : isAt r.fs (imgN g.pre) with
  | false =>
    have : rload r (imgN g.pre) = ([], 7) := by unfold rload; rw [RD.read, ha]; rfl
    rw [this, if_pos rfl]; rfl
  | true =>
    rw [if_pos rfl]
    rcases rload_at ha with h0 | h0
    · rw [h0, if_neg (show ¬ ((0 : Nat) = 7) by decide), if_pos rfl, if_pos rfl]
    · rw [h0]; rfl
theorem rload_len (r : RD) (s : ByteArray) : (rload r s).1.length ≤ 1048576 := by
  unfold rload
  split
  · simp
  · split
    · exact unone_len _
    · simp
def RetXL (W0 : World) (R : Asrt) (lb b : Nat) (y : RD × Lg × Nat) (e : Ending) (w' : World) : Prop := e = .returned (.int .i64 y.2.2) ∧ Hold W0 ((XLedA lb b y.2.1).sep ((RefA b y.1).sep R)) w'
theorem xset_base (H : Hold W0 ((XLedA lb b g).sep R) w) (N : Nat) : (∃ u, w.cell? ⟨lb, 2, none⟩ = some u) ∧ w.frozen? ⟨lb, 2, none⟩ = false ∧ Hold W0 ((XLedA lb b { g with base := N }).sep R) (w.setCell ⟨lb, 2, none⟩ (.int .i64 N)) := by
  obtain ⟨dv, ev, vs, H1⟩ := xled_open H
  exact ⟨⟨_, blk_cell H1.blk 2⟩, blk_free H1.blk 2, xled_shut (g := { g with base := N }) (H1.setB 2 (.int .i64 N))⟩
theorem xset_data {vB : Value} {B : List UInt8} (H : Hold W0 ((Row 5 1 vB B.length (u8s B)).sep ((XLedA lb b g).sep R)) w) : (∃ u, w.cell? ⟨lb, 3, none⟩ = some u) ∧ w.frozen? ⟨lb, 3, none⟩ = false ∧ Hold W0 ((XLedA lb b { g with data := B }).sep R) (w.setCell ⟨lb, 3, none⟩ vB) := by
  obtain ⟨dv, ev, vs, H1⟩ := xled_open H.up2
  have h := H1.setB 3 vB
  refine ⟨⟨_, blk_cell H1.blk 3⟩, blk_free H1.blk 3, ?_⟩
  have h2 : Hold W0 ((Row 5 1 dv g.data.length (u8s g.data)).sep ((Blk lb #[ptr b, .string g.pre, .int .i64 g.base, vB, ev, .bool g.dead] 74).sep ((Row 5 1 vB B.length (u8s B)).sep ((Row 22 1 ev g.ents.length vs).sep ((Inner vs g.ents).sep R))))) _ := h.perm (by ac_rfl)
  exact xled_shut (g := { g with data := B }) h2.drop1
set_option maxRecDepth 100000 in
set_option maxHeartbeats 1600000 in
theorem ximage_any (H : Hold W0 ((XLedA lb b g).sep ((RefA b r).sep R)) w) (hg : GOk g) (hu : used r.fs ≤ 1073741824) :
    Calls Tryz.prog 32 #[ptr lb] w (RetXL W0 R lb b (r, (rimage r g).1, (rimage r g).2)) := by
  have k1 := xled_pre H
  have HG := Lib.hid hg
  have hp := hg.pre
  have hrun := fun w' : World => run_string_add_sum (P := Tryz.prog) (w := w') g.pre sImg (by show g.pre.size + 4 ≤ _; omega)
  unfold sImg at hrun
  have HH := Lib.hid H
  obtain ⟨S, hS⟩ : ∃ S, S = imgN g.pre := ⟨_, rfl⟩
  have hS2 : g.pre ++ (⟨#[45, 105, 109, 103]⟩ : ByteArray) = S := hS.symm
  simp only [hS2] at hrun
  have HRi : Hid (rimage r g = if isAt r.fs S then if (rload r S).2 = 0 then ({ g with base := recN (rload r S).1, data := recB (rload r S).1 }, if recW (rload r S).1 ∧ recN (rload r S).1 ≤ 1099511627776 then 0 else 3) else (g, 3) else (g, 0)) := Lib.hid (by rw [hS]; rfl)
  clear H hg hp hS hS2
  unfold ptr
  cases ha : isAt r.fs S with
  | false =>
    have he : Hid (rimage r g = (g, 0)) := Lib.hid (by rw [HRi.out, ha]; rfl)
    have Ha := Lib.hid ha
    clear ha
    go_enter Tryz.func32, Tryz.ntmps32
    go_wp2_with fail
    refine (lhas_any HH.out (by omega) S).mono ?_
    rintro e w1 ⟨rfl, hb1⟩
    rw [Ha.out]
    have HF := Lib.hid (HH.out.keeps hb1)
    clear hb1
    go_wp2
    go_ret
    rw [he.out]
    exact ⟨rfl, HF.out⟩
  | true =>
    have Ha := Lib.hid ha
    obtain ⟨m, hm⟩ : ∃ m, m = (rload r S).2 := ⟨_, rfl⟩
    obtain ⟨p, hp⟩ : ∃ p, p = (rload r S).1 := ⟨_, rfl⟩
    have hpl : p.length ≤ 1048576 := by rw [hp]; exact rload_len r S
    have HIm : Hid (rimage r g = if m = 0 then ({ g with base := recN p, data := recB p }, if recW p ∧ recN p ≤ 1099511627776 then 0 else 3) else (g, 3)) := Lib.hid (by rw [HRi.out, ha, if_pos rfl, hm, hp])
    have Hm := Lib.hid hm
    have Hp := Lib.hid hp
    clear ha hm hp HRi
    go_enter Tryz.func32, Tryz.ntmps32
    go_wp2_with fail
    refine (lhas_any HH.out (by omega) S).mono ?_
    rintro e w1 ⟨rfl, hb1⟩
    rw [Ha.out]
    have H1 := HH.out.keeps hb1
    have k0 := xled_ptr H1
    have k1 := xled_pre H1
    have m0 := World.new_ne w1 _ k0
    have Hd := Lib.hid H1.drew
    clear hb1 H1 HH Ha
    go_upto_region 3 with fail
    go_cut [3, 4] (fun s3 s4 wc => ∃ v5 : Value, v5 = s3 ∧ s4 = .int .i64 m ∧ Hold W0 ((Row 5 1 v5 p.length (u8s p)).sep ((XLedA lb b g).sep ((RefA b r).sep R))) wc)
    case first =>
      go_region_held3 (fun w' => w'.cell? ⟨lb, 0, none⟩ = some (.pointer (some ⟨b, 0, none⟩)) ∧ w'.cell? ⟨lb, 1, none⟩ = some (.string g.pre)) (first | exact hS5 | go_keep)
        (first
          | (go_at_call 66; refine (rload_any Hd.out.up2 (by omega) S).mono ?_; rintro e w5 ⟨v5, rfl, ho5, hb5⟩; rw [← Hm.out]; rw [← Hp.out] at ho5; have H5 := Hd.out.addRow hb5 ho5; have hS5 : w5.cell? ⟨lb, 0, none⟩ = some (.pointer (some ⟨b, 0, none⟩)) ∧ w5.cell? ⟨lb, 1, none⟩ = some (.string g.pre) := ⟨xled_ptr H5.up2, xled_pre H5.up2⟩))
      all_goals
        have HF := Lib.hid H5
        clear H5 hS5 ho5 hb5
        go_wp2_with fail
        go_meet
        exact ⟨v5, rfl, rfl, HF.out⟩
    case rest =>
      obtain ⟨v5, rfl, rfl, h5⟩ := hcut
      obtain ⟨ao5, cap5, rfl⟩ := h5.own.shape
      have H5 := Lib.hid h5
      have hsl := h5.sl
      have h5c := h5
      clear h5 Hd Hm Hp k0 k1 m0
      by_cases h0 : m = 0
      · subst h0
        have he : Hid (rimage r g = ({ g with base := recN p, data := recB p }, if recW p ∧ recN p ≤ 1099511627776 then 0 else 3)) := Lib.hid (by rw [HIm.out, if_pos rfl])
        have H6 := Lib.hid (Oct.addXd h5c (b := wc.heap.size) rfl)
        clear hsl h5c H5
        go_wp2_with fail
        refine (xnum_any H6.out (by omega)).mono ?_
        rintro e w7 ⟨rfl, h7⟩
        have hRN : recN p = got 0 (dec 0 0 p) := rfl
        have hll := recL_len p
        rw [← hRN]
        obtain ⟨N, hN⟩ : ∃ N, N = recN p := ⟨_, rfl⟩
        have hN2 : N ≤ 4611686018427387904 := by rw [hN]; exact recN_le p
        rw [← hN] at he ⊢
        obtain ⟨⟨u2, k2⟩, f2, h8⟩ := xset_base h7.up2 N
        obtain ⟨w8, hw8⟩ : ∃ w8, w8 = w7.setCell ⟨lb, 2, none⟩ (.int .i64 N) := ⟨_, rfl⟩
        rw [← hw8] at h8
        have H8 := Lib.hid h8.up2
        have HW8 := Lib.hid hw8
        clear h7 h8 H6 hRN hN hw8
        go_upto_region 8 with fail
        rw [← HW8.out]
        clear k2 f2
        go_wp2_with fail
        refine (xbytes_any H8.out (by omega)).mono ?_
        rintro e w9 ⟨vB, rfl, h9⟩
        have hB : recB p = got [] (decRow (left (dec 0 0 p))) := rfl
        rw [← hB] at h9
        obtain ⟨B, hB2⟩ : ∃ B, B = recB p := ⟨_, rfl⟩
        rw [← hB2] at h9 he
        obtain ⟨ao9, cap9, rfl⟩ := h9.own.shape
        obtain ⟨⟨u3, k3⟩, f3, h10⟩ := xset_data (h9.perm (by ac_rfl) : Hold W0 ((Row 5 1 (.slice ao9 B.length cap9) B.length (u8s B)).sep ((XLedA lb b { g with base := N }).sep ((Xd W0 wc.heap.size (left (decRow (left (dec 0 0 p)))) ((false || (dec 0 0 p).isNone) || (decRow (left (dec 0 0 p))).isNone)).sep ((RefA b r).sep R)))) w9)
        obtain ⟨w10, hw10⟩ : ∃ w10, w10 = w9.setCell ⟨lb, 3, none⟩ (.slice ao9 B.length cap9) := ⟨_, rfl⟩
        rw [← hw10] at h10
        have H10 := Lib.hid h10.up2
        have HW10 := Lib.hid hw10
        have hrw : Hid ((!((false || (dec 0 0 p).isNone) || (decRow (left (dec 0 0 p))).isNone) && (left (decRow (left (dec 0 0 p)))).isEmpty) = recW p) := Lib.hid (by simp [recW])
        obtain ⟨dv, ev, vs, h11⟩ := xled_open h10
        have c2 : w10.cell? ⟨lb, 2, none⟩ = some (.int .i64 N) := blk_cell h11.blk 2
        clear h9 h10 h11 H8 hB hB2 hw10 hll
        go_upto_region 9 with fail
        rw [← HW10.out]
        clear k3 f3
        go_wp2_with fail
        refine (xwhole_any H10.out).mono ?_
        rintro e w11 ⟨rfl, rfl⟩
        rw [hrw.out]
        have HF := Lib.hid H10.out.drop1
        clear H10 hrw
        cases hW : recW p with
        | false =>
          have he2 := Lib.hid (he.out.trans (by rw [hW]; rfl : _ = ({ g with base := N, data := B }, 3)))
          go_wp2
          go_ret
          rw [he2.out]
          exact ⟨rfl, HF.out⟩
        | true =>
          by_cases hbig : N ≤ 1099511627776
          · have he2 := Lib.hid (he.out.trans (by rw [if_pos ⟨hW, hbig⟩] : _ = ({ g with base := N, data := B }, 0)))
            have g1 : decide ((1099511627776 : Int) < (N : Int)) = false := by simp; omega
            clear hbig
            go_wp2
            go_ret
            rw [he2.out]
            exact ⟨rfl, HF.out⟩
          · have he2 := Lib.hid (he.out.trans (by rw [if_neg (fun h => hbig h.2)] : _ = ({ g with base := N, data := B }, 3)))
            have g1 : decide ((1099511627776 : Int) < (N : Int)) = true := by simp; omega
            clear hbig
            go_wp2
            go_ret
            rw [he2.out]
            exact ⟨rfl, HF.out⟩
      · have he : Hid (rimage r g = (g, 3)) := Lib.hid (by rw [HIm.out, if_neg h0])
        have q1 : ((m : Int) != 0) = true := by simp; omega
        have HF := Lib.hid H5.out.drop1
        clear h0 hsl h5c
        go_wp2
        go_ret
        rw [he.out]
        exact ⟨rfl, HF.out⟩
end
end Go.Proofs.YtkbfjgmgckbogaaGreat.Ld
