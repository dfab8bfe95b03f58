/-
  Crash of chapter 3.
-/
import Derived.Test.YtkbfjgmgckbogaaF5
import Derived.Test.YtkbfjgmgckbogaaF2
import Derived.Deep.RegionHeld3
import Derived.Deep.DeepCutAuto
namespace Go.Proofs.Ytkbfjgmgckbogaa.Dsk
open Go.RowKit L Oct
/-- how many bytes of a file stay -/
def stays (k : Nat) (f : AF) : Nat := f.lasts + k % (f.data.length - f.lasts + 1)
def crashF (k : Nat) (f : AF) : AF := ⟨f.name, f.data.take (stays k f), stays k f⟩
def D.crash (d : D) (k : Nat) : D := { d with fs := d.fs.map (crashF k), fused := false }
def crashX (k : Nat) (x : Fl) : Fl := ⟨crashF k x.f, x.blk⟩
def inN (lr : List Fl) (s : ByteArray) : Bool := lr.any fun z => decide (z.f.name = s)
theorem inN_iff {lr : List Fl} {s : ByteArray} : inN lr s = true ↔ s ∈ names lr := by
  simp only [inN, List.any_eq_true, names, List.mem_map, decide_eq_true_eq]
/-- files of which those of lr are still to come -/
def crashL (k : Nat) (lr l : List Fl) : List Fl := l.map fun y : Fl => if inN lr y.f.name then y else crashX k y
theorem crashL_all (k : Nat) (l : List Fl) : crashL k l l = l := by
  unfold crashL
  conv => rhs; rw [← List.map_id l]
  refine List.map_congr_left fun y hy => ?_
  rw [if_pos (inN_iff.2 (List.mem_map.2 ⟨y, hy, rfl⟩))]; rfl
theorem crashL_nil (k : Nat) (l : List Fl) : crashL k [] l = l.map (crashX k) := by
  unfold crashL
  refine List.map_congr_left fun y hy => ?_
  rw [if_neg (by simp [inN])]
theorem ents_crashL (k : Nat) (lr l : List Fl) : ents (crashL k lr l) = ents l := by
  unfold crashL ents
  rw [List.map_map]
  refine List.map_congr_left fun y hy => ?_
  simp only [Function.comp]
  split <;> rfl
theorem u8s_take (l : List UInt8) (n : Nat) : (u8s l).take n = u8s (l.take n) := by simp [u8s]
theorem names_strike {lr : List Fl} {s t : ByteArray} : t ∈ names (strike lr s) ↔ t ∈ names lr ∧ t ≠ s := by
  simp only [names, strike, List.mem_map, List.mem_filter]
  constructor
  · rintro ⟨x, ⟨h1, h2⟩, rfl⟩
    exact ⟨⟨x, h1, rfl⟩, by simpa using h2⟩
  · rintro ⟨⟨x, h1, rfl⟩, h2⟩
    exact ⟨x, ⟨h1, by simpa using h2⟩, rfl⟩
theorem crashL_split {k : Nat} {lr a c : List Fl} {x : Fl} (hx : x ∈ lr) : crashL k lr (a ++ x :: c) = crashL k lr a ++ x :: crashL k lr c := by
  have : inN lr x.f.name = true := inN_iff.2 (List.mem_map.2 ⟨x, hx, rfl⟩)
  simp [crashL, this]
theorem crashL_strike {k : Nat} {lr a c : List Fl} {x : Fl} (ha : ∀ y ∈ a, y.f.name ≠ x.f.name) (hc : ∀ y ∈ c, y.f.name ≠ x.f.name) :
    crashL k (strike lr x.f.name) (a ++ x :: c) = crashL k lr a ++ crashX k x :: crashL k lr c := by
  have h0 : ∀ l : List Fl, (∀ y ∈ l, y.f.name ≠ x.f.name) → crashL k (strike lr x.f.name) l = crashL k lr l := by
    intro l hl
    refine List.map_congr_left fun y hy => ?_
    have : inN (strike lr x.f.name) y.f.name = inN lr y.f.name := by
      rw [Bool.eq_iff_iff, inN_iff, inN_iff, names_strike]; exact ⟨fun h => h.1, fun h => ⟨h, hl y hy⟩⟩
    simp [this]
  have hx : ¬ inN (strike lr x.f.name) x.f.name = true := fun h => (names_strike.1 (inN_iff.1 h)).2 rfl
  have e : crashL k (strike lr x.f.name) (a ++ x :: c) = crashL k (strike lr x.f.name) a ++ crashX k x :: crashL k (strike lr x.f.name) c := by simp [crashL, hx]
  rw [e, h0 a ha, h0 c hc]
theorem nodup_split {l a c : List Fl} {x : Fl} (hn : (names l).Nodup) (h : l = a ++ x :: c) : (∀ y ∈ a, y.f.name ≠ x.f.name) ∧ ∀ y ∈ c, y.f.name ≠ x.f.name := by
  subst h
  simp only [names, List.map_append, List.map_cons] at hn
  rw [List.nodup_append] at hn
  refine ⟨fun y hy e => hn.2.2 _ (List.mem_map.2 ⟨y, hy, rfl⟩) _ (List.mem_cons_self) e, fun y hy e => (List.nodup_cons.1 hn.2.1).1 (List.mem_map.2 ⟨y, hy, e⟩)⟩
def CrashRel (W0 : World) (R : Asrt) (b mb r : Nat) (d : D) (l : List Fl) (k : Nat) (wr : World) : Prop :=
  ∃ (lr : List Fl), (∀ x ∈ lr, x ∈ l) ∧ (names lr).Nodup ∧
    Hold W0 ((RangeA mb r (ents l) (ents lr)).sep ((Blk b #[.int .i64 d.room, .map (some mb), .bool d.fused, .int .i64 d.left] 53).sep ((FilesA (crashL k lr l)).sep R))) wr
set_option maxRecDepth 100000 in
set_option maxHeartbeats 1600000 in
theorem crash_pos {W0 w : World} {R : Asrt} {b : Nat} {d : D} (H : Hold W0 ((DiskA b d).sep R) w) (k : Nat) (hk : 0 < k) (_hk2 : k ≤ 9223372036854775807) (hwf : ∀ f ∈ d.fs, f.lasts ≤ f.data.length ∧ f.data.length ≤ 4611686018427387904) :
    Calls Try.prog 16 #[ptr b, .int .i64 k] w fun e w' => e = .returned (.tuple #[]) ∧ Hold W0 ((DiskA b (d.crash k)).sep R) w' := by
  obtain ⟨mb, l, hl, H1⟩ := disk_open H
  have k1 := blk_cell H1.blk 1
  have hnn := H1.up2.map.nodup
  rw [ents_names] at hnn
  have Hl := Lib.hid hl
  have H2 := Lib.hid H1.up2
  have Hnn : Hid (names l).Nodup := Lib.hid hnn
  have Hwf : Hid (∀ x ∈ l, x.f.lasts ≤ x.f.data.length ∧ x.f.data.length ≤ 4611686018427387904) := Lib.hid fun x hx => hwf _ (by rw [← hl]; exact List.mem_map.2 ⟨x, hx, rfl⟩)
  clear H1 hl hnn H hwf
  show Calls Try.prog 16 #[.pointer (some ⟨b, 0, none⟩), .int .i64 k] w _
  go_enter Try.func16, Try.ntmps16
  go_wp2_with (at_range; refine wpList_mrange H2.out rfl _ 51 rfl Try.underlying51 rfl ?_; intro r w1 H3)
  go_frame
  go_loopw [] (fun wr => CrashRel W0 R b mb r d l k wr) (fun wr => wr.rangeLeft mb r)
  case atStart => exact ⟨l, fun x hx => hx, Hnn.out, by rw [crashL_all]; exact H3⟩
  case round =>
    clear H3 k1 H2
    obtain ⟨lr, hsub, hnd, H4⟩ := hrel
    have Hsub := Lib.hid hsub
    have Hnd := Lib.hid hnd
    have HL := Lib.hid H4.range_left
    clear hsub hnd
    go_wp2_with (at_next; refine wpList_mnext H4 rfl _ rfl rfl ?_ ?_)
    · intro hnil
      have HM : Hid (Hold W0 ((DiskA b (d.crash k)).sep R) (wr.setCell ⟨b, 2, none⟩ (.bool false))) := Lib.hid (by
        have e : lr = [] := by
          cases lr with
          | nil => rfl
          | cons x r => simp [ents] at hnil
        have H5 := H4.range_map.up2
        rw [e, ← ents_crashL k [] l, crashL_nil] at H5
        refine disk_shut (d := d.crash k) (mb := mb) (l := l.map (crashX k)) ?_ (H5.setB 2 (.bool false))
        rw [D.crash, ← Hl.out, List.map_map, List.map_map]; rfl)
      have k2 := blk_cell H4.up2.blk 2
      have f2 := blk_free H4.up2.blk 2
      clear hnil H4
      go_wp2
      go_end0
      exact ⟨rfl, HM.out⟩
    · intro s v w2 hp hlt H5 hen
      obtain ⟨x, hx, hxe⟩ := ents_mem hp
      simp only [Prod.mk.injEq] at hxe
      obtain ⟨rfl, rfl⟩ := hxe
      rw [mdel_ents] at H5 hlt
      have hxl := Hsub.out x hx
      obtain ⟨a, c, hac⟩ := List.append_of_mem hxl
      obtain ⟨ha, hc⟩ := nodup_split Hnn.out hac
      have hw := Hwf.out x hxl
      have H6 := H5.up3
      rw [hac, crashL_split hx, files_split] at H6
      obtain ⟨v, H7⟩ := file_open (Hold.assoc.1 H6)
      obtain ⟨ao, cap, rfl⟩ := H7.up2.own.shape
      have c0 := blk_cell H7.blk 0
      have c1 := blk_cell H7.blk 1
      have f0 := blk_free H7.blk 0
      have f1 := blk_free H7.blk 1
      have hlen := H7.up2.sl.run_len Try.underlying33
      have hst : stays k x.f ≤ x.f.data.length := by
        have := Nat.mod_lt k (show 0 < x.f.data.length - x.f.lasts + 1 by omega)
        unfold stays; omega
      have hsl := run_slice_cut (P := Try.prog) H7.up2.own Try.underlying33 Try.size5 hst (k := .i64) (k' := .i64)
      have HF : Hid (Hold W0 ((RangeA mb r (ents l) (ents (strike lr x.f.name))).sep ((Blk b #[.int .i64 d.room, .map (some mb), .bool d.fused, .int .i64 d.left] 53).sep ((FilesA (crashL k (strike lr x.f.name) l)).sep R)))
          ((w2.setCell ⟨x.blk, 0, none⟩ (.slice ao (stays k x.f) (stays k x.f))).setCell ⟨x.blk, 1, none⟩ (.int .i64 (stays k x.f)))) := Lib.hid (by
        have H8a := H7.up2.cut hst
        rw [Nat.mul_one, u8s_take] at H8a
        have H8 := H8a.up2
        have H9 := (H8.setB 0 (.slice ao (stays k x.f) (stays k x.f))).setB 1 (.int .i64 (stays k x.f))
        have hlen' : (x.f.data.take (stays k x.f)).length = stays k x.f := by rw [List.length_take]; omega
        have H10 : Hold W0 ((FileA (crashX k x)).sep _) _ := file_shut (x := crashX k x) (v := .slice ao (stays k x.f) (stays k x.f)) (by
          show Hold W0 ((Blk x.blk #[.slice ao (stays k x.f) (stays k x.f), .int .i64 (stays k x.f)] 72).sep ((Row 5 1 _ (x.f.data.take (stays k x.f)).length (u8s (x.f.data.take (stays k x.f)))).sep _)) _
          rw [hlen']
          exact H9)
        have H11 := Hold.assoc.2 H10
        rw [← files_split, ← crashL_strike ha hc, ← hac] at H11
        exact H11.up2.up3.up2)
      have HL2 : Hid (∀ w' : World, Hold W0 ((RangeA mb r (ents l) (ents (strike lr x.f.name))).sep ((Blk b #[.int .i64 d.room, .map (some mb), .bool d.fused, .int .i64 d.left] 53).sep ((FilesA (crashL k (strike lr x.f.name) l)).sep R))) w' → w'.rangeLeft mb r = (ents (strike lr x.f.name)).length) := Lib.hid fun w' h => h.range_left
      have Hlt := Lib.hid hlt
      have Hsx := Lib.hid (show ∀ y ∈ strike lr x.f.name, y ∈ l from fun y hy => Hsub.out y (strike_mem hy))
      have Hnx := Lib.hid (strike_nodup Hnd.out x.f.name)
      have hsd : Hid (stays k x.f = x.f.lasts + k % (x.f.data.length - x.f.lasts + 1)) := Lib.hid rfl
      obtain ⟨xb, hxb⟩ : ∃ xb, xb = x.blk := ⟨_, rfl⟩
      obtain ⟨n, hn⟩ : ∃ n, n = x.f.data.length := ⟨_, rfl⟩
      obtain ⟨ls, hls⟩ : ∃ ls, ls = x.f.lasts := ⟨_, rfl⟩
      obtain ⟨st, hst'⟩ : ∃ st, st = stays k x.f := ⟨_, rfl⟩
      unfold ptr at hen
      rw [← hn, ← hls, ← hst'] at hsd
      rw [← hst', ← hxb] at HF
      rw [← hn, ← hls] at hw
      rw [← hxb] at c0 c1 f0 f1
      rw [← hn] at c0 hlen hsl
      rw [← hls] at c1
      rw [← hst'] at hsl hst
      rw [← hn] at hst
      rw [← hxb] at hen
      show wpList _ _ _ _ _ _
      unfold ptr
      rw [← hxb]
      clear hxb hn hls hst' H4 H5 H6 H7 hp hlt hac hxl ha hc
      obtain ⟨md, hmd⟩ : ∃ md, md = k % (n - ls + 1) := ⟨_, rfl⟩
      have hmd2 : md < n - ls + 1 := by rw [hmd]; exact Nat.mod_lt _ (by omega)
      have a1 : IntKind.i64.wrap ((n : Int) - (ls : Int)) = (n : Int) - (ls : Int) := IntWalk.i64_in _ (by omega)
      have a2 : IntKind.i64.wrap ((n : Int) - (ls : Int) + 1) = (n : Int) - (ls : Int) + 1 := IntWalk.i64_in _ (by omega)
      have a3 : ¬ ((n : Int) - (ls : Int) + 1 = 0) := by omega
      have a4 : Int.tmod (k : Int) ((n : Int) - (ls : Int) + 1) = (md : Int) := by
        have e : (n : Int) - (ls : Int) + 1 = ((n - ls + 1 : Nat) : Int) := by omega
        rw [e, ← Int.ofNat_tmod, hmd]
      have a5 : IntKind.i64.wrap ((ls : Int) + (md : Int)) = (st : Int) := by
        rw [IntWalk.i64_in _ (by omega)]
        have := hsd.out
        rw [← hmd] at this; omega
      have e0 : w2.cell? ⟨xb, 0, none⟩ = some (.slice ao n cap) := c0.trans (by rw [show x.f.lasts = x.f.lasts from rfl]; rfl)
      have e1 : w2.cell? ⟨xb, 1, none⟩ = some (.int .i64 ls) := c1.trans rfl
      have HG := Lib.hid HF.out.drew
      clear c0 c1 hmd hmd2 HF
      go_upto_region 4 with fail
      go_region_held3 (fun w' => w'.cell? ⟨xb, 0, none⟩ = some (.slice ao n cap) ∧ w'.cell? ⟨xb, 1, none⟩ = some (.int .i64 ls)) (go_keep) (fail)
      clear a1 a2 a3 a4 a5
      go_wp2
      go_roundw
      case rel => exact ⟨strike lr x.f.name, Hsx.out, Hnx.out, HG.out⟩
      case measure => rw [HL.out, HL2.out _ HG.out]; exact Hlt.out
set_option maxRecDepth 100000 in
set_option maxHeartbeats 1600000 in
theorem crash_zero {W0 w : World} {R : Asrt} {b : Nat} {d : D} (H : Hold W0 ((DiskA b d).sep R) w) (n0 : Int) (hn0 : n0 = 0 ∨ n0 < 0) (hwf : ∀ f ∈ d.fs, f.lasts ≤ f.data.length ∧ f.data.length ≤ 4611686018427387904) :
    Calls Try.prog 16 #[ptr b, .int .i64 n0] w fun e w' => e = .returned (.tuple #[]) ∧ Hold W0 ((DiskA b (d.crash 0)).sep R) w' := by
  obtain ⟨mb, l, hl, H1⟩ := disk_open H
  have k1 := blk_cell H1.blk 1
  have hnn := H1.up2.map.nodup
  rw [ents_names] at hnn
  have Hl := Lib.hid hl
  have H2 := Lib.hid H1.up2
  have Hnn : Hid (names l).Nodup := Lib.hid hnn
  have Hwf : Hid (∀ x ∈ l, x.f.lasts ≤ x.f.data.length ∧ x.f.data.length ≤ 4611686018427387904) := Lib.hid fun x hx => hwf _ (by rw [← hl]; exact List.mem_map.2 ⟨x, hx, rfl⟩)
  clear H1 hl hnn H hwf
  show Calls Try.prog 16 #[.pointer (some ⟨b, 0, none⟩), .int .i64 n0] w _
  rcases hn0 with rfl | hn0
  all_goals
   go_enter Try.func16, Try.ntmps16
   go_wp2_with (at_range; refine wpList_mrange H2.out rfl _ 51 rfl Try.underlying51 rfl ?_; intro r w1 H3)
   go_frame
   go_loopw [] (fun wr => CrashRel W0 R b mb r d l 0 wr) (fun wr => wr.rangeLeft mb r)
   case atStart => exact ⟨l, fun x hx => hx, Hnn.out, by rw [crashL_all]; exact H3⟩
   case round =>
     clear H3 k1 H2
     obtain ⟨lr, hsub, hnd, H4⟩ := hrel
     have Hsub := Lib.hid hsub
     have Hnd := Lib.hid hnd
     have HL := Lib.hid H4.range_left
     clear hsub hnd
     go_wp2_with (at_next; refine wpList_mnext H4 rfl _ rfl rfl ?_ ?_)
     · intro hnil
       have HM : Hid (Hold W0 ((DiskA b (d.crash 0)).sep R) (wr.setCell ⟨b, 2, none⟩ (.bool false))) := Lib.hid (by
         have e : lr = [] := by
           cases lr with
           | nil => rfl
           | cons x r => simp [ents] at hnil
         have H5 := H4.range_map.up2
         rw [e, ← ents_crashL 0 [] l, crashL_nil] at H5
         refine disk_shut (d := d.crash 0) (mb := mb) (l := l.map (crashX 0)) ?_ (H5.setB 2 (.bool false))
         rw [D.crash, ← Hl.out, List.map_map, List.map_map]; rfl)
       have k2 := blk_cell H4.up2.blk 2
       have f2 := blk_free H4.up2.blk 2
       clear hnil H4
       go_wp2
       go_end0
       exact ⟨rfl, HM.out⟩
     · intro s v w2 hp hlt H5 hen
       obtain ⟨x, hx, hxe⟩ := ents_mem hp
       simp only [Prod.mk.injEq] at hxe
       obtain ⟨rfl, rfl⟩ := hxe
       rw [mdel_ents] at H5 hlt
       have hxl := Hsub.out x hx
       obtain ⟨a, c, hac⟩ := List.append_of_mem hxl
       obtain ⟨ha, hc⟩ := nodup_split Hnn.out hac
       have hw := Hwf.out x hxl
       have H6 := H5.up3
       rw [hac, crashL_split hx, files_split] at H6
       obtain ⟨v, H7⟩ := file_open (Hold.assoc.1 H6)
       obtain ⟨ao, cap, rfl⟩ := H7.up2.own.shape
       have c0 := blk_cell H7.blk 0
       have c1 := blk_cell H7.blk 1
       have f0 := blk_free H7.blk 0
       have f1 := blk_free H7.blk 1
       have hlen := H7.up2.sl.run_len Try.underlying33
       have hst : stays 0 x.f ≤ x.f.data.length := by
         have := Nat.mod_lt 0 (show 0 < x.f.data.length - x.f.lasts + 1 by omega)
         unfold stays; omega
       have hsl := run_slice_cut (P := Try.prog) H7.up2.own Try.underlying33 Try.size5 hst (k := .i64) (k' := .i64)
       have HF : Hid (Hold W0 ((RangeA mb r (ents l) (ents (strike lr x.f.name))).sep ((Blk b #[.int .i64 d.room, .map (some mb), .bool d.fused, .int .i64 d.left] 53).sep ((FilesA (crashL 0 (strike lr x.f.name) l)).sep R)))
           ((w2.setCell ⟨x.blk, 0, none⟩ (.slice ao (stays 0 x.f) (stays 0 x.f))).setCell ⟨x.blk, 1, none⟩ (.int .i64 (stays 0 x.f)))) := Lib.hid (by
         have H8a := H7.up2.cut hst
         rw [Nat.mul_one, u8s_take] at H8a
         have H8 := H8a.up2
         have H9 := (H8.setB 0 (.slice ao (stays 0 x.f) (stays 0 x.f))).setB 1 (.int .i64 (stays 0 x.f))
         have hlen' : (x.f.data.take (stays 0 x.f)).length = stays 0 x.f := by rw [List.length_take]; omega
         have H10 : Hold W0 ((FileA (crashX 0 x)).sep _) _ := file_shut (x := crashX 0 x) (v := .slice ao (stays 0 x.f) (stays 0 x.f)) (by
           show Hold W0 ((Blk x.blk #[.slice ao (stays 0 x.f) (stays 0 x.f), .int .i64 (stays 0 x.f)] 72).sep ((Row 5 1 _ (x.f.data.take (stays 0 x.f)).length (u8s (x.f.data.take (stays 0 x.f)))).sep _)) _
           rw [hlen']
           exact H9)
         have H11 := Hold.assoc.2 H10
         rw [← files_split, ← crashL_strike ha hc, ← hac] at H11
         exact H11.up2.up3.up2)
       have HL2 : Hid (∀ w' : World, Hold W0 ((RangeA mb r (ents l) (ents (strike lr x.f.name))).sep ((Blk b #[.int .i64 d.room, .map (some mb), .bool d.fused, .int .i64 d.left] 53).sep ((FilesA (crashL 0 (strike lr x.f.name) l)).sep R))) w' → w'.rangeLeft mb r = (ents (strike lr x.f.name)).length) := Lib.hid fun w' h => h.range_left
       have Hlt := Lib.hid hlt
       have Hsx := Lib.hid (show ∀ y ∈ strike lr x.f.name, y ∈ l from fun y hy => Hsub.out y (strike_mem hy))
       have Hnx := Lib.hid (strike_nodup Hnd.out x.f.name)
       have hsd : Hid (stays 0 x.f = x.f.lasts + 0 % (x.f.data.length - x.f.lasts + 1)) := Lib.hid rfl
       obtain ⟨xb, hxb⟩ : ∃ xb, xb = x.blk := ⟨_, rfl⟩
       obtain ⟨n, hn⟩ : ∃ n, n = x.f.data.length := ⟨_, rfl⟩
       obtain ⟨ls, hls⟩ : ∃ ls, ls = x.f.lasts := ⟨_, rfl⟩
       obtain ⟨st, hst'⟩ : ∃ st, st = stays 0 x.f := ⟨_, rfl⟩
       unfold ptr at hen
       rw [← hn, ← hls, ← hst'] at hsd
       rw [← hst', ← hxb] at HF
       rw [← hn, ← hls] at hw
       rw [← hxb] at c0 c1 f0 f1
       rw [← hn] at c0 hlen hsl
       rw [← hls] at c1
       rw [← hst'] at hsl hst
       rw [← hn] at hst
       rw [← hxb] at hen
       show wpList _ _ _ _ _ _
       unfold ptr
       rw [← hxb]
       clear hxb hn hls hst' H4 H5 H6 H7 hp hlt hac hxl ha hc
       obtain rfl : st = ls := by have := hsd.out; simp at this; exact this
       have a1 : IntKind.i64.wrap ((n : Int) - (st : Int)) = (n : Int) - (st : Int) := IntWalk.i64_in _ (by omega)
       have a2 : IntKind.i64.wrap ((n : Int) - (st : Int) + 1) = (n : Int) - (st : Int) + 1 := IntWalk.i64_in _ (by omega)
       have a3 : ¬ ((n : Int) - (st : Int) + 1 = 0) := by omega
       have a4 : Int.tmod 0 ((n : Int) - (st : Int) + 1) = 0 := Int.zero_tmod _
       have a5 : IntKind.i64.wrap (st : Int) = (st : Int) := IntWalk.i64_in _ (by omega)
       have e0 : w2.cell? ⟨xb, 0, none⟩ = some (.slice ao n cap) := c0.trans (by rw [show x.f.lasts = x.f.lasts from rfl]; rfl)
       have e1 : w2.cell? ⟨xb, 1, none⟩ = some (.int .i64 st) := c1.trans rfl
       have HG := Lib.hid HF.out.drew
       clear c0 c1 HF
       go_upto_region 4 with fail
       go_region_held3 (fun w' => w'.cell? ⟨xb, 0, none⟩ = some (.slice ao n cap) ∧ w'.cell? ⟨xb, 1, none⟩ = some (.int .i64 st)) (go_keep) (fail)
       clear a1 a2 a3 a4
       try rw [a5]
       go_wp2
       go_roundw
       case rel => exact ⟨strike lr x.f.name, Hsx.out, Hnx.out, HG.out⟩
       case measure => rw [HL.out, HL2.out _ HG.out]; exact Hlt.out
/-- Crash, whatever is drawn -/
theorem crash_any {W0 w : World} {R : Asrt} {b : Nat} {d : D} (H : Hold W0 ((DiskA b d).sep R) w) (n : Int) (hn : n ≤ 9223372036854775807) (hwf : ∀ f ∈ d.fs, f.lasts ≤ f.data.length ∧ f.data.length ≤ 4611686018427387904) :
    Calls Try.prog 16 #[ptr b, .int .i64 n] w fun e w' => e = .returned (.tuple #[]) ∧ Hold W0 ((DiskA b (d.crash n.toNat)).sep R) w' := by
  by_cases h : 0 < n
  · obtain ⟨k, rfl⟩ : ∃ k : Nat, n = k := ⟨n.toNat, by omega⟩
    exact crash_pos H k (by omega) (by omega) hwf
  · rw [show n.toNat = 0 from by omega]
    exact crash_zero H n (by omega) hwf
end Go.Proofs.Ytkbfjgmgckbogaa.Dsk
