/-
  Copy of the program's disk (chapter 3).
-/
import Derived.Test.YtnaggipeliifgaaDiskUsed
import Derived.Test.YtnaggipeliifgaaDiskAppend
import Derived.Test.YtnaggipeliifgaaDiskRead
import Derived.Test.YtnaggipeliifgaaDiskCrash
import Derived.Deep.RegionLaw
import Derived.Deep.RegionWith
import Derived.RegionTactic
import Derived.BigRegion
namespace Go.Proofs.Ytnaggipeliifgaa.Dsk
open Go.RowKit L Oct
def NewA (b3 mb3 room : Nat) (l3 : List Fl) : Asrt := (Blk b3 #[.int .i64 room, .map (some mb3), .bool false, .int .i64 0] 60).sep ((MapA mb3 (ents l3)).sep (FilesA l3))
def DCRel (W0 : World) (R : Asrt) (b mb r b3 mb3 : Nat) (d : D) (l : List Fl) (wr : World) : Prop :=
  ∃ (lr l3 : List Fl), (∀ x ∈ lr, x ∈ l) ∧ (names lr).Nodup ∧ (∀ x ∈ lr, ∀ y ∈ l3, y.f.name ≠ x.f.name) ∧ (l3.map Fl.f ++ lr.map Fl.f).Perm (l.map Fl.f) ∧
    Hold W0 ((RangeA mb r (ents l) (ents lr)).sep ((Blk b #[.int .i64 d.room, .map (some mb), .bool d.fused, .int .i64 d.left] 60).sep ((FilesA l).sep ((NewA b3 mb3 d.room l3).sep R)))) wr
theorem strike_perm : ∀ {l : List Fl}, (names l).Nodup → ∀ {x : Fl}, x ∈ l → (x.f :: (strike l x.f.name).map Fl.f).Perm (l.map Fl.f) := by
  intro l hn x hx
  obtain ⟨a, c, rfl⟩ := List.append_of_mem hx
  have h := nodup_split hn rfl
  have e : strike (a ++ x :: c) x.f.name = a ++ c := by
    unfold strike
    rw [List.filter_append, List.filter_cons_of_neg (by simp), List.filter_eq_self.2 (fun y hy => by simp [h.1 y hy]), List.filter_eq_self.2 (fun y hy => by simp [h.2 y hy])]
  rw [e, List.map_append, List.map_append, List.map_cons]
  exact List.perm_middle.symm
theorem range_first {W0 w : World} {A1 A2 A3 A4 A5 A6 A7 A8 A9 R : Asrt} (H : Hold W0 (A1.sep (A2.sep (A3.sep (A4.sep (A5.sep (A6.sep (A7.sep (A8.sep (A9.sep R))))))))) w) : Hold W0 (A9.sep (A1.sep (A2.sep (A3.sep (A4.sep (A5.sep (A6.sep (A7.sep (A8.sep R))))))))) w := H.perm (by ac_rfl)
theorem copy_round {W0 w : World} {R : Asrt} {b mb r b3 mb3 nb : Nat} {d : D} {l lr l3 a c : List Fl} {x : Fl} {v0 v6 : Value} (hsub : ∀ x ∈ lr, x ∈ l) (hnd : (names lr).Nodup) (hdis : ∀ x ∈ lr, ∀ y ∈ l3, y.f.name ≠ x.f.name) (hpm : (l3.map Fl.f ++ lr.map Fl.f).Perm (l.map Fl.f)) (hx : x ∈ lr) (hac : l = a ++ x :: c)
    (H : Hold W0 ((MapA mb3 (mput (ents l3) x.f.name (.pointer (some ⟨nb, 0, none⟩)))).sep ((Blk nb #[v6, .int .i64 x.f.lasts] 64).sep ((Row 5 1 v6 x.f.data.length (u8s x.f.data)).sep ((Blk b3 #[.int .i64 d.room, .map (some mb3), .bool false, .int .i64 0] 60).sep ((Blk x.blk #[v0, .int .i64 x.f.lasts] 64).sep ((Row 5 1 v0 x.f.data.length (u8s x.f.data)).sep ((FilesA l3).sep ((FilesA (a ++ c)).sep ((RangeA mb r (ents l) (ents (strike lr x.f.name))).sep ((Blk b #[.int .i64 d.room, .map (some mb), .bool d.fused, .int .i64 d.left] 60).sep R)))))))))) w) :
    DCRel W0 R b mb r b3 mb3 d l w := by
  have hnone : l3.find? (fun y => decide (y.f.name = x.f.name)) = none := List.find?_eq_none.2 fun y hy => by simpa using hdis x hx y hy
  rw [get_none hnone] at H
  have hxl := hsub x hx
  refine ⟨strike lr x.f.name, l3 ++ [⟨x.f, nb⟩], fun y hy => hsub y (strike_mem hy), strike_nodup hnd _, fun y hy z hz => ?_, ?_, ?_⟩
  · rcases List.mem_append.1 hz with hz | hz
    · exact hdis y (strike_mem hy) z hz
    · obtain rfl := List.mem_singleton.1 hz
      have := (List.mem_filter.1 hy).2
      intro e
      simp [e.symm] at this
  · refine List.Perm.trans ?_ hpm
    rw [List.map_append, List.append_assoc]
    exact List.Perm.append_left _ (strike_perm hnd (x := x) hx)
  · obtain ⟨m1, hm1⟩ : ∃ A, A = MapA mb3 (ents l3 ++ [(x.f.name, .pointer (some ⟨nb, 0, none⟩))]) := ⟨_, rfl⟩
    rw [← hm1] at H
    have h1 := file_shut (x := ⟨x.f, nb⟩) (H.up2.perm (B := (Blk nb #[v6, .int .i64 x.f.lasts] 64).sep ((Row 5 1 v6 x.f.data.length (u8s x.f.data)).sep (m1.sep ((Blk b3 #[.int .i64 d.room, .map (some mb3), .bool false, .int .i64 0] 60).sep ((Blk x.blk #[v0, .int .i64 x.f.lasts] 64).sep ((Row 5 1 v0 x.f.data.length (u8s x.f.data)).sep ((FilesA l3).sep ((FilesA (a ++ c)).sep ((RangeA mb r (ents l) (ents (strike lr x.f.name))).sep ((Blk b #[.int .i64 d.room, .map (some mb), .bool d.fused, .int .i64 d.left] 60).sep R)))))))))) (by ac_rfl))
    have h2 := file_shut (x := x) (h1.perm (B := (Blk x.blk #[v0, .int .i64 x.f.lasts] 64).sep ((Row 5 1 v0 x.f.data.length (u8s x.f.data)).sep ((FileA ⟨x.f, nb⟩).sep (m1.sep ((Blk b3 #[.int .i64 d.room, .map (some mb3), .bool false, .int .i64 0] 60).sep ((FilesA l3).sep ((FilesA (a ++ c)).sep ((RangeA mb r (ents l) (ents (strike lr x.f.name))).sep ((Blk b #[.int .i64 d.room, .map (some mb), .bool d.fused, .int .i64 d.left] 60).sep R))))))))) (by ac_rfl))
    have e1 : FilesA l = (FileA x).sep (FilesA (a ++ c)) := by rw [hac, files_split]
    have e2 : FilesA (l3 ++ [⟨x.f, nb⟩]) = (FileA ⟨x.f, nb⟩).sep (FilesA l3) := by rw [files_split, List.append_nil]
    have e3 : MapA mb3 (ents (l3 ++ [⟨x.f, nb⟩])) = m1 := by
      rw [hm1]
      simp [ents, ptr]
    refine h2.perm ?_
    unfold NewA
    rw [e1, e2, e3]
    ac_rfl
set_option maxRecDepth 100000 in
set_option maxHeartbeats 3200000 in
theorem copy_any {W0 w : World} {R : Asrt} {b : Nat} {d : D} (H : Hold W0 ((DiskA b d).sep R) w) (hn : ∀ f ∈ d.fs, f.data.length ≤ 1073741824) :
    Calls Try.prog 25 #[ptr b] w (RetV fun v' w' => ∃ b3 fs', v' = ptr b3 ∧ fs'.Perm d.fs ∧ Hold W0 ((DiskA b3 ⟨d.room, fs', false, 0⟩).sep ((DiskA b d).sep R)) w') := by
  obtain ⟨mb, l, hl, H1⟩ := disk_open H
  have k0 := blk_cell H1.blk 0
  have hnn := H1.up2.map.nodup
  rw [ents_names] at hnn
  have hmk := fun w' : World => run_makeMap (P := Try.prog) 58 w'
  have Hl := Lib.hid hl
  have Hn := Lib.hid hn
  have HM := (H1.addMap).addBlk (cs := #[.int .i64 d.room, .map (some w.heap.size), .bool false, .int .i64 0]) (t := 60) (b := w.heap.size + 1) (by simp)
  have HM' := Lib.hid HM
  have Hnn := Lib.hid hnn
  clear H H1 hl hn HM hnn
  show Calls Try.prog 25 #[.pointer (some ⟨b, 0, none⟩)] w _
  go_enter Try.func25, Try.ntmps25
  go_upto_region 4 with fail
  obtain ⟨mb3, hmb3⟩ : ∃ x, x = w.heap.size := ⟨_, rfl⟩
  obtain ⟨b3, hb3⟩ : ∃ x, x = w.heap.size + 1 := ⟨_, rfl⟩
  obtain ⟨w1, hw1⟩ : ∃ w1, w1 = (w.alloc (.map #[] 0)).alloc (.cells #[.int .i64 d.room, .map (some w.heap.size), .bool false, .int .i64 0] 60) := ⟨_, rfl⟩
  rw [← hw1, ← hb3, ← hmb3] at HM'
  rw [← hw1, ← hb3]
  clear hw1 hb3 hmb3 k0 hmk
  have H2 : Hold W0 ((MapA mb (ents l)).sep ((Blk b #[.int .i64 d.room, .map (some mb), .bool d.fused, .int .i64 d.left] 60).sep ((FilesA l).sep ((NewA b3 mb3 d.room []).sep R)))) w1 := HM'.out.perm (by
    unfold NewA
    rw [show FilesA [] = Asrt.emp from rfl, sep_comm _ Asrt.emp, emp_sep]
    show _ = _
    rw [show ents [] = [] from rfl]
    ac_rfl)
  have k1 := blk_cell H2.up2.blk 1
  have H2' := Lib.hid H2
  clear HM' H2
  go_wp2_with (at_range; refine wpList_mrange H2'.out rfl _ 58 rfl Try.underlying58 rfl ?_; intro r w2 H3)
  go_frame
  go_loopw [] (fun wr => DCRel W0 R b mb r b3 mb3 d l wr) (fun wr => wr.rangeLeft mb r)
  case atStart => exact ⟨l, [], fun x hx => hx, Hnn.out, (fun x _ y hy => by cases hy), List.Perm.refl _, H3⟩
  case round =>
    clear H3 k1 H2' Hnn
    obtain ⟨lr, l3, hsub, hnd, hdis, hpm, H4⟩ := hrel
    have Hsub := Lib.hid hsub
    have Hnd := Lib.hid hnd
    have Hdis := Lib.hid hdis
    have Hpm := Lib.hid hpm
    have HL := Lib.hid H4.range_left
    clear hsub hnd hdis hpm
    go_wp2_with (at_next; refine wpList_mnext H4 rfl _ rfl rfl ?_ ?_)
    · intro hnil
      have e : lr = [] := by
        cases lr with
        | nil => rfl
        | cons x r => simp [ents] at hnil
      have hp2 := Hpm.out
      rw [e, List.map_nil, List.append_nil, Hl.out] at hp2
      have HP2 := Lib.hid hp2
      have HF : Hid (Hold W0 ((DiskA b3 ⟨d.room, l3.map Fl.f, false, 0⟩).sep ((DiskA b d).sep R)) wr) := Lib.hid (by
        have h1 := disk_shut Hl.out (H4.range_map.up2)
        have h2 : Hold W0 ((Blk b3 #[.int .i64 d.room, .map (some mb3), .bool false, .int .i64 0] 60).sep ((MapA mb3 (ents l3)).sep ((FilesA l3).sep ((DiskA b d).sep R)))) wr := h1.perm (by unfold NewA; ac_rfl)
        exact disk_shut (d := ⟨d.room, l3.map Fl.f, false, 0⟩) (mb := mb3) (l := l3) rfl h2)
      clear hnil H4 hp2 e
      go_wp2
      go_ret
      exact ⟨_, rfl, b3, _, rfl, HP2.out, HF.out⟩
    · intro s v w4 hp hlt H5 hen
      obtain ⟨x, hx, hxe⟩ := ents_mem hp
      simp only [Prod.mk.injEq] at hxe
      obtain ⟨rfl, rfl⟩ := hxe
      rw [mdel_ents] at H5 hlt
      have hxl := Hsub.out x hx
      obtain ⟨a, c, hac⟩ := List.append_of_mem hxl
      have HL2 := Lib.hid H5.range_left
      have Hlt := Lib.hid hlt
      have H6 := H5.up3
      rw [hac, files_split] at H6
      obtain ⟨v0, H7⟩ := file_open (Hold.assoc.1 H6)
      rw [← hac] at H7
      have hxn := Hn.out x.f (by rw [← Hl.out]; exact List.mem_map.2 ⟨x, hxl, rfl⟩)
      have H8 : Hold W0 ((Blk b3 #[.int .i64 d.room, .map (some mb3), .bool false, .int .i64 0] 60).sep ((Blk x.blk #[v0, .int .i64 x.f.lasts] 64).sep ((Row 5 1 v0 x.f.data.length (u8s x.f.data)).sep ((MapA mb3 (ents l3)).sep ((FilesA l3).sep ((FilesA (a ++ c)).sep ((RangeA mb r (ents l) (ents (strike lr x.f.name))).sep ((Blk b #[.int .i64 d.room, .map (some mb), .bool d.fused, .int .i64 d.left] 60).sep R)))))))) w4.drew := H7.drew.perm (by unfold NewA; ac_rfl)
      have d1 : w4.drew.cell? ⟨b3, 1, none⟩ = some (.map (some mb3)) := blk_cell H8.blk 1
      have e0 : w4.drew.cell? ⟨x.blk, 0, none⟩ = some v0 := blk_cell H8.up2.blk 0
      have e1 : w4.drew.cell? ⟨x.blk, 1, none⟩ = some (.int .i64 x.f.lasts) := blk_cell H8.up2.blk 1
      have H8' := Lib.hid H8
      have Hhac := Lib.hid hac
      clear H4 H5 H6 H7 H8 hp hlt hac
      unfold ptr at hen
      go_wp2_with fail
      unfold ptr
      go_region_with
        (first
          | (go_at_call 35; refine (clone_any v0 x.f.data _ H8'.out.up3.sl (by omega)).mono ?_; rintro e w6 ⟨v6, rfl, ho6, hb6⟩; have H9 := H8'.out.addRow hb6 ho6; obtain ⟨ao6, cap6, rfl⟩ := ho6.shape; have f1 : w6.cell? ⟨b3, 1, none⟩ = some (.map (some mb3)) := blk_cell H9.up2.blk 1; have f2 : w6.cell? ⟨x.blk, 1, none⟩ = some (.int .i64 x.f.lasts) := blk_cell H9.up3.blk 1; have H10 := H9.addBlk (cs := #[.slice ao6 x.f.data.length cap6, .int .i64 x.f.lasts]) (t := 64) (b := w6.heap.size) rfl; have g1 : (w6.alloc (.cells #[.slice ao6 x.f.data.length cap6, .int .i64 x.f.lasts] 64)).cell? ⟨b3, 1, none⟩ = some (.map (some mb3)) := blk_cell H10.up3.blk 1; obtain ⟨ob, hrun, hmp⟩ := run_put (P := Try.prog) (Hold.map H10.up6) Try.underlying58 Try.underlying9 x.f.name (.pointer (some ⟨w6.heap.size, 0, none⟩)); have HF := Lib.hid (Hold.setMap H10.up6 hmp); clear H9 H10 hmp ho6 hb6)
          | fail)
      all_goals
        have HG : Hid (DCRel W0 R b mb r b3 mb3 d l _) := Lib.hid (copy_round Hsub.out Hnd.out Hdis.out Hpm.out hx Hhac.out HF.out)
        have HL3 := Lib.hid (Hold.range_left (range_first HF.out))
        clear HF
        go_wp2
        go_roundw
        case rel => exact HG.out
        case measure => rw [HL3.out, HL.out]; exact Hlt.out
end Go.Proofs.Ytnaggipeliifgaa.Dsk
