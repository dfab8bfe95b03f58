/-
  Rename of chapter 3.
-/
import Derived.Test.YtkbfjgmgckbogaaDiskEach
namespace Go.Proofs.Ytkbfjgmgckbogaa.Dsk
open Go.RowKit L Oct
/-- a file is laid under a name, in the place of what had it -/
def layF (fs : List AF) (name : ByteArray) (data : List UInt8) (lasts : Nat) : List AF :=
  match getF fs name with
  | none => fs ++ [⟨name, data, lasts⟩]
  | some _ => updF fs name fun _ => ⟨name, data, lasts⟩
def D.rename (d : D) (old name : ByteArray) : D × Nat :=
  if d.may [old, name] = 0 then match getF d.fs old with
    | none => (d, 7)
    | some f => ({ d with fs := layF (removeF old d.fs) name f.data f.lasts }.done, 0)
  else (d, d.may [old, name])
theorem mhas_ents (l : List Fl) (s : ByteArray) : mhas (ents l) s = (l.find? fun x => decide (x.f.name = s)).isSome := by
  induction l with
  | nil => rfl
  | cons x r ih =>
    by_cases h : x.f.name = s
    · simp [mhas, ents, h]
    · have e1 : mhas (ents (x :: r)) s = mhas (ents r) s := by simp [mhas, ents, h]
      rw [e1, ih]; simp [h]
theorem mput_some {a c : List Fl} {y : Fl} {s : ByteArray} (hy : y.f.name = s) (ha : ∀ z ∈ a, z.f.name ≠ s) (hc : ∀ z ∈ c, z.f.name ≠ s) (f : AF) (hf : f.name = s) (nb : Nat) :
    mput (ents (a ++ y :: c)) s (ptr nb) = ents (a ++ ⟨f, nb⟩ :: c) := by
  have h0 : mhas (ents (a ++ y :: c)) s = true := by rw [mhas_ents, List.find?_append, List.find?_eq_none.2 (fun z hz => by simpa using ha z hz)]; simp [hy]
  have h1 : ∀ l : List Fl, (∀ z ∈ l, z.f.name ≠ s) → (ents l).map (fun p => if p.1 = s then (s, ptr nb) else p) = ents l := by
    intro l hl
    conv => rhs; rw [← List.map_id (ents l)]
    refine List.map_congr_left fun p hp => ?_
    obtain ⟨z, hz, rfl⟩ := ents_mem hp
    simp [hl z hz]
  rw [mput, if_pos h0]
  have e : ∀ (a c : List Fl) (y : Fl), ents (a ++ y :: c) = ents a ++ (y.f.name, ptr y.blk) :: ents c := by intro a c y; simp [ents]
  rw [e, e, List.map_append, List.map_cons, h1 a ha, h1 c hc, if_pos hy, hf]
theorem ren_shut {W0 w : World} {R : Asrt} {b mb : Nat} {d : D} {l1 : List Fl} {x : Fl} {old s : ByteArray} (hl : l1.map Fl.f = removeF old d.fs) (hnn : (names l1).Nodup)
    (H : Hold W0 ((MapA mb (mput (ents l1) s (ptr x.blk))).sep ((Blk b #[.int .i64 d.room, .map (some mb), .bool d.fused, .int .i64 d.left] 53).sep ((FileA x).sep ((FilesA l1).sep R)))) w) :
    Hold W0 ((DiskA b { d with fs := layF (removeF old d.fs) s x.f.data x.f.lasts }).sep R) w := by
  cases hy : l1.find? (fun x => decide (x.f.name = s)) with
  | none =>
    have hg : getF (removeF old d.fs) s = none := by rw [← hl, get_map, hy]; rfl
    rw [get_none hy] at H
    refine disk_shut (d := { d with fs := layF (removeF old d.fs) s x.f.data x.f.lasts }) (mb := mb) (l := l1 ++ [⟨⟨s, x.f.data, x.f.lasts⟩, x.blk⟩]) ?_ ?_
    · show _ = layF (removeF old d.fs) s x.f.data x.f.lasts
      simp only [layF, hg]
      rw [← hl]; simp
    · rw [ents_app, files_split, List.append_nil]
      have H' : Hold W0 ((MapA mb (ents l1 ++ [(s, ptr x.blk)])).sep ((Blk b #[.int .i64 d.room, .map (some mb), .bool d.fused, .int .i64 d.left] 53).sep ((FileA ⟨⟨s, x.f.data, x.f.lasts⟩, x.blk⟩).sep ((FilesA l1).sep R)))) w := H
      exact H'.perm (by ac_rfl)
  | some y =>
    have hg : getF (removeF old d.fs) s = some y.f := by rw [← hl, get_map, hy]; rfl
    obtain ⟨a, c, hac, hys, hya, hyc⟩ := get_split hnn hy
    subst hac
    rw [mput_some hys hya hyc ⟨s, x.f.data, x.f.lasts⟩ rfl, files_split] at H
    have H' : Hold W0 ((FileA y).sep ((MapA mb (ents (a ++ ⟨⟨s, x.f.data, x.f.lasts⟩, x.blk⟩ :: c))).sep ((Blk b #[.int .i64 d.room, .map (some mb), .bool d.fused, .int .i64 d.left] 53).sep ((FileA ⟨⟨s, x.f.data, x.f.lasts⟩, x.blk⟩).sep ((FilesA (a ++ c)).sep R))))) w := by
      refine Hold.perm (A := (MapA mb (ents (a ++ ⟨⟨s, x.f.data, x.f.lasts⟩, x.blk⟩ :: c))).sep ((Blk b #[.int .i64 d.room, .map (some mb), .bool d.fused, .int .i64 d.left] 53).sep ((FileA ⟨⟨s, x.f.data, x.f.lasts⟩, x.blk⟩).sep (((FileA y).sep (FilesA (a ++ c))).sep R)))) H (by ac_rfl)
    have H2 := H'.drop1
    refine disk_shut (d := { d with fs := layF (removeF old d.fs) s x.f.data x.f.lasts }) (mb := mb) (l := a ++ ⟨⟨s, x.f.data, x.f.lasts⟩, x.blk⟩ :: c) ?_ ?_
    · show _ = layF (removeF old d.fs) s x.f.data x.f.lasts
      simp only [layF, hg]
      rw [← hl, upd_split _ hys hya hyc]; simp
    · rw [files_split]
      exact H2.perm (by ac_rfl)
set_option maxRecDepth 100000 in
set_option maxHeartbeats 1600000 in
theorem rename_any {W0 w : World} {R : Asrt} {b : Nat} {d : D} (H : Hold W0 ((DiskA b d).sep R) w) (hd : d.left ≤ 9223372036854775807) (old s : ByteArray) :
    Calls Try.prog 56 #[ptr b, .string old, .string s] w (RetApp W0 R b (d.rename old s)) := by
  have HA : Hid (Hold W0 ((DiskA b d).sep R) (w.alloc (.cells #[.string old, .string s] 9))) := Lib.hid (H.keeps ((Below.refl _ _).alloc (Nat.le_refl _) _))
  have Hd := Lib.hid hd
  clear H hd
  by_cases hm : d.may [old, s] = 0
  · have HM := Lib.hid hm
    have hlf := may_left hm
    obtain ⟨mb, l, hl, H1⟩ := disk_open HA.out
    have Hl := Lib.hid hl
    have HO := Lib.hid H1
    have k1 := blk_cell H1.blk 1
    have hlk0 := run_lookD (disk_mapAt H1) old
    have hnn := H1.up2.map.nodup
    rw [ents_names] at hnn
    clear hl H1 hm
    cases hx : l.find? (fun x => decide (x.f.name = old)) with
    | none =>
      rw [hx] at hlk0
      have hlk : (Instr.lookup 51 (.map (some mb)) (.string old) false).run Try.prog (w.alloc (.cells #[.string old, .string s] 9)) = .ok (.pointer none) (w.alloc (.cells #[.string old, .string s] 9)) := hlk0
      have hres : Hid (d.rename old s = (d, 7)) := Lib.hid (by rw [D.rename, if_pos HM.out, ← Hl.out, get_map, hx]; rfl)
      clear hx hlk0 hnn
      show Calls Try.prog 56 #[.pointer (some ⟨b, 0, none⟩), .string old, .string s] w _
      go_enter Try.func56, Try.ntmps56
      go_wp2_with (go_at_call 36; refine (may_any HA.out _ [old, s] (sl_built w [.string old, .string s] 9 (by unfold maxLen; simp))).mono ?_; rintro e w2 ⟨rfl, rfl⟩; rw [HM.out])
      go_ret
      rw [hres.out]
      exact ⟨rfl, HA.out⟩
    | some x =>
      rw [hx] at hlk0
      have hlk : (Instr.lookup 51 (.map (some mb)) (.string old) false).run Try.prog (w.alloc (.cells #[.string old, .string s] 9)) = .ok (.pointer (some ⟨x.blk, 0, none⟩)) (w.alloc (.cells #[.string old, .string s] 9)) := hlk0
      have hgs : getF d.fs old = some x.f := by rw [← Hl.out, get_map, hx]; rfl
      have hres : Hid (d.rename old s = ({ d with fs := layF (removeF old d.fs) s x.f.data x.f.lasts }.done, 0)) := Lib.hid (by rw [D.rename, if_pos HM.out, hgs])
      have HS : Hid (∀ w', Hold W0 ((MapA mb (mput (mdel (ents l) old) s (ptr x.blk))).sep ((Blk b #[.int .i64 d.room, .map (some mb), .bool d.fused, .int .i64 d.left] 53).sep ((FilesA l).sep R))) w' → Hold W0 ((DiskA b { d with fs := layF (removeF old d.fs) s x.f.data x.f.lasts }).sep R) w') := Lib.hid (by
        obtain ⟨a, c, hac, hxs, hxa, hxc⟩ := get_split hnn hx
        intro w' h
        have hl1 : (strike l old).map Fl.f = removeF old d.fs := by rw [← Hl.out, remove_map]
        have e1 : strike l old = a ++ c := by rw [hac, strike_split hxs hxa hxc]
        refine ren_shut hl1 (strike_nodup (l := l) hnn old) (mb := mb) (x := x) ?_
        rw [mdel_ents] at h
        rw [e1] at h ⊢
        rw [hac, files_split] at h
        exact h.perm (by ac_rfl))
      have H5 := Lib.hid HO.out.up2
      clear hx hlk0 hnn hgs HO
      show Calls Try.prog 56 #[.pointer (some ⟨b, 0, none⟩), .string old, .string s] w _
      go_enter Try.func56, Try.ntmps56
      go_wp2_with (first
        | (go_at_call 36; refine (may_any HA.out _ [old, s] (sl_built w [.string old, .string s] 9 (by unfold maxLen; simp))).mono ?_; rintro e w2 ⟨rfl, rfl⟩; rw [HM.out])
        | (at_delete; refine wpList_mdel H5.out rfl _ _ 51 9 rfl Try.underlying51 Try.underlying9 rfl old rfl ?_; intro w3 H3; have k3 := blk_cell H3.up2.blk 1)
        | (at_mapUpdate; refine wpList_mput H3 rfl _ _ _ 51 rfl Try.underlying51 Try.underlying9 rfl s (ptr x.blk) rfl rfl ?_; intro w4 H4; have H6 := Lib.hid (HS.out _ H4); clear H4 H3)
        | (go_at_call 37; refine (done_any (W0 := W0) (R := R) (b := b) (d := { d with fs := layF (removeF old d.fs) s x.f.data x.f.lasts }) H6.out hlf.out Hd.out).mono ?_; rintro e w5 ⟨rfl, h5⟩; have H7 := Lib.hid h5; clear h5))
      go_ret
      rw [hres.out]
      exact ⟨rfl, H7.out⟩
  · have hres : Hid (d.rename old s = (d, d.may [old, s])) := Lib.hid (by rw [D.rename, if_neg hm])
    obtain ⟨m, hmm⟩ : ∃ m : Nat, m = d.may [old, s] := ⟨_, rfl⟩
    have hm0 : ((m : Int) == 0) = false := by rw [beq_eq_false_iff_ne]; omega
    rw [← hmm] at hres
    have Hm := Lib.hid hmm
    clear hmm hm
    show Calls Try.prog 56 #[.pointer (some ⟨b, 0, none⟩), .string old, .string s] w _
    go_enter Try.func56, Try.ntmps56
    go_wp2_with (go_at_call 36; refine (may_any HA.out _ [old, s] (sl_built w [.string old, .string s] 9 (by unfold maxLen; simp))).mono ?_; rintro e w2 ⟨rfl, rfl⟩; rw [← Hm.out])
    go_ret
    rw [hres.out]
    exact ⟨rfl, HA.out⟩
end Go.Proofs.Ytkbfjgmgckbogaa.Dsk
