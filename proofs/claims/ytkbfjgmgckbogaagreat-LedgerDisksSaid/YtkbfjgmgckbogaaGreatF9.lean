/-
  Texts that the proofs of this seat stand on, one behind the other: contracts of functions and plain lemmas. Conditions: those that each theorem states.
-/
import Derived.Test.YtkbfjgmgckbogaaGreatF8
import Derived.Test.YtkbfjgmgckbogaaGreatDiskCrash
/-
  Sync and Remove of chapter 3.
-/

namespace Go.Proofs.YtkbfjgmgckbogaaGreat.Dsk
open Go.RowKit L Oct
set_option maxHeartbeats 800000 in
theorem sync_any {W0 w : World} {R : Asrt} {b : Nat} {d : D} (H : Hold W0 ((DiskA b d).sep R) w) (hd : d.left ≤ 9223372036854775807) (v : Value) (names : List ByteArray) (hv : Reads W0 R 1 v names.length (strs names)) :
    Calls Tryz.prog 48 #[ptr b, v] w (RetApp W0 R b (d.sync names)) := by
  have he := each_sync H hd v names hv
  show Calls Tryz.prog 48 #[.pointer (some ⟨b, 0, none⟩), v] w _
  go_enter Tryz.func48, Tryz.ntmps48
  go_wp2_with (go_at_call 77; refine he.mono ?_; rintro e w2 ⟨rfl, h2⟩; have H2 := Lib.hid h2; clear h2)
  go_ret
  exact ⟨rfl, H2.out⟩
set_option maxHeartbeats 800000 in
theorem remove_any {W0 w : World} {R : Asrt} {b : Nat} {d : D} (H : Hold W0 ((DiskA b d).sep R) w) (hd : d.left ≤ 9223372036854775807) (v : Value) (names : List ByteArray) (hv : Reads W0 R 1 v names.length (strs names)) :
    Calls Tryz.prog 64 #[ptr b, v] w (RetApp W0 R b (d.remove names)) := by
  have H1 := (H.addBlk (cs := #[ptr b]) (t := 23) (b := w.heap.size) rfl).up2
  have c0 : (w.alloc (.cells #[.pointer (some ⟨b, 0, none⟩)] 23)).cell? ⟨w.heap.size, 0, none⟩ = some (.pointer (some ⟨b, 0, none⟩)) := blk_cell H1.up2.blk 0
  have he := each_remove H1 hd v names hv
  have hmf : ∀ (fn : Fn) (first cap : Array Value) (w : World), (Instr.makeFunc fn first cap).run Tryz.prog w = .ok (.func fn first cap) w := fun _ _ _ _ => rfl
  show Calls Tryz.prog 64 #[.pointer (some ⟨b, 0, none⟩), v] w _
  go_enter Tryz.func64, Tryz.ntmps64
  go_wp2_with (go_at_call 77; refine he.mono ?_; rintro e w2 ⟨rfl, h2⟩; have H2 := Lib.hid h2.up2.drop1; clear h2)
  go_ret
  exact ⟨rfl, H2.out⟩
end Go.Proofs.YtkbfjgmgckbogaaGreat.Dsk

/-
  What the disk's functions keep (chapter 3), plain.
-/


namespace Go.Proofs.YtkbfjgmgckbogaaGreat.Dsk
open Go.RowKit L Oct
def Nd (fs : List AF) : Prop := (fs.map AF.name).Nodup
theorem getF_name {fs : List AF} {s : ByteArray} {f : AF} (h : getF fs s = some f) : f ∈ fs ∧ f.name = s := by
  refine ⟨List.mem_of_find?_eq_some h, ?_⟩
  have := List.find?_some h
  simpa using this
theorem upd_none {fs : List AF} {s : ByteArray} {g : AF → AF} (h : ∀ f ∈ fs, f.name ≠ s) : updF fs s g = fs := by
  unfold updF
  conv => rhs; rw [← List.map_id fs]
  exact List.map_congr_left fun f hf => by simp [h f hf]
theorem nd_split {fs : List AF} {s : ByteArray} {f : AF} (hn : Nd fs) (h : getF fs s = some f) : ∃ a c, fs = a ++ f :: c ∧ f.name = s ∧ (∀ y ∈ a, y.name ≠ s) ∧ ∀ y ∈ c, y.name ≠ s := by
  obtain ⟨hx, a, c, rfl, ha⟩ := List.find?_eq_some_iff_append.1 h
  have hx' : f.name = s := by simpa using hx
  refine ⟨a, c, rfl, hx', fun y hy => by simpa using ha y hy, fun y hy e => ?_⟩
  unfold Nd at hn
  rw [List.map_append, List.map_cons, List.nodup_append] at hn
  exact (List.nodup_cons.1 hn.2.1).1 (List.mem_map.2 ⟨y, hy, by rw [e, hx']⟩)
theorem upd_at {a c : List AF} {f : AF} {s : ByteArray} {g : AF → AF} (hx : f.name = s) (ha : ∀ y ∈ a, y.name ≠ s) (hc : ∀ y ∈ c, y.name ≠ s) : updF (a ++ f :: c) s g = a ++ g f :: c := by
  have e : updF (a ++ f :: c) s g = updF a s g ++ updF (f :: c) s g := by simp [updF]
  have e2 : updF (f :: c) s g = g f :: updF c s g := by simp [updF, hx]
  rw [e, e2, upd_none ha, upd_none hc]
theorem upd_names {fs : List AF} {s : ByteArray} {g : AF → AF} (hg : ∀ f, (g f).name = f.name) : (updF fs s g).map AF.name = fs.map AF.name := by
  unfold updF
  rw [List.map_map]
  exact List.map_congr_left fun f _ => by
    simp only [Function.comp]
    split
    · exact hg f
    · rfl
theorem getF_none {fs : List AF} {s : ByteArray} (h : getF fs s = none) : ∀ f ∈ fs, f.name ≠ s := fun f hf e => by
  have := List.find?_eq_none.1 h f hf
  simp [e] at this
theorem put_nd {fs : List AF} {s : ByteArray} {l : List UInt8} (h : Nd fs) : Nd (putF fs s l) := by
  unfold putF
  cases hg : getF fs s with
  | none =>
    show (List.map AF.name (fs ++ [⟨s, l, 0⟩])).Nodup
    rw [List.map_append, List.nodup_append]
    refine ⟨h, by simp, fun a ha b hb e => ?_⟩
    obtain ⟨f, hf, rfl⟩ := List.mem_map.1 ha
    have : b = s := by simpa using hb
    exact getF_none hg f hf (by rw [e, this])
  | some f =>
    show (List.map AF.name (updF fs s _)).Nodup
    rw [upd_names (g := fun f => ({ f with data := f.data ++ l } : AF)) fun _ => rfl]; exact h
theorem put_used {fs : List AF} {s : ByteArray} {l : List UInt8} (h : Nd fs) : used (putF fs s l) = used fs + l.length := by
  unfold putF
  cases hg : getF fs s with
  | none => simp only [used_append, used_cons]; simp [used]
  | some f =>
    obtain ⟨a, c, rfl, hx, ha, hc⟩ := nd_split h hg
    simp only [upd_at hx ha hc, used_append, used_cons, List.length_append]
    omega
theorem put_length {fs : List AF} {s : ByteArray} {l : List UInt8} : (putF fs s l).length ≤ fs.length + 1 := by
  unfold putF
  cases hg : getF fs s with
  | none => simp
  | some f => simp [updF]
theorem put_lasts {fs : List AF} {s : ByteArray} {l : List UInt8} (h : ∀ f ∈ fs, f.lasts ≤ f.data.length) : ∀ f ∈ putF fs s l, f.lasts ≤ f.data.length := by
  unfold putF
  cases hg : getF fs s with
  | none =>
    intro f hf
    rcases List.mem_append.1 hf with hf | hf
    · exact h f hf
    · have : f = ⟨s, l, 0⟩ := by simpa using hf
      subst this; exact Nat.zero_le _
  | some f0 =>
    intro f hf
    obtain ⟨f1, hf1, rfl⟩ := List.mem_map.1 hf
    have := h f1 hf1
    split
    · simp; omega
    · exact this
theorem put_get {fs : List AF} {s : ByteArray} {l : List UInt8} (h : Nd fs) : getF (putF fs s l) s = some (match getF fs s with | none => ⟨s, l, 0⟩ | some f => { f with data := f.data ++ l }) := by
  unfold putF
  cases hg : getF fs s with
  | none =>
    show List.find? _ _ = _
    rw [List.find?_append, show List.find? _ fs = none from hg]
    simp
  | some f =>
    obtain ⟨a, c, rfl, hx, ha, hc⟩ := nd_split h hg
    show List.find? _ _ = _
    rw [upd_at hx ha hc, List.find?_append, List.find?_eq_none.2 (fun y hy => by simpa using ha y hy)]
    simp [hx]
theorem done_fs (d : D) : d.done.fs = d.fs := by unfold D.done; split <;> rfl
theorem done_room (d : D) : d.done.room = d.room := by unfold D.done; split <;> rfl
theorem done_fused (d : D) : d.done.fused = d.fused := by
  unfold D.done
  cases h : d.fused <;> simp [h]
theorem done_used (d : D) : d.done.used = d.used := by unfold D.used; rw [done_fs]
theorem append_ok {d : D} {s : ByteArray} {l : List UInt8} (hm : d.may [s] = 0) (hu : d.used + l.length ≤ d.room) (hc : d.fs.length < 4096) : d.append s l = ({ d with fs := putF d.fs s l }.done, 0) := by
  rw [D.append, if_pos hm, if_neg]
  unfold D.full
  simp only [Bool.or_eq_true, decide_eq_true_eq, Bool.and_eq_true, not_or, not_and]
  exact ⟨by omega, fun _ => by omega⟩
theorem D.Ok.put {d : D} (h : d.Ok) (hn : Nd d.fs) {s : ByteArray} {l : List UInt8} (hu : d.used + l.length ≤ d.room) : ({ d with fs := putF d.fs s l } : D).done.Ok := by
  refine ⟨?_, ?_, each_left h.left _, ?_⟩
  · rw [done_room]; exact h.room
  · rw [done_room, done_used]
    show Dsk.used (putF d.fs s l) ≤ d.room
    rw [put_used hn]; exact hu
  · rw [done_fs]; exact put_lasts h.lasts
theorem used_map {fs : List AF} {g : AF → AF} (h : ∀ f ∈ fs, (g f).data.length ≤ f.data.length) : used (fs.map g) ≤ used fs := by
  induction fs with
  | nil => simp
  | cons x r ih =>
    rw [List.map_cons, used_cons, used_cons]
    have h1 := h x (List.mem_cons_self ..)
    have h2 := ih fun f hf => h f (List.mem_cons_of_mem _ hf)
    omega
theorem crash_len (k : Nat) (f : AF) : (crashF k f).data.length ≤ f.data.length := by
  show (f.data.take _).length ≤ _
  rw [List.length_take]; omega
theorem crash_ok {d : D} (h : d.Ok) (k : Nat) : (d.crash k).Ok := by
  refine ⟨h.room, ?_, h.left, ?_⟩
  · have h1 := h.used
    have h2 : Dsk.used (d.fs.map (crashF k)) ≤ Dsk.used d.fs := used_map fun f _ => crash_len k f
    exact Nat.le_trans h2 h1
  · intro f hf
    obtain ⟨g, hg, rfl⟩ := List.mem_map.1 hf
    show stays k g ≤ (g.data.take (stays k g)).length
    have h1 := h.lasts g hg
    have h2 : stays k g ≤ g.data.length := by
      have := Nat.mod_lt k (show 0 < g.data.length - g.lasts + 1 by omega)
      unfold stays; omega
    rw [List.length_take]; omega
theorem crash_nd {d : D} (h : Nd d.fs) (k : Nat) : Nd (d.crash k).fs := by
  show (List.map AF.name (d.fs.map (crashF k))).Nodup
  rw [List.map_map]; exact h
end Go.Proofs.YtkbfjgmgckbogaaGreat.Dsk

/-
  Append and Sync of chapter 3 with one argument behind the name.
-/

namespace Go.Proofs.YtkbfjgmgckbogaaGreat.Dsk
open Go.RowKit L Oct
theorem append_lit {W0 w : World} {R : Asrt} {b bk : Nat} {d : D} (H : Hold W0 ((DiskA b d).sep R) w) (hbk : w.heap.size = bk) (hok : d.Ok) (s : ByteArray) (vr : Value) (l : List UInt8) (hr : Reads W0 R 1 vr l.length (u8s l)) (hlen : l.length ≤ 1073741824) :
    Calls Tryz.prog 6 #[ptr b, .string s, .slice (some ⟨bk, 0, none⟩) 1 1] (w.alloc (.cells #[vr] 22)) (RetApp W0 R b (d.append s l)) := by
  subst hbk
  have H1 := (H.addLit vr 22).up2
  have e : [l].flatten = l := by simp
  have := append_any H1 hok s (.slice (some ⟨w.heap.size, 0, none⟩) 1 1) [vr] [l] (fun w' hw' => ⟨hw'.sl, fun i hi => by
    have h0 : i = 0 := by simp [u8ss] at hi; exact hi
    subst h0
    have := hr w' hw'.drop1
    simpa [u8ss, u8s] using this⟩) (by simp) (by rw [e]; exact hlen)
  rw [e] at this
  refine this.mono ?_
  rintro e' w' ⟨h1, h2⟩
  exact ⟨h1, h2.up2.drop1⟩
theorem sync_lit {W0 w : World} {R : Asrt} {b bk : Nat} {d : D} (H : Hold W0 ((DiskA b d).sep R) w) (hbk : w.heap.size = bk) (hd : d.left ≤ 9223372036854775807) (s : ByteArray) :
    Calls Tryz.prog 48 #[ptr b, .slice (some ⟨bk, 0, none⟩) 1 1] (w.alloc (.cells #[.string s] 9)) (RetApp W0 R b (d.sync [s])) := by
  subst hbk
  have H1 := (H.addLit (.string s) 9).up2
  refine (sync_any H1 hd (.slice (some ⟨w.heap.size, 0, none⟩) 1 1) [s] (fun w' hw' => hw'.sl)).mono ?_
  rintro e' w' ⟨h1, h2⟩
  exact ⟨h1, h2.up2.drop1⟩
theorem remove_lit {W0 w : World} {R : Asrt} {b bk : Nat} {d : D} (H : Hold W0 ((DiskA b d).sep R) w) (hbk : w.heap.size = bk) (hd : d.left ≤ 9223372036854775807) (s : ByteArray) :
    Calls Tryz.prog 64 #[ptr b, .slice (some ⟨bk, 0, none⟩) 1 1] (w.alloc (.cells #[.string s] 9)) (RetApp W0 R b (d.remove [s])) := by
  subst hbk
  have H1 := (H.addLit (.string s) 9).up2
  refine (remove_any H1 hd (.slice (some ⟨w.heap.size, 0, none⟩) 1 1) [s] (fun w' hw' => hw'.sl)).mono ?_
  rintro e' w' ⟨h1, h2⟩
  exact ⟨h1, h2.up2.drop1⟩
end Go.Proofs.YtkbfjgmgckbogaaGreat.Dsk

/-
  Rename of chapter 3.
-/

namespace Go.Proofs.YtkbfjgmgckbogaaGreat.Dsk
open Go.RowKit L Oct
/-- a file is laid under a name, in the place of what had it -/
def layF (fs : List AF) (name : ByteArray) (data : List UInt8) (lasts : Nat) : List AF :=
  match getF fs name with
  | none => fs ++ [⟨name, data, lasts⟩]
  | some _ => updF fs name fun _ => ⟨name, data, lasts⟩
def D.rename (d : D) (old name : ByteArray) : D × Nat :=
  if d.may [old, name] = 0 then match getF d.fs old with
    | none => (d, 7)
    | some f => ({ d with fs := layF (removeF old d.fs) name f.data f.lasts }.done, 0)
  else (d, d.may [old, name])
theorem mhas_ents (l : List Fl) (s : ByteArray) : mhas (ents l) s = (l.find? fun x => decide (x.f.name = s)).isSome := by
  induction l with
  | nil => rfl
  | cons x r ih =>
    by_cases h : x.f.name = s
    · simp [mhas, ents, h]
    · have e1 : mhas (ents (x :: r)) s = mhas (ents r) s := by simp [mhas, ents, h]
      rw [e1, ih]; simp [h]
theorem mput_some {a c : List Fl} {y : Fl} {s : ByteArray} (hy : y.f.name = s) (ha : ∀ z ∈ a, z.f.name ≠ s) (hc : ∀ z ∈ c, z.f.name ≠ s) (f : AF) (hf : f.name = s) (nb : Nat) :
    mput (ents (a ++ y :: c)) s (ptr nb) = ents (a ++ ⟨f, nb⟩ :: c) := by
  have h0 : mhas (ents (a ++ y :: c)) s = true := by rw [mhas_ents, List.find?_append, List.find?_eq_none.2 (fun z hz => by simpa using ha z hz)]; simp [hy]
  have h1 : ∀ l : List Fl, (∀ z ∈ l, z.f.name ≠ s) → (ents l).map (fun p => if p.1 = s then (s, ptr nb) else p) = ents l := by
    intro l hl
    conv => rhs; rw [← List.map_id (ents l)]
    refine List.map_congr_left fun p hp => ?_
    obtain ⟨z, hz, rfl⟩ := ents_mem hp
    simp [hl z hz]
  rw [mput, if_pos h0]
  have e : ∀ (a c : List Fl) (y : Fl), ents (a ++ y :: c) = ents a ++ (y.f.name, ptr y.blk) :: ents c := by intro a c y; simp [ents]
  rw [e, e, List.map_append, List.map_cons, h1 a ha, h1 c hc, if_pos hy, hf]
theorem ren_shut {W0 w : World} {R : Asrt} {b mb : Nat} {d : D} {l1 : List Fl} {x : Fl} {old s : ByteArray} (hl : l1.map Fl.f = removeF old d.fs) (hnn : (names l1).Nodup)
    (H : Hold W0 ((MapA mb (mput (ents l1) s (ptr x.blk))).sep ((Blk b #[.int .i64 d.room, .map (some mb), .bool d.fused, .int .i64 d.left] 40).sep ((FileA x).sep ((FilesA l1).sep R)))) w) :
    Hold W0 ((DiskA b { d with fs := layF (removeF old d.fs) s x.f.data x.f.lasts }).sep R) w := by
  cases hy : l1.find? (fun x => decide (x.f.name = s)) with
  | none =>
    have hg : getF (removeF old d.fs) s = none := by rw [← hl, get_map, hy]; rfl
    rw [get_none hy] at H
    refine disk_shut (d := { d with fs := layF (removeF old d.fs) s x.f.data x.f.lasts }) (mb := mb) (l := l1 ++ [⟨⟨s, x.f.data, x.f.lasts⟩, x.blk⟩]) ?_ ?_
    · show _ = layF (removeF old d.fs) s x.f.data x.f.lasts
      simp only [layF, hg]
      rw [← hl]; simp
    · rw [ents_app, files_split, List.append_nil]
      have H' : Hold W0 ((MapA mb (ents l1 ++ [(s, ptr x.blk)])).sep ((Blk b #[.int .i64 d.room, .map (some mb), .bool d.fused, .int .i64 d.left] 40).sep ((FileA ⟨⟨s, x.f.data, x.f.lasts⟩, x.blk⟩).sep ((FilesA l1).sep R)))) w := H
      exact H'.perm (by ac_rfl)
  | some y =>
    have hg : getF (removeF old d.fs) s = some y.f := by rw [← hl, get_map, hy]; rfl
    obtain ⟨a, c, hac, hys, hya, hyc⟩ := get_split hnn hy
    subst hac
    rw [mput_some hys hya hyc ⟨s, x.f.data, x.f.lasts⟩ rfl, files_split] at H
    have H' : Hold W0 ((FileA y).sep ((MapA mb (ents (a ++ ⟨⟨s, x.f.data, x.f.lasts⟩, x.blk⟩ :: c))).sep ((Blk b #[.int .i64 d.room, .map (some mb), .bool d.fused, .int .i64 d.left] 40).sep ((FileA ⟨⟨s, x.f.data, x.f.lasts⟩, x.blk⟩).sep ((FilesA (a ++ c)).sep R))))) w := by
      refine Hold.perm (A := (MapA mb (ents (a ++ ⟨⟨s, x.f.data, x.f.lasts⟩, x.blk⟩ :: c))).sep ((Blk b #[.int .i64 d.room, .map (some mb), .bool d.fused, .int .i64 d.left] 40).sep ((FileA ⟨⟨s, x.f.data, x.f.lasts⟩, x.blk⟩).sep (((FileA y).sep (FilesA (a ++ c))).sep R)))) H (by ac_rfl)
    have H2 := H'.drop1
    refine disk_shut (d := { d with fs := layF (removeF old d.fs) s x.f.data x.f.lasts }) (mb := mb) (l := a ++ ⟨⟨s, x.f.data, x.f.lasts⟩, x.blk⟩ :: c) ?_ ?_
    · show _ = layF (removeF old d.fs) s x.f.data x.f.lasts
      simp only [layF, hg]
      rw [← hl, upd_split _ hys hya hyc]; simp
    · rw [files_split]
      exact H2.perm (by ac_rfl)
set_option maxRecDepth 100000 in
set_option maxHeartbeats 1600000 in
theorem rename_any {W0 w : World} {R : Asrt} {b : Nat} {d : D} (H : Hold W0 ((DiskA b d).sep R) w) (hd : d.left ≤ 9223372036854775807) (old s : ByteArray) :
    Calls Tryz.prog 80 #[ptr b, .string old, .string s] w (RetApp W0 R b (d.rename old s)) := by
  have HA : Hid (Hold W0 ((DiskA b d).sep R) (w.alloc (.cells #[.string old, .string s] 9))) := Lib.hid (H.keeps ((Below.refl _ _).alloc (Nat.le_refl _) _))
  have Hd := Lib.hid hd
  clear H hd
  by_cases hm : d.may [old, s] = 0
  · have HM := Lib.hid hm
    have hlf := may_left hm
    obtain ⟨mb, l, hl, H1⟩ := disk_open HA.out
    have Hl := Lib.hid hl
    have HO := Lib.hid H1
    have k1 := blk_cell H1.blk 1
    have hlk0 := run_lookD (disk_mapAt H1) old
    have hnn := H1.up2.map.nodup
    rw [ents_names] at hnn
    clear hl H1 hm
    cases hx : l.find? (fun x => decide (x.f.name = old)) with
    | none =>
      rw [hx] at hlk0
      have hlk : (Instr.lookup 38 (.map (some mb)) (.string old) false).run Tryz.prog (w.alloc (.cells #[.string old, .string s] 9)) = .ok (.pointer none) (w.alloc (.cells #[.string old, .string s] 9)) := hlk0
      have hres : Hid (d.rename old s = (d, 7)) := Lib.hid (by rw [D.rename, if_pos HM.out, ← Hl.out, get_map, hx]; rfl)
      clear hx hlk0 hnn
      show Calls Tryz.prog 80 #[.pointer (some ⟨b, 0, none⟩), .string old, .string s] w _
      go_enter Tryz.func80, Tryz.ntmps80
      go_wp2_with (go_at_call 10; refine (may_any HA.out _ [old, s] (sl_built w [.string old, .string s] 9 (by unfold maxLen; simp))).mono ?_; rintro e w2 ⟨rfl, rfl⟩; rw [HM.out])
      go_ret
      rw [hres.out]
      exact ⟨rfl, HA.out⟩
    | some x =>
      rw [hx] at hlk0
      have hlk : (Instr.lookup 38 (.map (some mb)) (.string old) false).run Tryz.prog (w.alloc (.cells #[.string old, .string s] 9)) = .ok (.pointer (some ⟨x.blk, 0, none⟩)) (w.alloc (.cells #[.string old, .string s] 9)) := hlk0
      have hgs : getF d.fs old = some x.f := by rw [← Hl.out, get_map, hx]; rfl
      have hres : Hid (d.rename old s = ({ d with fs := layF (removeF old d.fs) s x.f.data x.f.lasts }.done, 0)) := Lib.hid (by rw [D.rename, if_pos HM.out, hgs])
      have HS : Hid (∀ w', Hold W0 ((MapA mb (mput (mdel (ents l) old) s (ptr x.blk))).sep ((Blk b #[.int .i64 d.room, .map (some mb), .bool d.fused, .int .i64 d.left] 40).sep ((FilesA l).sep R))) w' → Hold W0 ((DiskA b { d with fs := layF (removeF old d.fs) s x.f.data x.f.lasts }).sep R) w') := Lib.hid (by
        obtain ⟨a, c, hac, hxs, hxa, hxc⟩ := get_split hnn hx
        intro w' h
        have hl1 : (strike l old).map Fl.f = removeF old d.fs := by rw [← Hl.out, remove_map]
        have e1 : strike l old = a ++ c := by rw [hac, strike_split hxs hxa hxc]
        refine ren_shut hl1 (strike_nodup (l := l) hnn old) (mb := mb) (x := x) ?_
        rw [mdel_ents] at h
        rw [e1] at h ⊢
        rw [hac, files_split] at h
        exact h.perm (by ac_rfl))
      have H5 := Lib.hid HO.out.up2
      clear hx hlk0 hnn hgs HO
      show Calls Tryz.prog 80 #[.pointer (some ⟨b, 0, none⟩), .string old, .string s] w _
      go_enter Tryz.func80, Tryz.ntmps80
      go_wp2_with (first
        | (go_at_call 10; refine (may_any HA.out _ [old, s] (sl_built w [.string old, .string s] 9 (by unfold maxLen; simp))).mono ?_; rintro e w2 ⟨rfl, rfl⟩; rw [HM.out])
        | (at_delete; refine wpList_mdel H5.out rfl _ _ 38 9 rfl Tryz.underlying38 Tryz.underlying9 rfl old rfl ?_; intro w3 H3; have k3 := blk_cell H3.up2.blk 1)
        | (at_mapUpdate; refine wpList_mput H3 rfl _ _ _ 38 rfl Tryz.underlying38 Tryz.underlying9 rfl s (ptr x.blk) rfl rfl ?_; intro w4 H4; have H6 := Lib.hid (HS.out _ H4); clear H4 H3)
        | (go_at_call 13; refine (done_any (W0 := W0) (R := R) (b := b) (d := { d with fs := layF (removeF old d.fs) s x.f.data x.f.lasts }) H6.out hlf.out Hd.out).mono ?_; rintro e w5 ⟨rfl, h5⟩; have H7 := Lib.hid h5; clear h5))
      go_ret
      rw [hres.out]
      exact ⟨rfl, H7.out⟩
  · have hres : Hid (d.rename old s = (d, d.may [old, s])) := Lib.hid (by rw [D.rename, if_neg hm])
    obtain ⟨m, hmm⟩ : ∃ m : Nat, m = d.may [old, s] := ⟨_, rfl⟩
    have hm0 : ((m : Int) == 0) = false := by rw [beq_eq_false_iff_ne]; omega
    rw [← hmm] at hres
    have Hm := Lib.hid hmm
    clear hmm hm
    show Calls Tryz.prog 80 #[.pointer (some ⟨b, 0, none⟩), .string old, .string s] w _
    go_enter Tryz.func80, Tryz.ntmps80
    go_wp2_with (go_at_call 10; refine (may_any HA.out _ [old, s] (sl_built w [.string old, .string s] 9 (by unfold maxLen; simp))).mono ?_; rintro e w2 ⟨rfl, rfl⟩; rw [← Hm.out])
    go_ret
    rw [hres.out]
    exact ⟨rfl, HA.out⟩
end Go.Proofs.YtkbfjgmgckbogaaGreat.Dsk
