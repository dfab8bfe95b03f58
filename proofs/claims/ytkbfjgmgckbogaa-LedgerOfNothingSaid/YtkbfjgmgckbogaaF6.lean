/-
  Texts that the proofs of this seat stand on, one behind the other: contracts of functions and plain lemmas. Conditions: those that each theorem states.
-/
import Derived.Test.YtkbfjgmgckbogaaDiskEachWalk
import Derived.Test.YtkbfjgmgckbogaaDiskCrash
/-
  Sync and Remove of chapter 3.
-/

namespace Go.Proofs.Ytkbfjgmgckbogaa.Dsk
open Go.RowKit L Oct
set_option maxHeartbeats 800000 in
theorem sync_any {W0 w : World} {R : Asrt} {b : Nat} {d : D} (H : Hold W0 ((DiskA b d).sep R) w) (hd : d.left ≤ 9223372036854775807) (v : Value) (names : List ByteArray) (hv : Reads W0 R 1 v names.length (strs names)) :
    Calls Try.prog 30 #[ptr b, v] w (RetApp W0 R b (d.sync names)) := by
  have he := each_sync H hd v names hv
  show Calls Try.prog 30 #[.pointer (some ⟨b, 0, none⟩), v] w _
  go_enter Try.func30, Try.ntmps30
  go_wp2_with (go_at_call 53; refine he.mono ?_; rintro e w2 ⟨rfl, h2⟩; have H2 := Lib.hid h2; clear h2)
  go_ret
  exact ⟨rfl, H2.out⟩
set_option maxHeartbeats 800000 in
theorem remove_any {W0 w : World} {R : Asrt} {b : Nat} {d : D} (H : Hold W0 ((DiskA b d).sep R) w) (hd : d.left ≤ 9223372036854775807) (v : Value) (names : List ByteArray) (hv : Reads W0 R 1 v names.length (strs names)) :
    Calls Try.prog 46 #[ptr b, v] w (RetApp W0 R b (d.remove names)) := by
  have H1 := (H.addBlk (cs := #[ptr b]) (t := 24) (b := w.heap.size) rfl).up2
  have c0 : (w.alloc (.cells #[.pointer (some ⟨b, 0, none⟩)] 24)).cell? ⟨w.heap.size, 0, none⟩ = some (.pointer (some ⟨b, 0, none⟩)) := blk_cell H1.up2.blk 0
  have he := each_remove H1 hd v names hv
  have hmf : ∀ (fn : Fn) (first cap : Array Value) (w : World), (Instr.makeFunc fn first cap).run Try.prog w = .ok (.func fn first cap) w := fun _ _ _ _ => rfl
  show Calls Try.prog 46 #[.pointer (some ⟨b, 0, none⟩), v] w _
  go_enter Try.func46, Try.ntmps46
  go_wp2_with (go_at_call 53; refine he.mono ?_; rintro e w2 ⟨rfl, h2⟩; have H2 := Lib.hid h2.up2.drop1; clear h2)
  go_ret
  exact ⟨rfl, H2.out⟩
end Go.Proofs.Ytkbfjgmgckbogaa.Dsk

/-
  What the disk's functions keep (chapter 3), plain.
-/


namespace Go.Proofs.Ytkbfjgmgckbogaa.Dsk
open Go.RowKit L Oct
def Nd (fs : List AF) : Prop := (fs.map AF.name).Nodup
theorem getF_name {fs : List AF} {s : ByteArray} {f : AF} (h : getF fs s = some f) : f ∈ fs ∧ f.name = s := by
  refine ⟨List.mem_of_find?_eq_some h, ?_⟩
  have := List.find?_some h
  simpa using this
theorem upd_none {fs : List AF} {s : ByteArray} {g : AF → AF} (h : ∀ f ∈ fs, f.name ≠ s) : updF fs s g = fs := by
  unfold updF
  conv => rhs; rw [← List.map_id fs]
  exact List.map_congr_left fun f hf => by simp [h f hf]
theorem nd_split {fs : List AF} {s : ByteArray} {f : AF} (hn : Nd fs) (h : getF fs s = some f) : ∃ a c, fs = a ++ f :: c ∧ f.name = s ∧ (∀ y ∈ a, y.name ≠ s) ∧ ∀ y ∈ c, y.name ≠ s := by
  obtain ⟨hx, a, c, rfl, ha⟩ := List.find?_eq_some_iff_append.1 h
  have hx' : f.name = s := by simpa using hx
  refine ⟨a, c, rfl, hx', fun y hy => by simpa using ha y hy, fun y hy e => ?_⟩
  unfold Nd at hn
  rw [List.map_append, List.map_cons, List.nodup_append] at hn
  exact (List.nodup_cons.1 hn.2.1).1 (List.mem_map.2 ⟨y, hy, by rw [e, hx']⟩)
theorem upd_at {a c : List AF} {f : AF} {s : ByteArray} {g : AF → AF} (hx : f.name = s) (ha : ∀ y ∈ a, y.name ≠ s) (hc : ∀ y ∈ c, y.name ≠ s) : updF (a ++ f :: c) s g = a ++ g f :: c := by
  have e : updF (a ++ f :: c) s g = updF a s g ++ updF (f :: c) s g := by simp [updF]
  have e2 : updF (f :: c) s g = g f :: updF c s g := by simp [updF, hx]
  rw [e, e2, upd_none ha, upd_none hc]
theorem upd_names {fs : List AF} {s : ByteArray} {g : AF → AF} (hg : ∀ f, (g f).name = f.name) : (updF fs s g).map AF.name = fs.map AF.name := by
  unfold updF
  rw [List.map_map]
  exact List.map_congr_left fun f _ => by
    simp only [Function.comp]
    split
    · exact hg f
    · rfl
theorem getF_none {fs : List AF} {s : ByteArray} (h : getF fs s = none) : ∀ f ∈ fs, f.name ≠ s := fun f hf e => by
  have := List.find?_eq_none.1 h f hf
  simp [e] at this
theorem put_nd {fs : List AF} {s : ByteArray} {l : List UInt8} (h : Nd fs) : Nd (putF fs s l) := by
  unfold putF
  cases hg : getF fs s with
  | none =>
    show (List.map AF.name (fs ++ [⟨s, l, 0⟩])).Nodup
    rw [List.map_append, List.nodup_append]
    refine ⟨h, by simp, fun a ha b hb e => ?_⟩
    obtain ⟨f, hf, rfl⟩ := List.mem_map.1 ha
    have : b = s := by simpa using hb
    exact getF_none hg f hf (by rw [e, this])
  | some f =>
    show (List.map AF.name (updF fs s _)).Nodup
    rw [upd_names (g := fun f => ({ f with data := f.data ++ l } : AF)) fun _ => rfl]; exact h
theorem put_used {fs : List AF} {s : ByteArray} {l : List UInt8} (h : Nd fs) : used (putF fs s l) = used fs + l.length := by
  unfold putF
  cases hg : getF fs s with
  | none => simp only [used_append, used_cons]; simp [used]
  | some f =>
    obtain ⟨a, c, rfl, hx, ha, hc⟩ := nd_split h hg
    simp only [upd_at hx ha hc, used_append, used_cons, List.length_append]
    omega
theorem put_length {fs : List AF} {s : ByteArray} {l : List UInt8} : (putF fs s l).length ≤ fs.length + 1 := by
  unfold putF
  cases hg : getF fs s with
  | none => simp
  | some f => simp [updF]
theorem put_lasts {fs : List AF} {s : ByteArray} {l : List UInt8} (h : ∀ f ∈ fs, f.lasts ≤ f.data.length) : ∀ f ∈ putF fs s l, f.lasts ≤ f.data.length := by
  unfold putF
  cases hg : getF fs s with
  | none =>
    intro f hf
    rcases List.mem_append.1 hf with hf | hf
    · exact h f hf
    · have : f = ⟨s, l, 0⟩ := by simpa using hf
      subst this; exact Nat.zero_le _
  | some f0 =>
    intro f hf
    obtain ⟨f1, hf1, rfl⟩ := List.mem_map.1 hf
    have := h f1 hf1
    split
    · simp; omega
    · exact this
theorem put_get {fs : List AF} {s : ByteArray} {l : List UInt8} (h : Nd fs) : getF (putF fs s l) s = some (match getF fs s with | none => ⟨s, l, 0⟩ | some f => { f with data := f.data ++ l }) := by
  unfold putF
  cases hg : getF fs s with
  | none =>
    show List.find? _ _ = _
    rw [List.find?_append, show List.find? _ fs = none from hg]
    simp
  | some f =>
    obtain ⟨a, c, rfl, hx, ha, hc⟩ := nd_split h hg
    show List.find? _ _ = _
    rw [upd_at hx ha hc, List.find?_append, List.find?_eq_none.2 (fun y hy => by simpa using ha y hy)]
    simp [hx]
theorem done_fs (d : D) : d.done.fs = d.fs := by unfold D.done; split <;> rfl
theorem done_room (d : D) : d.done.room = d.room := by unfold D.done; split <;> rfl
theorem done_fused (d : D) : d.done.fused = d.fused := by
  unfold D.done
  cases h : d.fused <;> simp [h]
theorem done_used (d : D) : d.done.used = d.used := by unfold D.used; rw [done_fs]
theorem append_ok {d : D} {s : ByteArray} {l : List UInt8} (hm : d.may [s] = 0) (hu : d.used + l.length ≤ d.room) (hc : d.fs.length < 4096) : d.append s l = ({ d with fs := putF d.fs s l }.done, 0) := by
  rw [D.append, if_pos hm, if_neg]
  unfold D.full
  simp only [Bool.or_eq_true, decide_eq_true_eq, Bool.and_eq_true, not_or, not_and]
  exact ⟨by omega, fun _ => by omega⟩
theorem D.Ok.put {d : D} (h : d.Ok) (hn : Nd d.fs) {s : ByteArray} {l : List UInt8} (hu : d.used + l.length ≤ d.room) : ({ d with fs := putF d.fs s l } : D).done.Ok := by
  refine ⟨?_, ?_, each_left h.left _, ?_⟩
  · rw [done_room]; exact h.room
  · rw [done_room, done_used]
    show Dsk.used (putF d.fs s l) ≤ d.room
    rw [put_used hn]; exact hu
  · rw [done_fs]; exact put_lasts h.lasts
theorem used_map {fs : List AF} {g : AF → AF} (h : ∀ f ∈ fs, (g f).data.length ≤ f.data.length) : used (fs.map g) ≤ used fs := by
  induction fs with
  | nil => simp
  | cons x r ih =>
    rw [List.map_cons, used_cons, used_cons]
    have h1 := h x (List.mem_cons_self ..)
    have h2 := ih fun f hf => h f (List.mem_cons_of_mem _ hf)
    omega
theorem crash_len (k : Nat) (f : AF) : (crashF k f).data.length ≤ f.data.length := by
  show (f.data.take _).length ≤ _
  rw [List.length_take]; omega
theorem crash_ok {d : D} (h : d.Ok) (k : Nat) : (d.crash k).Ok := by
  refine ⟨h.room, ?_, h.left, ?_⟩
  · have h1 := h.used
    have h2 : Dsk.used (d.fs.map (crashF k)) ≤ Dsk.used d.fs := used_map fun f _ => crash_len k f
    exact Nat.le_trans h2 h1
  · intro f hf
    obtain ⟨g, hg, rfl⟩ := List.mem_map.1 hf
    show stays k g ≤ (g.data.take (stays k g)).length
    have h1 := h.lasts g hg
    have h2 : stays k g ≤ g.data.length := by
      have := Nat.mod_lt k (show 0 < g.data.length - g.lasts + 1 by omega)
      unfold stays; omega
    rw [List.length_take]; omega
theorem crash_nd {d : D} (h : Nd d.fs) (k : Nat) : Nd (d.crash k).fs := by
  show (List.map AF.name (d.fs.map (crashF k))).Nodup
  rw [List.map_map]; exact h
end Go.Proofs.Ytkbfjgmgckbogaa.Dsk

/-
  Append and Sync of chapter 3 with one argument behind the name.
-/

namespace Go.Proofs.Ytkbfjgmgckbogaa.Dsk
open Go.RowKit L Oct
theorem append_lit {W0 w : World} {R : Asrt} {b bk : Nat} {d : D} (H : Hold W0 ((DiskA b d).sep R) w) (hbk : w.heap.size = bk) (hok : d.Ok) (s : ByteArray) (vr : Value) (l : List UInt8) (hr : Reads W0 R 1 vr l.length (u8s l)) (hlen : l.length ≤ 1073741824) :
    Calls Try.prog 28 #[ptr b, .string s, .slice (some ⟨bk, 0, none⟩) 1 1] (w.alloc (.cells #[vr] 33)) (RetApp W0 R b (d.append s l)) := by
  subst hbk
  have H1 := (H.addLit vr 33).up2
  have e : [l].flatten = l := by simp
  have := append_any H1 hok s (.slice (some ⟨w.heap.size, 0, none⟩) 1 1) [vr] [l] (fun w' hw' => ⟨hw'.sl, fun i hi => by
    have h0 : i = 0 := by simp [u8ss] at hi; exact hi
    subst h0
    have := hr w' hw'.drop1
    simpa [u8ss, u8s] using this⟩) (by simp) (by rw [e]; exact hlen)
  rw [e] at this
  refine this.mono ?_
  rintro e' w' ⟨h1, h2⟩
  exact ⟨h1, h2.up2.drop1⟩
theorem sync_lit {W0 w : World} {R : Asrt} {b bk : Nat} {d : D} (H : Hold W0 ((DiskA b d).sep R) w) (hbk : w.heap.size = bk) (hd : d.left ≤ 9223372036854775807) (s : ByteArray) :
    Calls Try.prog 30 #[ptr b, .slice (some ⟨bk, 0, none⟩) 1 1] (w.alloc (.cells #[.string s] 9)) (RetApp W0 R b (d.sync [s])) := by
  subst hbk
  have H1 := (H.addLit (.string s) 9).up2
  refine (sync_any H1 hd (.slice (some ⟨w.heap.size, 0, none⟩) 1 1) [s] (fun w' hw' => hw'.sl)).mono ?_
  rintro e' w' ⟨h1, h2⟩
  exact ⟨h1, h2.up2.drop1⟩
theorem remove_lit {W0 w : World} {R : Asrt} {b bk : Nat} {d : D} (H : Hold W0 ((DiskA b d).sep R) w) (hbk : w.heap.size = bk) (hd : d.left ≤ 9223372036854775807) (s : ByteArray) :
    Calls Try.prog 46 #[ptr b, .slice (some ⟨bk, 0, none⟩) 1 1] (w.alloc (.cells #[.string s] 9)) (RetApp W0 R b (d.remove [s])) := by
  subst hbk
  have H1 := (H.addLit (.string s) 9).up2
  refine (remove_any H1 hd (.slice (some ⟨w.heap.size, 0, none⟩) 1 1) [s] (fun w' hw' => hw'.sl)).mono ?_
  rintro e' w' ⟨h1, h2⟩
  exact ⟨h1, h2.up2.drop1⟩
end Go.Proofs.Ytkbfjgmgckbogaa.Dsk
