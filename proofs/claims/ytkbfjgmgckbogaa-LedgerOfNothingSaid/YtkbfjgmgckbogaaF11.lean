/-
  Texts that the proofs of this seat stand on, one behind the other: contracts of functions and plain lemmas. Conditions: those that each theorem states.
-/
import Derived.Test.YtkbfjgmgckbogaaF6
import Derived.Test.YtkbfjgmgckbogaaDiskRename
import Derived.Test.YtkbfjgmgckbogaaDiskList
import Derived.Test.YtkbfjgmgckbogaaDiskTrunc
/-
  What stays true of a disk of a script (chapter 3), plain: its numbers are in bounds, its names are short, there are few files.
-/



namespace Go.Proofs.Ytkbfjgmgckbogaa.Dsk
open Go.RowKit L Oct
theorem getF_mem {fs : List AF} (hn : Nd fs) {f : AF} (hf : f ∈ fs) : getF fs f.name = some f := by
  cases hg : getF fs f.name with
  | none => exact absurd rfl (getF_none hg f hf)
  | some g =>
    obtain ⟨a, c, hs, hx, ha, hc⟩ := nd_split hn hg
    rw [hs] at hf
    rcases List.mem_append.1 hf with h | h
    · exact (ha f h rfl).elim
    · rcases List.mem_cons.1 h with rfl | h
      · rfl
      · exact (hc f h rfl).elim
theorem getF_perm {fs gs : List AF} (hn : Nd gs) (hp : fs.Perm gs) (s : ByteArray) : getF fs s = getF gs s := by
  have hn2 : Nd fs := by
    unfold Nd
    rw [(hp.map AF.name).nodup_iff]; exact hn
  cases hg : getF fs s with
  | none =>
    cases hg2 : getF gs s with
    | none => rfl
    | some g =>
      have := getF_name hg2
      exact (getF_none hg g (hp.mem_iff.2 this.1) this.2).elim
  | some f =>
    obtain ⟨h1, rfl⟩ := getF_name hg
    exact (getF_mem hn (hp.mem_iff.1 h1)).symm
theorem used_perm {fs gs : List AF} (h : fs.Perm gs) : used fs = used gs := (h.map (fun f : AF => f.data.length)).sum_nat
theorem lay_gone {fs : List AF} (hn : Nd fs) (s : ByteArray) (x : List UInt8) (k : Nat) : (layF fs s x k).Perm (removeF s fs ++ [⟨s, x, k⟩]) := by
  unfold layF
  cases hg : getF fs s with
  | none =>
    have : removeF s fs = fs := List.filter_eq_self.2 fun y hy => by
      have := getF_none hg y hy
      simp [this]
    rw [this]
  | some f =>
    obtain ⟨a, c, hs, hx, ha, hc⟩ := nd_split hn hg
    have e1 : updF fs s (fun _ => (⟨s, x, k⟩ : AF)) = a ++ ⟨s, x, k⟩ :: c := by
      have := upd_at (g := fun _ => (⟨s, x, k⟩ : AF)) hx ha hc
      rw [← hs] at this; exact this
    have e2 : removeF s fs = a ++ c := by
      unfold removeF
      rw [hs, List.filter_append, List.filter_cons_of_neg (by simp [hx]), List.filter_eq_self.2 (fun y hy => by simp [ha y hy]), List.filter_eq_self.2 (fun y hy => by simp [hc y hy])]
    show (updF fs s fun _ => (⟨s, x, k⟩ : AF)).Perm _
    rw [e1, e2]
    exact List.perm_middle.trans (List.perm_append_comm (l₁ := [(⟨s, x, k⟩ : AF)]) (l₂ := a ++ c))
theorem gone_nd {fs : List AF} (h : Nd fs) (s : ByteArray) : Nd (removeF s fs) := (List.Sublist.map _ List.filter_sublist).nodup h
/-- a disk of at most n files, its numbers in bounds -/
structure DInv (d : D) (n : Nat) : Prop where
  ok : d.Ok
  len : d.fs.length ≤ n
  names : ∀ f ∈ d.fs, f.name.size ≤ 64
  nd : Nd d.fs
/-- files that may stand in a disk of a room -/
structure FsOk (fs : List AF) (room n : Nat) : Prop where
  used : used fs ≤ room
  lasts : ∀ f ∈ fs, f.lasts ≤ f.data.length
  len : fs.length ≤ n
  names : ∀ f ∈ fs, f.name.size ≤ 64
  nd : Nd fs
section
variable {d : D} {n m : Nat} {fs gs : List AF} {s : ByteArray} {room : Nat}
theorem DInv.fsOk (h : DInv d n) : FsOk d.fs d.room n := ⟨h.ok.used, h.ok.lasts, h.len, h.names, h.nd⟩
theorem DInv.put (h : DInv d n) (hf : FsOk fs d.room m) : DInv ({ d with fs := fs } : D).done m := by
  refine ⟨⟨?_, ?_, each_left h.ok.left _, ?_⟩, ?_, ?_, ?_⟩
  · rw [done_room]; exact h.ok.room
  · rw [done_room, done_used]; exact hf.used
  · rw [done_fs]; exact hf.lasts
  · rw [done_fs]; exact hf.len
  · rw [done_fs]; exact hf.names
  · rw [done_fs]; exact hf.nd
theorem DInv.le (h : DInv d n) (hm : n ≤ m) : DInv d m := ⟨h.ok, Nat.le_trans h.len hm, h.names, h.nd⟩
theorem may_names {l : List ByteArray} (h : d.may l = 0) : ∀ s ∈ l, s.size ≤ 64 := by
  unfold D.may at h
  split at h
  · cases h
  · split at h
    · rename_i h2
      intro s hs
      have := List.all_eq_true.1 h2 s hs
      simp [nameOk] at this
      exact this.2
    · cases h
theorem used_filter (p : AF → Bool) : ∀ fs : List AF, used (fs.filter p) ≤ used fs
  | [] => Nat.le_refl _
  | x :: r => by
    have := used_filter p r
    rw [List.filter_cons]
    split
    · rw [used_cons, used_cons]; omega
    · rw [used_cons]; omega
theorem FsOk.upd (h : FsOk fs room n) (s : ByteArray) (g : AF → AF) (h1 : ∀ f, (g f).name = f.name) (h2 : ∀ f, (g f).data.length ≤ f.data.length) (h3 : ∀ f : AF, f.lasts ≤ f.data.length → (g f).lasts ≤ (g f).data.length) : FsOk (updF fs s g) room n := by
  refine ⟨Nat.le_trans (used_map fun f _ => ?_) h.used, fun f hf => ?_, ?_, fun f hf => ?_, ?_⟩
  · split
    · exact h2 f
    · exact Nat.le_refl _
  · obtain ⟨f1, hf1, rfl⟩ := List.mem_map.1 hf
    have := h.lasts f1 hf1
    split
    · exact h3 f1 this
    · exact this
  · rw [updF, List.length_map]; exact h.len
  · obtain ⟨f1, hf1, rfl⟩ := List.mem_map.1 hf
    have := h.names f1 hf1
    split
    · rw [h1]; exact this
    · exact this
  · unfold Nd; rw [upd_names h1]; exact h.nd
theorem FsOk.gone (h : FsOk fs room n) (s : ByteArray) : FsOk (removeF s fs) room n :=
  ⟨Nat.le_trans (used_filter _ _) h.used, fun f hf => h.lasts f ((List.mem_filter.1 hf).1), Nat.le_trans (List.length_filter_le _ _) h.len, fun f hf => h.names f ((List.mem_filter.1 hf).1), gone_nd h.nd s⟩
theorem FsOk.perm (h : FsOk fs room n) (hp : gs.Perm fs) : FsOk gs room n := by
  refine ⟨?_, fun f hf => h.lasts f (hp.mem_iff.1 hf), by rw [hp.length_eq]; exact h.len, fun f hf => h.names f (hp.mem_iff.1 hf), ?_⟩
  · rw [used_perm hp]; exact h.used
  · unfold Nd; rw [(hp.map AF.name).nodup_iff]; exact h.nd
theorem FsOk.put (h : FsOk fs room n) {x : List UInt8} (hu : Dsk.used fs + x.length ≤ room) (hs : s.size ≤ 64) : FsOk (putF fs s x) room (n + 1) := by
  refine ⟨by rw [put_used h.nd]; exact hu, put_lasts h.lasts, by have := put_length (fs := fs) (s := s) (l := x); have := h.len; omega, ?_, put_nd h.nd⟩
  unfold putF
  split
  · intro f hf
    rcases List.mem_append.1 hf with hf | hf
    · exact h.names f hf
    · have : f = ⟨s, x, 0⟩ := by simpa using hf
      subst this; exact hs
  · intro f hf
    obtain ⟨f1, hf1, rfl⟩ := List.mem_map.1 hf
    have := h.names f1 hf1
    split
    · exact this
    · exact this
theorem FsOk.lay (h : FsOk fs room n) {f : AF} (hg : getF fs s = some f) {nm : ByteArray} (hs : nm.size ≤ 64) : FsOk (layF (removeF s fs) nm f.data f.lasts) room n := by
  obtain ⟨a, c, e, hx, ha, hc⟩ := nd_split h.nd hg
  have h1 : removeF s fs = a ++ c := by
    subst e
    unfold removeF
    rw [List.filter_append, List.filter_cons_of_neg (by simp [hx]), List.filter_eq_self.2 (fun y hy => by simp [ha y hy]), List.filter_eq_self.2 (fun y hy => by simp [hc y hy])]
  have hlen : fs.length = a.length + c.length + 1 := by rw [e]; simp; omega
  have hus : Dsk.used fs = Dsk.used (a ++ c) + f.data.length := by rw [e, used_append, used_append, used_cons]; omega
  have hG := h.gone s
  have hGG := hG.gone nm
  have hg2 : f.lasts ≤ f.data.length := h.lasts f (getF_name hg).1
  have hpm := lay_gone hG.nd nm f.data f.lasts
  refine FsOk.perm ⟨?_, ?_, ?_, ?_, ?_⟩ hpm
  · rw [used_append, used_cons]
    have h2 := used_filter (fun f => !decide (f.name = nm)) (removeF s fs)
    have h3 := h.used
    rw [h1] at h2
    show Dsk.used (List.filter (fun f => !decide (f.name = nm)) (removeF s fs)) + (f.data.length + 0) ≤ room
    rw [h1]; omega
  · intro y hy
    rcases List.mem_append.1 hy with hy | hy
    · exact hGG.lasts y hy
    · have : y = ⟨nm, f.data, f.lasts⟩ := by simpa using hy
      subst this; exact hg2
  · rw [List.length_append]
    have h2 : (removeF nm (removeF s fs)).length ≤ (removeF s fs).length := List.length_filter_le _ _
    have h3 := h.len
    rw [h1, List.length_append] at h2
    rw [h1]
    show (removeF nm (a ++ c)).length + 1 ≤ n
    omega
  · intro y hy
    rcases List.mem_append.1 hy with hy | hy
    · exact hGG.names y hy
    · have : y = ⟨nm, f.data, f.lasts⟩ := by simpa using hy
      subst this; exact hs
  · unfold Nd
    rw [List.map_append, List.nodup_append]
    refine ⟨hGG.nd, by simp, fun x hx y hy e => ?_⟩
    obtain ⟨z, hz, rfl⟩ := List.mem_map.1 hx
    have : y = nm := by simpa using hy
    have hz2 := (List.mem_filter.1 hz).2
    simp [e, this] at hz2
theorem DInv.append (h : DInv d n) (s : ByteArray) (x : List UInt8) : DInv (d.append s x).1 (n + 1) := by
  unfold D.append
  split
  · rename_i hm
    split
    · exact h.le (by omega)
    · rename_i hf
      refine h.put (h.fsOk.put ?_ (may_names hm s (by simp)))
      unfold D.full at hf
      simp only [Bool.or_eq_true, decide_eq_true_eq, not_or] at hf
      have := hf.1
      show Dsk.used d.fs + _ ≤ _
      unfold D.used at this
      omega
  · exact h.le (by omega)
theorem DInv.sync (h : DInv d n) (s : ByteArray) : DInv (d.sync [s]).1 n := by
  unfold D.sync eachF
  split
  · split
    · exact h
    · exact h.put (h.fsOk.upd s _ (fun _ => rfl) (fun _ => Nat.le_refl _) fun _ _ => Nat.le_refl _)
  · exact h
theorem DInv.remove (h : DInv d n) (s : ByteArray) : DInv (d.remove [s]).1 n := by
  unfold D.remove eachF
  split
  · split
    · exact h
    · exact h.put (h.fsOk.gone s)
  · exact h
theorem DInv.rename (h : DInv d n) (s nm : ByteArray) : DInv (d.rename s nm).1 n := by
  unfold D.rename
  split
  · rename_i hm
    split
    · exact h
    · rename_i f hg
      exact h.put (h.fsOk.lay hg (may_names hm nm (by simp)))
  · exact h
theorem DInv.crash (h : DInv d n) (k : Nat) : DInv (d.crash k) n := by
  refine ⟨crash_ok h.ok k, ?_, fun f hf => ?_, crash_nd h.nd k⟩
  · show (d.fs.map _).length ≤ n
    rw [List.length_map]; exact h.len
  · obtain ⟨g, hg, rfl⟩ := List.mem_map.1 hf
    exact h.names g hg
theorem DInv.fuse (h : DInv d n) (k : Int) (hk : k ≤ 9223372036854775807) : DInv { d with fused := decide (0 ≤ k), left := k.toNat } n :=
  ⟨⟨h.ok.room, h.ok.used, (show k.toNat ≤ _ by omega), h.ok.lasts⟩, h.len, h.names, h.nd⟩
theorem DInv.copy (h : DInv d n) (hp : fs.Perm d.fs) : DInv ⟨d.room, fs, false, 0⟩ n := by
  have hf := h.fsOk.perm hp
  exact ⟨⟨h.ok.room, hf.used, Nat.zero_le _, hf.lasts⟩, hf.len, hf.names, hf.nd⟩
theorem DInv.fit (h : DInv d n) : ∀ f ∈ d.fs, f.lasts ≤ f.data.length ∧ f.data.length ≤ 1073741824 := fun f hf => by
  have h1 := h.ok.lasts f hf
  have h2 : f.data.length ≤ used d.fs := used_mem hf
  have h3 := h.ok.used
  have h4 := h.ok.room
  exact ⟨h1, by unfold D.used at h3; omega⟩
end
end Go.Proofs.Ytkbfjgmgckbogaa.Dsk

/-
  Truncate keeps what stays true of a disk (chapter 3), plain.
-/


namespace Go.Proofs.Ytkbfjgmgckbogaa.Dsk
open Go.RowKit L Oct
section
variable {d : D} {n m : Nat}
theorem DInv.truncate (h : DInv d n) (s : ByteArray) (k : Int) : DInv (d.truncate s k).1 n := by
  unfold D.truncate
  split
  · split
    · exact h
    · split
      · exact h
      · refine h.put (h.fsOk.upd s _ (fun _ => rfl) (fun f => ?_) fun f hf => ?_)
        · show (f.data.take _).length ≤ _
          rw [List.length_take]; omega
        · show min f.lasts _ ≤ (f.data.take _).length
          rw [List.length_take]; omega
  · exact h
end
end Go.Proofs.Ytkbfjgmgckbogaa.Dsk
