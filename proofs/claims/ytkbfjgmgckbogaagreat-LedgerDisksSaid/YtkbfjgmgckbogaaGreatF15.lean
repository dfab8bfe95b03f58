/-
  Texts that the proofs of this seat stand on, one behind the other: contracts of functions and plain lemmas. Conditions: those that each theorem states.
-/
import Derived.Test.YtkbfjgmgckbogaaGreatF9
import Derived.Test.YtkbfjgmgckbogaaGreatDiskList
import Derived.Test.YtkbfjgmgckbogaaGreatF8
/-
  What stays true of a disk of a script (chapter 3), plain: its numbers are in bounds, its names are short, there are few files.
-/



namespace Go.Proofs.YtkbfjgmgckbogaaGreat.Dsk
open Go.RowKit L Oct
theorem getF_mem {fs : List AF} (hn : Nd fs) {f : AF} (hf : f ∈ fs) : getF fs f.name = some f := by
  cases hg : getF fs f.name with
  | none => exact absurd rfl (getF_none hg f hf)
  | some g =>
    obtain ⟨a, c, hs, hx, ha, hc⟩ := nd_split hn hg
    rw [hs] at hf
    rcases List.mem_append.1 hf with h | h
    · exact (ha f h rfl).elim
    · rcases List.mem_cons.1 h with rfl | h
      · rfl
      · exact (hc f h rfl).elim
theorem getF_perm {fs gs : List AF} (hn : Nd gs) (hp : fs.Perm gs) (s : ByteArray) : getF fs s = getF gs s := by
  have hn2 : Nd fs := by
    unfold Nd
    rw [(hp.map AF.name).nodup_iff]; exact hn
  cases hg : getF fs s with
  | none =>
    cases hg2 : getF gs s with
    | none => rfl
    | some g =>
      have := getF_name hg2
      exact (getF_none hg g (hp.mem_iff.2 this.1) this.2).elim
  | some f =>
    obtain ⟨h1, rfl⟩ := getF_name hg
    exact (getF_mem hn (hp.mem_iff.1 h1)).symm
theorem used_perm {fs gs : List AF} (h : fs.Perm gs) : used fs = used gs := (h.map (fun f : AF => f.data.length)).sum_nat
theorem lay_gone {fs : List AF} (hn : Nd fs) (s : ByteArray) (x : List UInt8) (k : Nat) : (layF fs s x k).Perm (removeF s fs ++ [⟨s, x, k⟩]) := by
  unfold layF
  cases hg : getF fs s with
  | none =>
    have : removeF s fs = fs := List.filter_eq_self.2 fun y hy => by
      have := getF_none hg y hy
      simp [this]
    rw [this]
  | some f =>
    obtain ⟨a, c, hs, hx, ha, hc⟩ := nd_split hn hg
    have e1 : updF fs s (fun _ => (⟨s, x, k⟩ : AF)) = a ++ ⟨s, x, k⟩ :: c := by
      have := upd_at (g := fun _ => (⟨s, x, k⟩ : AF)) hx ha hc
      rw [← hs] at this; exact this
    have e2 : removeF s fs = a ++ c := by
      unfold removeF
      rw [hs, List.filter_append, List.filter_cons_of_neg (by simp [hx]), List.filter_eq_self.2 (fun y hy => by simp [ha y hy]), List.filter_eq_self.2 (fun y hy => by simp [hc y hy])]
    show (updF fs s fun _ => (⟨s, x, k⟩ : AF)).Perm _
    rw [e1, e2]
    exact List.perm_middle.trans (List.perm_append_comm (l₁ := [(⟨s, x, k⟩ : AF)]) (l₂ := a ++ c))
theorem gone_nd {fs : List AF} (h : Nd fs) (s : ByteArray) : Nd (removeF s fs) := (List.Sublist.map _ List.filter_sublist).nodup h
/-- a disk of at most n files, its numbers in bounds -/
structure DInv (d : D) (n : Nat) : Prop where
  ok : d.Ok
  len : d.fs.length ≤ n
  names : ∀ f ∈ d.fs, f.name.size ≤ 64
  nd : Nd d.fs
/-- files that may stand in a disk of a room -/
structure FsOk (fs : List AF) (room n : Nat) : Prop where
  used : used fs ≤ room
  lasts : ∀ f ∈ fs, f.lasts ≤ f.data.length
  len : fs.length ≤ n
  names : ∀ f ∈ fs, f.name.size ≤ 64
  nd : Nd fs
section
variable {d : D} {n m : Nat} {fs gs : List AF} {s : ByteArray} {room : Nat}
theorem DInv.fsOk (h : DInv d n) : FsOk d.fs d.room n := ⟨h.ok.used, h.ok.lasts, h.len, h.names, h.nd⟩
theorem DInv.put (h : DInv d n) (hf : FsOk fs d.room m) : DInv ({ d with fs := fs } : D).done m := by
  refine ⟨⟨?_, ?_, each_left h.ok.left _, ?_⟩, ?_, ?_, ?_⟩
  · rw [done_room]; exact h.ok.room
  · rw [done_room, done_used]; exact hf.used
  · rw [done_fs]; exact hf.lasts
  · rw [done_fs]; exact hf.len
  · rw [done_fs]; exact hf.names
  · rw [done_fs]; exact hf.nd
theorem DInv.le (h : DInv d n) (hm : n ≤ m) : DInv d m := ⟨h.ok, Nat.le_trans h.len hm, h.names, h.nd⟩
theorem may_names {l : List ByteArray} (h : d.may l = 0) : ∀ s ∈ l, s.size ≤ 64 := by
  unfold D.may at h
  split at h
  · cases h
  · split at h
    · rename_i h2
      intro s hs
      have := List.all_eq_true.1 h2 s hs
      simp [nameOk] at this
      exact this.2
    · cases h
theorem used_filter (p : AF → Bool) : ∀ fs : List AF, used (fs.filter p) ≤ used fs
  | [] => Nat.le_refl _
  | x :: r => by
    have := used_filter p r
    rw [List.filter_cons]
    split
    · rw [used_cons, used_cons]; omega
    · rw [used_cons]; omega
theorem FsOk.upd (h : FsOk fs room n) (s : ByteArray) (g : AF → AF) (h1 : ∀ f, (g f).name = f.name) (h2 : ∀ f, (g f).data.length ≤ f.data.length) (h3 : ∀ f : AF, f.lasts ≤ f.data.length → (g f).lasts ≤ (g f).data.length) : FsOk (updF fs s g) room n := by
  refine ⟨Nat.le_trans (used_map fun f _ => ?_) h.used, fun f hf => ?_, ?_, fun f hf => ?_, ?_⟩
  · split
    · exact h2 f
    · exact Nat.le_refl _
  · obtain ⟨f1, hf1, rfl⟩ := List.mem_map.1 hf
    have := h.lasts f1 hf1
    split
    · exact h3 f1 this
    · exact this
  · rw [updF, List.length_map]; exact h.len
  · obtain ⟨f1, hf1, rfl⟩ := List.mem_map.1 hf
    have := h.names f1 hf1
    split
    · rw [h1]; exact this
    · exact this
  · unfold Nd; rw [upd_names h1]; exact h.nd
theorem FsOk.gone (h : FsOk fs room n) (s : ByteArray) : FsOk (removeF s fs) room n :=
  ⟨Nat.le_trans (used_filter _ _) h.used, fun f hf => h.lasts f ((List.mem_filter.1 hf).1), Nat.le_trans (List.length_filter_le _ _) h.len, fun f hf => h.names f ((List.mem_filter.1 hf).1), gone_nd h.nd s⟩
theorem FsOk.perm (h : FsOk fs room n) (hp : gs.Perm fs) : FsOk gs room n := by
  refine ⟨?_, fun f hf => h.lasts f (hp.mem_iff.1 hf), by rw [hp.length_eq]; exact h.len, fun f hf => h.names f (hp.mem_iff.1 hf), ?_⟩
  · rw [used_perm hp]; exact h.used
  · unfold Nd; rw [(hp.map AF.name).nodup_iff]; exact h.nd
theorem FsOk.put (h : FsOk fs room n) {x : List UInt8} (hu : Dsk.used fs + x.length ≤ room) (hs : s.size ≤ 64) : FsOk (putF fs s x) room (n + 1) := by
  refine ⟨by rw [put_used h.nd]; exact hu, put_lasts h.lasts, by have := put_length (fs := fs) (s := s) (l := x); have := h.len; omega, ?_, put_nd h.nd⟩
  unfold putF
  split
  · intro f hf
    rcases List.mem_append.1 hf with hf | hf
    · exact h.names f hf
    · have : f = ⟨s, x, 0⟩ := by simpa using hf
      subst this; exact hs
  · intro f hf
    obtain ⟨f1, hf1, rfl⟩ := List.mem_map.1 hf
    have := h.names f1 hf1
    split
    · exact this
    · exact this
theorem FsOk.lay (h : FsOk fs room n) {f : AF} (hg : getF fs s = some f) {nm : ByteArray} (hs : nm.size ≤ 64) : FsOk (layF (removeF s fs) nm f.data f.lasts) room n := by
  obtain ⟨a, c, e, hx, ha, hc⟩ := nd_split h.nd hg
  have h1 : removeF s fs = a ++ c := by
    subst e
    unfold removeF
    rw [List.filter_append, List.filter_cons_of_neg (by simp [hx]), List.filter_eq_self.2 (fun y hy => by simp [ha y hy]), List.filter_eq_self.2 (fun y hy => by simp [hc y hy])]
  have hlen : fs.length = a.length + c.length + 1 := by rw [e]; simp; omega
  have hus : Dsk.used fs = Dsk.used (a ++ c) + f.data.length := by rw [e, used_append, used_append, used_cons]; omega
  have hG := h.gone s
  have hGG := hG.gone nm
  have hg2 : f.lasts ≤ f.data.length := h.lasts f (getF_name hg).1
  have hpm := lay_gone hG.nd nm f.data f.lasts
  refine FsOk.perm ⟨?_, ?_, ?_, ?_, ?_⟩ hpm
  · rw [used_append, used_cons]
    have h2 := used_filter (fun f => !decide (f.name = nm)) (removeF s fs)
    have h3 := h.used
    rw [h1] at h2
    show Dsk.used (List.filter (fun f => !decide (f.name = nm)) (removeF s fs)) + (f.data.length + 0) ≤ room
    rw [h1]; omega
  · intro y hy
    rcases List.mem_append.1 hy with hy | hy
    · exact hGG.lasts y hy
    · have : y = ⟨nm, f.data, f.lasts⟩ := by simpa using hy
      subst this; exact hg2
  · rw [List.length_append]
    have h2 : (removeF nm (removeF s fs)).length ≤ (removeF s fs).length := List.length_filter_le _ _
    have h3 := h.len
    rw [h1, List.length_append] at h2
    rw [h1]
    show (removeF nm (a ++ c)).length + 1 ≤ n
    omega
  · intro y hy
    rcases List.mem_append.1 hy with hy | hy
    · exact hGG.names y hy
    · have : y = ⟨nm, f.data, f.lasts⟩ := by simpa using hy
      subst this; exact hs
  · unfold Nd
    rw [List.map_append, List.nodup_append]
    refine ⟨hGG.nd, by simp, fun x hx y hy e => ?_⟩
    obtain ⟨z, hz, rfl⟩ := List.mem_map.1 hx
    have : y = nm := by simpa using hy
    have hz2 := (List.mem_filter.1 hz).2
    simp [e, this] at hz2
theorem DInv.append (h : DInv d n) (s : ByteArray) (x : List UInt8) : DInv (d.append s x).1 (n + 1) := by
  unfold D.append
  split
  · rename_i hm
    split
    · exact h.le (by omega)
    · rename_i hf
      refine h.put (h.fsOk.put ?_ (may_names hm s (by simp)))
      unfold D.full at hf
      simp only [Bool.or_eq_true, decide_eq_true_eq, not_or] at hf
      have := hf.1
      show Dsk.used d.fs + _ ≤ _
      unfold D.used at this
      omega
  · exact h.le (by omega)
theorem DInv.sync (h : DInv d n) (s : ByteArray) : DInv (d.sync [s]).1 n := by
  unfold D.sync eachF
  split
  · split
    · exact h
    · exact h.put (h.fsOk.upd s _ (fun _ => rfl) (fun _ => Nat.le_refl _) fun _ _ => Nat.le_refl _)
  · exact h
theorem DInv.remove (h : DInv d n) (s : ByteArray) : DInv (d.remove [s]).1 n := by
  unfold D.remove eachF
  split
  · split
    · exact h
    · exact h.put (h.fsOk.gone s)
  · exact h
theorem DInv.rename (h : DInv d n) (s nm : ByteArray) : DInv (d.rename s nm).1 n := by
  unfold D.rename
  split
  · rename_i hm
    split
    · exact h
    · rename_i f hg
      exact h.put (h.fsOk.lay hg (may_names hm nm (by simp)))
  · exact h
theorem DInv.crash (h : DInv d n) (k : Nat) : DInv (d.crash k) n := by
  refine ⟨crash_ok h.ok k, ?_, fun f hf => ?_, crash_nd h.nd k⟩
  · show (d.fs.map _).length ≤ n
    rw [List.length_map]; exact h.len
  · obtain ⟨g, hg, rfl⟩ := List.mem_map.1 hf
    exact h.names g hg
theorem DInv.fuse (h : DInv d n) (k : Int) (hk : k ≤ 9223372036854775807) : DInv { d with fused := decide (0 ≤ k), left := k.toNat } n :=
  ⟨⟨h.ok.room, h.ok.used, (show k.toNat ≤ _ by omega), h.ok.lasts⟩, h.len, h.names, h.nd⟩
theorem DInv.copy (h : DInv d n) (hp : fs.Perm d.fs) : DInv ⟨d.room, fs, false, 0⟩ n := by
  have hf := h.fsOk.perm hp
  exact ⟨⟨h.ok.room, hf.used, Nat.zero_le _, hf.lasts⟩, hf.len, hf.names, hf.nd⟩
theorem DInv.fit (h : DInv d n) : ∀ f ∈ d.fs, f.lasts ≤ f.data.length ∧ f.data.length ≤ 1073741824 := fun f hf => by
  have h1 := h.ok.lasts f hf
  have h2 : f.data.length ≤ used d.fs := used_mem hf
  have h3 := h.ok.used
  have h4 := h.ok.room
  exact ⟨h1, by unfold D.used at h3; omega⟩
end
end Go.Proofs.YtkbfjgmgckbogaaGreat.Dsk

/-
  Truncate keeps what stays true of a disk (chapter 3), plain.
-/


namespace Go.Proofs.YtkbfjgmgckbogaaGreat.Dsk
open Go.RowKit L Oct
section
variable {d : D} {n m : Nat}
theorem DInv.truncate (h : DInv d n) (s : ByteArray) (k : Int) : DInv (d.truncate s k).1 n := by
  unfold D.truncate
  split
  · split
    · exact h
    · split
      · exact h
      · refine h.put (h.fsOk.upd s _ (fun _ => rfl) (fun f => ?_) fun f hf => ?_)
        · show (f.data.take _).length ≤ _
          rw [List.length_take]; omega
        · show min f.lasts _ ≤ (f.data.take _).length
          rw [List.length_take]; omega
  · exact h
end
end Go.Proofs.YtkbfjgmgckbogaaGreat.Dsk

/-
  A disk (chapter 3) by what its files are: for laws that reason on a few names. Plain.
-/

namespace Go.Proofs.YtkbfjgmgckbogaaGreat.Dsk
open Go.RowKit L Oct
/-- a file of a name: its bytes, how many of them last -/
def fv (d : D) (s : ByteArray) : Option (List UInt8 × Nat) := (getF d.fs s).map fun f => (f.data, f.lasts)
def upV (F : ByteArray → Option (List UInt8 × Nat)) (s : ByteArray) (v : Option (List UInt8 × Nat)) : ByteArray → Option (List UInt8 × Nat) := fun t => if t = s then v else F t
theorem up_at {F : ByteArray → Option (List UInt8 × Nat)} (s : ByteArray) (v : Option (List UInt8 × Nat)) : upV F s v s = v := by unfold upV; rw [if_pos rfl]
theorem up_off {F : ByteArray → Option (List UInt8 × Nat)} {s t : ByteArray} (v : Option (List UInt8 × Nat)) (h : t ≠ s) : upV F s v t = F t := by unfold upV; rw [if_neg h]
theorem fv_done (d : D) (s : ByteArray) : fv d.done s = fv d s := by unfold fv; rw [done_fs]
theorem getF_upd {fs : List AF} {s : ByteArray} {g : AF → AF} (hg : ∀ f, f.name = s → (g f).name = s) (t : ByteArray) : getF (updF fs s g) t = if t = s then (getF fs s).map g else getF fs t := by
  induction fs with
  | nil => unfold updF getF; split <;> rfl
  | cons x r ih =>
    have e1 : updF (x :: r) s g = (if x.name = s then g x else x) :: updF r s g := by simp [updF]
    rw [e1]
    unfold getF at ih ⊢
    by_cases hx : x.name = s
    · rw [if_pos hx]
      by_cases ht : t = s
      · subst ht
        rw [if_pos rfl, List.find?_cons_of_pos (by simp [hg x hx]), List.find?_cons_of_pos (by simp [hx])]
        rfl
      · rw [if_neg ht] at ih ⊢
        rw [List.find?_cons_of_neg (by simp [hg x hx]; exact fun e => ht e.symm), List.find?_cons_of_neg (by simp [hx]; exact fun e => ht e.symm)]
        exact ih
    · rw [if_neg hx]
      by_cases hxt : x.name = t
      · have ht : ¬ t = s := fun e => hx (hxt.trans e)
        rw [if_neg ht, List.find?_cons_of_pos (by simp [hxt]), List.find?_cons_of_pos (by simp [hxt])]
      · rw [List.find?_cons_of_neg (by simpa using hxt)]
        rw [ih]
        by_cases ht : t = s
        · rw [if_pos ht, if_pos ht, List.find?_cons_of_neg (by simpa using hx)]
        · rw [if_neg ht, if_neg ht, List.find?_cons_of_neg (by simpa using hxt)]
theorem getF_gone (fs : List AF) (s t : ByteArray) : getF (removeF s fs) t = if t = s then none else getF fs t := by
  induction fs with
  | nil => unfold removeF getF; split <;> rfl
  | cons x r ih =>
    unfold removeF at ih ⊢
    by_cases hx : x.name = s
    · rw [List.filter_cons_of_neg (by simp [hx]), ih]
      by_cases ht : t = s
      · rw [if_pos ht, if_pos ht]
      · rw [if_neg ht, if_neg ht]
        unfold getF
        rw [List.find?_cons_of_neg (by simp [hx]; exact fun e => ht e.symm)]
    · rw [List.filter_cons_of_pos (by simp [hx])]
      unfold getF at ih ⊢
      by_cases hxt : x.name = t
      · have ht : ¬ t = s := fun e => hx (hxt.trans e)
        rw [if_neg ht, List.find?_cons_of_pos (by simp [hxt]), List.find?_cons_of_pos (by simp [hxt])]
      · rw [List.find?_cons_of_neg (by simpa using hxt), ih]
        by_cases ht : t = s
        · rw [if_pos ht, if_pos ht]
        · rw [if_neg ht, if_neg ht, List.find?_cons_of_neg (by simpa using hxt)]
theorem getF_snoc (fs : List AF) (f : AF) (t : ByteArray) (h : getF fs f.name = none) : getF (fs ++ [f]) t = if t = f.name then some f else getF fs t := by
  unfold getF at h ⊢
  rw [List.find?_append]
  by_cases ht : t = f.name
  · subst ht
    rw [if_pos rfl, h]
    simp
  · rw [if_neg ht]
    cases List.find? (fun g => decide (g.name = t)) fs with
    | some x => rfl
    | none =>
      have : List.find? (fun g => decide (g.name = t)) [f] = none := by
        rw [List.find?_cons_of_neg (by simp; exact fun e => ht e.symm)]; rfl
      rw [this]; rfl
theorem may_one {d : D} {s : ByteArray} (h : nameOk s = true) (hf : d.fused = true → d.left ≠ 0) : d.may [s] = 0 := by
  unfold D.may
  rw [if_neg (by
    simp only [Bool.and_eq_true, decide_eq_true_eq, not_and]
    exact hf), if_pos (by simp [h])]
theorem may_dead {d : D} (l : List ByteArray) (h : d.fused = true) (h0 : d.left = 0) : d.may l = 9 := by
  unfold D.may
  rw [if_pos (by simp [h, h0])]
theorem put_v (fs : List AF) (s : ByteArray) (x : List UInt8) (t : ByteArray) :
    getF (putF fs s x) t = if t = s then some (match getF fs s with | none => ⟨s, x, 0⟩ | some f => { f with data := f.data ++ x }) else getF fs t := by
  unfold putF
  cases hg : getF fs s with
  | none => exact getF_snoc fs ⟨s, x, 0⟩ t hg
  | some f =>
    rw [getF_upd (g := fun f => ({ f with data := f.data ++ x } : AF)) (fun f h => h), hg]
    rfl
/-- an append that is done -/
theorem append_v {d : D} {s : ByteArray} {x : List UInt8} (hs : nameOk s = true) (hf : d.fused = true → d.left ≠ 0) (hu : d.used + x.length ≤ d.room) (hn : d.fs.length < 4096) :
    (d.append s x).2 = 0 ∧ fv (d.append s x).1 = upV (fv d) s (some (match fv d s with | none => (x, 0) | some y => (y.1 ++ x, y.2))) := by
  rw [append_ok (may_one hs hf) hu hn]
  refine ⟨rfl, funext fun t => ?_⟩
  show fv ({ d with fs := putF d.fs s x } : D).done t = _
  rw [fv_done]
  unfold fv upV
  show (getF (putF d.fs s x) t).map _ = _
  rw [put_v]
  by_cases ht : t = s
  · rw [if_pos ht, if_pos ht]
    cases getF d.fs s <;> rfl
  · rw [if_neg ht, if_neg ht]
/-- what cannot be done -/
theorem append_dead {d : D} (s : ByteArray) (x : List UInt8) (h : d.fused = true) (h0 : d.left = 0) : d.append s x = (d, 9) := by
  unfold D.append
  rw [may_dead [s] h h0, if_neg (by decide)]
theorem sync_v {d : D} {s : ByteArray} {x : List UInt8} {l : Nat} (hs : nameOk s = true) (hf : d.fused = true → d.left ≠ 0) (hg : fv d s = some (x, l)) :
    (d.sync [s]).2 = 0 ∧ fv (d.sync [s]).1 = upV (fv d) s (some (x, x.length)) := by
  unfold fv at hg
  cases hf2 : getF d.fs s with
  | none => rw [hf2] at hg; cases hg
  | some f =>
    rw [hf2] at hg
    have hfx : f.data = x := by simp at hg; exact hg.1
    have e : d.sync [s] = ({ d with fs := syncF s d.fs }.done, 0) := by
      unfold D.sync eachF
      rw [if_pos (may_one hs hf), hf2]
      rfl
    rw [e]
    refine ⟨rfl, funext fun t => ?_⟩
    show fv ({ d with fs := syncF s d.fs } : D).done t = _
    rw [fv_done]
    unfold fv upV
    show (getF (syncF s d.fs) t).map _ = _
    unfold syncF
    rw [getF_upd (g := fun f => ({ f with lasts := f.data.length } : AF)) (fun f h => h), hf2]
    by_cases ht : t = s
    · rw [if_pos ht, if_pos ht]
      show some (f.data, f.data.length) = _
      rw [hfx]
    · rw [if_neg ht, if_neg ht]
theorem each_dead {does : ByteArray → List AF → List AF} {d : D} (s : ByteArray) (h : d.fused = true) (h0 : d.left = 0) : eachF does d [s] = (d, 9) := by
  unfold eachF
  rw [may_dead [s] h h0, if_neg (by decide)]
theorem remove_v {d : D} {s : ByteArray} (hs : nameOk s = true) (hf : d.fused = true → d.left ≠ 0) (hg : (getF d.fs s).isSome = true) :
    (d.remove [s]).2 = 0 ∧ fv (d.remove [s]).1 = upV (fv d) s none := by
  cases hf2 : getF d.fs s with
  | none => rw [hf2] at hg; cases hg
  | some f =>
    have e : d.remove [s] = ({ d with fs := removeF s d.fs }.done, 0) := by
      unfold D.remove eachF
      rw [if_pos (may_one hs hf), hf2]
      rfl
    rw [e]
    refine ⟨rfl, funext fun t => ?_⟩
    show fv ({ d with fs := removeF s d.fs } : D).done t = _
    rw [fv_done]
    unfold fv upV
    show (getF (removeF s d.fs) t).map _ = _
    rw [getF_gone]
    by_cases ht : t = s
    · rw [if_pos ht, if_pos ht]; rfl
    · rw [if_neg ht, if_neg ht]
theorem truncate_v {d : D} {s : ByteArray} {x : List UInt8} {l k : Nat} (hs : nameOk s = true) (hf : d.fused = true → d.left ≠ 0) (hg : fv d s = some (x, l)) (hk : k ≤ x.length) :
    (d.truncate s (k : Int)).2 = 0 ∧ fv (d.truncate s (k : Int)).1 = upV (fv d) s (some (x.take k, min l k)) := by
  unfold fv at hg
  cases hf2 : getF d.fs s with
  | none => rw [hf2] at hg; cases hg
  | some f =>
    rw [hf2] at hg
    have hfx : f.data = x ∧ f.lasts = l := by simpa using hg
    have e : d.truncate s (k : Int) = ({ d with fs := truncF s k d.fs }.done, 0) := by
      unfold D.truncate
      rw [if_pos (may_one hs hf), hf2]
      show (if (k : Int) < 0 ∨ (f.data.length : Int) < k then (d, 1) else _) = _
      rw [if_neg (by rw [hfx.1]; omega)]
      rfl
    rw [e]
    refine ⟨rfl, funext fun t => ?_⟩
    show fv ({ d with fs := truncF s k d.fs } : D).done t = _
    rw [fv_done]
    unfold fv upV
    show (getF (truncF s k d.fs) t).map _ = _
    unfold truncF
    rw [getF_upd (g := fun f => ({ f with data := f.data.take k, lasts := min f.lasts k } : AF)) (fun f h => h), hf2]
    by_cases ht : t = s
    · rw [if_pos ht, if_pos ht]
      show some (f.data.take k, min f.lasts k) = _
      rw [hfx.1, hfx.2]
    · rw [if_neg ht, if_neg ht]
theorem lay_v (fs : List AF) (s : ByteArray) (x : List UInt8) (k : Nat) (t : ByteArray) : getF (layF fs s x k) t = if t = s then some ⟨s, x, k⟩ else getF fs t := by
  unfold layF
  cases hg : getF fs s with
  | none => exact getF_snoc fs ⟨s, x, k⟩ t hg
  | some f =>
    show getF (updF fs s fun _ => ⟨s, x, k⟩) t = _
    rw [getF_upd (g := fun _ => (⟨s, x, k⟩ : AF)) (fun f h => rfl), hg]
    rfl
theorem rename_v {d : D} {s m : ByteArray} {y : List UInt8 × Nat} (hs : nameOk s = true) (hm : nameOk m = true) (hf : d.fused = true → d.left ≠ 0) (hg : fv d s = some y) :
    (d.rename s m).2 = 0 ∧ fv (d.rename s m).1 = upV (upV (fv d) s none) m (some y) := by
  unfold fv at hg
  cases hf2 : getF d.fs s with
  | none => rw [hf2] at hg; cases hg
  | some f =>
    rw [hf2] at hg
    have hfx : (f.data, f.lasts) = y := by simpa using hg
    have hmay : d.may [s, m] = 0 := by
      unfold D.may
      rw [if_neg (by
        simp only [Bool.and_eq_true, decide_eq_true_eq, not_and]
        exact hf), if_pos (by simp [hs, hm])]
    have e : d.rename s m = ({ d with fs := layF (removeF s d.fs) m f.data f.lasts }.done, 0) := by
      unfold D.rename
      rw [if_pos hmay, hf2]
    rw [e]
    refine ⟨rfl, funext fun t => ?_⟩
    show fv ({ d with fs := layF (removeF s d.fs) m f.data f.lasts } : D).done t = _
    rw [fv_done]
    unfold fv upV
    show (getF (layF (removeF s d.fs) m f.data f.lasts) t).map _ = _
    rw [lay_v]
    by_cases ht : t = m
    · rw [if_pos ht, if_pos ht]
      show some (f.data, f.lasts) = _
      rw [hfx]
    · rw [if_neg ht, if_neg ht, getF_gone]
      by_cases hts : t = s
      · rw [if_pos hts, if_pos hts]; rfl
      · rw [if_neg hts, if_neg hts]
theorem crash_v (d : D) (k : Nat) (t : ByteArray) : fv (d.crash k) t = (fv d t).map fun y => (y.1.take (y.2 + k % (y.1.length - y.2 + 1)), y.2 + k % (y.1.length - y.2 + 1)) := by
  unfold fv
  show (getF (d.fs.map (crashF k)) t).map _ = _
  have : getF (d.fs.map (crashF k)) t = (getF d.fs t).map (crashF k) := by
    unfold getF
    rw [List.find?_map]
    rfl
  rw [this]
  cases getF d.fs t <;> rfl
end Go.Proofs.YtkbfjgmgckbogaaGreat.Dsk
