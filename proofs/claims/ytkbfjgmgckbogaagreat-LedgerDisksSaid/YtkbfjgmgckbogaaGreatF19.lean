/-
  Texts that the proofs of this seat stand on, one behind the other: contracts of functions and plain lemmas. Conditions: those that each theorem states.
-/
import Derived.Test.YtkbfjgmgckbogaaGreatF18
import Derived.Test.YtkbfjgmgckbogaaGreatDiskList
import Derived.Test.YtkbfjgmgckbogaaGreatF1
import Derived.Test.YtkbfjgmgckbogaaGreatF9
import Derived.Test.YtkbfjgmgckbogaaGreatF15
import Derived.Test.YtkbfjgmgckbogaaGreatRefAt
import Derived.Test.YtkbfjgmgckbogaaGreatF6
import Derived.Deep.QuietTactic
import Derived.BigQuiet
/-
  A disk and the reference's disk that is alike: plain.
-/








namespace Go.Proofs.YtkbfjgmgckbogaaGreat.Dsk
open Go.RowKit L Oct
def ltN (x y : ByteArray) : Bool := Op.bytesLess x.toList y.toList
def Srt (fs : List AF) : Prop := fs.Pairwise fun x y => ltN x.name y.name = true
theorem bytes_inj {x y : ByteArray} (h : x.toList = y.toList) : x = y := by
  rw [ByteArray.toList_eq, ByteArray.toList_eq] at h
  exact ByteArray.ext (Array.toList_inj.1 h)
theorem srt_nd {fs : List AF} (h : Srt fs) : Nd fs := by
  unfold Nd
  rw [List.nodup_iff_pairwise_ne, List.pairwise_map]
  exact h.imp fun {x y} hxy e => by
    rw [ltN, e, bl_irrefl] at hxy; cases hxy
/-- where a name stands in a row that rises: what is ahead of it, itself or nothing, what is behind -/
theorem srt_split {fs : List AF} (h : Srt fs) (s : ByteArray) :
    (∀ f ∈ fs.take (spotN fs s), ltN f.name s = true) ∧
    ((isAt fs s = true ∧ ∃ f, fs = fs.take (spotN fs s) ++ f :: fs.drop (spotN fs s + 1) ∧ fs.getD (spotN fs s) default = f ∧ f.name = s ∧ ∀ g ∈ fs.drop (spotN fs s + 1), ltN s g.name = true) ∨
     (isAt fs s = false ∧ ∀ g ∈ fs.drop (spotN fs s), ltN s g.name = true)) := by
  induction fs with
  | nil => exact ⟨by simp, .inr ⟨by simp [isAt], by simp⟩⟩
  | cons f t ih =>
    obtain ⟨h1, h2⟩ := List.pairwise_cons.1 h
    obtain ⟨i1, i2⟩ := ih h2
    cases hb : Op.bytesLess f.name.toList s.toList with
    | true =>
      have e : spotN (f :: t) s = spotN t s + 1 := by simp [spotN, hb]
      have ei : isAt (f :: t) s = isAt t s := by
        unfold isAt
        rw [e]
        simp
      rw [e, ei]
      refine ⟨fun g hg => ?_, ?_⟩
      · rw [List.take_succ_cons] at hg
        rcases List.mem_cons.1 hg with rfl | hg
        · exact hb
        · exact i1 g hg
      · rcases i2 with ⟨ha, g, hg1, hg2, hg3, hg4⟩ | ⟨ha, hg⟩
        · refine .inl ⟨ha, g, ?_, by simpa using hg2, hg3, by simpa using hg4⟩
          rw [List.take_succ_cons, List.drop_succ_cons, List.cons_append, ← hg1]
        · exact .inr ⟨ha, by simpa using hg⟩
    | false =>
      have e : spotN (f :: t) s = 0 := by simp [spotN, hb]
      rw [e]
      refine ⟨by simp, ?_⟩
      by_cases hs : f.name = s
      · refine .inl ⟨by unfold isAt; rw [e]; simp [hs], f, by simp, by simp, hs, fun g hg => ?_⟩
        have := h1 g (by simpa using hg)
        rwa [hs] at this
      · have hlt : ltN s f.name = true := by
          cases h3 : Op.bytesLess s.toList f.name.toList with
          | true => exact h3
          | false => exact (hs (bytes_inj (bl_tri _ _ hb h3))).elim
        refine .inr ⟨?_, fun g hg => ?_⟩
        · unfold isAt
          rw [e]
          have : ¬ f.name.toList = s.toList := fun h => hs (bytes_inj h)
          simp [this]
        · rw [List.drop_zero] at hg
          rcases List.mem_cons.1 hg with rfl | hg
          · exact hlt
          · exact bl_trans _ _ _ hlt (h1 g hg)
structure Like (d : D) (r : RD) : Prop where
  room : d.room = r.room
  perm : d.fs.Perm r.fs
  srt : Srt r.fs
  left : r.left = if d.fused then (d.left : Int) else -1
section
variable {d : D} {r : RD}
theorem Like.ndr (h : Like d r) : Nd r.fs := srt_nd h.srt
theorem Like.nd (h : Like d r) : Nd d.fs := by
  unfold Nd
  rw [(h.perm.map AF.name).nodup_iff]
  exact h.ndr
theorem srt_get {fs : List AF} (h : Srt fs) (s : ByteArray) : getF fs s = if isAt fs s then some (fs.getD (spotN fs s) default) else none := by
  obtain ⟨h1, ⟨ha, f, h2, h3, h4, h5⟩ | ⟨ha, h2⟩⟩ := srt_split h s
  · rw [ha, if_pos rfl, h3, ← h4]
    exact getF_mem (srt_nd h) (by rw [h2]; simp)
  · rw [ha, if_neg (by simp)]
    cases hg : getF fs s with
    | none => rfl
    | some f =>
      obtain ⟨hm, rfl⟩ := getF_name hg
      rw [← List.take_append_drop (spotN fs f.name) fs] at hm
      exfalso
      rcases List.mem_append.1 hm with hm | hm
      · have := h1 f hm; rw [ltN, bl_irrefl] at this; cases this
      · have := h2 f hm; rw [ltN, bl_irrefl] at this; cases this
theorem Like.get (h : Like d r) (s : ByteArray) : getF d.fs s = if isAt r.fs s then some (r.fs.getD (spotN r.fs s) default) else none := by
  rw [getF_perm h.ndr h.perm, srt_get h.srt]
theorem Like.used (h : Like d r) : d.used = Dsk.used r.fs := used_perm h.perm
theorem Like.may (h : Like d r) (names : List ByteArray) : d.may names = r.may names := by
  unfold D.may RD.may
  rw [h.left]
  cases hf : d.fused with
  | false => simp
  | true =>
    by_cases h0 : d.left = 0
    · simp [h0]
    · have : ¬ (d.left : Int) = 0 := by omega
      simp [h0]
theorem Like.done (h : Like d r) : Like d.done r.did := by
  obtain ⟨h1, h2, h3, h4⟩ := h
  obtain ⟨room, fs, fused, left⟩ := d
  obtain ⟨room2, fs2, left2⟩ := r
  cases fused with
  | false =>
    have h4 : left2 = -1 := h4
    have : ¬ (0 : Int) < left2 := by omega
    unfold D.done RD.did
    rw [if_neg this]
    exact ⟨h1, h2, h3, h4⟩
  | true =>
    have h4 : left2 = (left : Int) := h4
    unfold D.done RD.did
    by_cases h0 : 0 < left2
    · rw [if_pos h0]
      refine ⟨h1, h2, h3, ?_⟩
      show left2 - 1 = ((left - 1 : Nat) : Int)
      omega
    · rw [if_neg h0]
      refine ⟨h1, h2, h3, ?_⟩
      show left2 = ((left - 1 : Nat) : Int)
      omega
theorem Like.fs (h : Like d r) {fs gs : List AF} (hp : fs.Perm gs) (hs : Srt gs) : Like { d with fs := fs } { r with fs := gs } := ⟨h.room, hp, hs, h.left⟩
/-- rising says something of the names alone -/
theorem srt_names {fs gs : List AF} (h : Srt fs) (e : gs.map AF.name = fs.map AF.name) : Srt gs := by
  have h1 : (fs.map AF.name).Pairwise fun x y => ltN x y = true := List.pairwise_map.2 h
  rw [← e] at h1
  exact List.pairwise_map.1 h1
theorem upd_set {fs : List AF} (h : Srt fs) {s : ByteArray} (ha : isAt fs s = true) (g : AF → AF) : updF fs s g = fs.set (spotN fs s) (g (fs.getD (spotN fs s) default)) := by
  obtain ⟨h1, ⟨_, f, h2, h3, h4, h5⟩ | ⟨ha2, _⟩⟩ := srt_split h s
  · have hlt := isAt_lt ha
    have hne : ∀ y ∈ fs.take (spotN fs s), y.name ≠ s := fun y hy e => by
      have := h1 y hy; rw [ltN, e, bl_irrefl] at this; cases this
    have hne2 : ∀ y ∈ fs.drop (spotN fs s + 1), y.name ≠ s := fun y hy e => by
      have := h5 y hy; rw [ltN, e, bl_irrefl] at this; cases this
    have hu := upd_at (g := g) h4 hne hne2
    rw [← h2] at hu
    rw [hu, h3, List.set_eq_take_append_cons_drop, if_pos hlt]
  · rw [ha] at ha2; cases ha2
theorem set_names {fs : List AF} {k : Nat} {f : AF} (hk : k < fs.length) (h : f.name = (fs.getD k default).name) : (fs.set k f).map AF.name = fs.map AF.name := by
  rw [List.map_set, h]
  have : (fs.getD k default).name = (fs.map AF.name)[k]'(by simpa using hk) := by simp [List.getD, hk]
  rw [this, List.set_getElem_self]
theorem srt_ins {fs : List AF} (h : Srt fs) {f : AF} (ha : isAt fs f.name = false) : Srt (fs.take (spotN fs f.name) ++ f :: fs.drop (spotN fs f.name)) := by
  obtain ⟨h1, ⟨ha2, _⟩ | ⟨_, h2⟩⟩ := srt_split h f.name
  · rw [ha] at ha2; cases ha2
  · have hh := h
    unfold Srt at hh
    rw [← List.take_append_drop (spotN fs f.name) fs, List.pairwise_append] at hh
    refine List.pairwise_append.2 ⟨hh.1, List.pairwise_cons.2 ⟨h2, hh.2.1⟩, fun x hx y hy => ?_⟩
    rcases List.mem_cons.1 hy with rfl | hy
    · exact h1 x hx
    · exact hh.2.2 x hx y hy
theorem ins_perm {fs gs : List AF} (hp : fs.Perm gs) (f : AF) (k : Nat) : (fs ++ [f]).Perm (gs.take k ++ f :: gs.drop k) := by
  have h1 : (fs ++ [f]).Perm (f :: fs) := List.perm_append_comm
  have h2 : (gs.take k ++ f :: gs.drop k).Perm (f :: gs) := by
    have := List.perm_middle (a := f) (l₁ := gs.take k) (l₂ := gs.drop k)
    rwa [List.take_append_drop] at this
  exact h1.trans ((hp.cons f).trans h2.symm)
theorem upd_perm {fs gs : List AF} (hp : fs.Perm gs) (s : ByteArray) (g : AF → AF) : (updF fs s g).Perm (updF gs s g) := hp.map _
theorem like_put (h : Like d r) (s : ByteArray) (x : List UInt8) : (putF d.fs s x).Perm (rputF r.fs s x) ∧ Srt (rputF r.fs s x) := by
  have hg := h.get s
  cases ha : isAt r.fs s with
  | true =>
    rw [ha, if_pos rfl] at hg
    have e : rputF r.fs s x = r.fs.set (spotN r.fs s) { r.fs.getD (spotN r.fs s) default with data := (r.fs.getD (spotN r.fs s) default).data ++ x } := by
      rw [rputF, withF, ha]; rfl
    have e2 : putF d.fs s x = updF d.fs s fun f => { f with data := f.data ++ x } := by rw [putF, hg]
    rw [e, e2]
    refine ⟨?_, srt_names h.srt (set_names (isAt_lt ha) rfl)⟩
    rw [← upd_set h.srt ha fun f => ({ f with data := f.data ++ x } : AF)]
    exact upd_perm h.perm s _
  | false =>
    rw [ha, if_neg (by simp)] at hg
    have hk := spotN_le r.fs s
    have e : rputF r.fs s x = r.fs.take (spotN r.fs s) ++ ⟨s, x, 0⟩ :: r.fs.drop (spotN r.fs s) := by
      have hw : withF r.fs s = r.fs.take (spotN r.fs s) ++ ⟨s, [], 0⟩ :: r.fs.drop (spotN r.fs s) := by rw [withF, ha]; rfl
      have hlen : (r.fs.take (spotN r.fs s)).length = spotN r.fs s := by rw [List.length_take]; omega
      rw [rputF, hw]
      rw [List.set_append_right _ _ (by omega), hlen, Nat.sub_self, List.set_cons_zero]
      congr 2
      rw [List.getD, List.getElem?_append_right (by omega), hlen, Nat.sub_self]
      simp
    have e2 : putF d.fs s x = d.fs ++ [⟨s, x, 0⟩] := by rw [putF, hg]
    rw [e, e2]
    exact ⟨ins_perm h.perm _ _, srt_ins (f := ⟨s, x, 0⟩) h.srt ha⟩
theorem like_append (h : Like d r) (s : ByteArray) (x : List UInt8) : (d.append s x).2 = (r.append s x).2 ∧ Like (d.append s x).1 (r.append s x).1 := by
  have hm := h.may [s]
  have hf : d.full s x = r.full s x := by
    unfold D.full RD.full
    rw [h.used, h.room, h.get s, h.perm.length_eq]
    cases isAt r.fs s <;> simp
  unfold D.append RD.append
  rw [hm, hf]
  split
  · split
    · exact ⟨rfl, h⟩
    · obtain ⟨h1, h2⟩ := like_put h s x
      exact ⟨rfl, (h.fs h1 h2).done⟩
  · exact ⟨rfl, h⟩
theorem like_sync (h : Like d r) (s : ByteArray) : (d.sync [s]).2 = (r.sync s).2 ∧ Like (d.sync [s]).1 (r.sync s).1 := by
  have hm := h.may [s]
  have hg := h.get s
  unfold D.sync eachF RD.sync
  rw [hm, hg]
  cases ha : isAt r.fs s with
  | false =>
    simp only [Bool.false_eq_true, if_false]
    split
    · exact ⟨rfl, h⟩
    · exact ⟨rfl, h⟩
  | true =>
    simp only [if_true]
    split
    · refine ⟨rfl, (h.fs ?_ ?_).done⟩
      · rw [syncF, ← upd_set h.srt ha fun f => ({ f with lasts := f.data.length } : AF)]
        exact upd_perm h.perm s _
      · exact srt_names h.srt (set_names (isAt_lt ha) rfl)
    · exact ⟨rfl, h⟩
theorem gone_eq {fs : List AF} (h : Srt fs) (s : ByteArray) : removeF s fs = rgone fs s := by
  obtain ⟨h1, ⟨ha, f, h2, h3, h4, h5⟩ | ⟨ha, h2⟩⟩ := srt_split h s
  · have e1 : (fs.take (spotN fs s)).filter (fun f => !decide (f.name = s)) = fs.take (spotN fs s) := List.filter_eq_self.2 fun y hy => by
      have := h1 y hy
      have hne : ¬ y.name = s := fun e => by rw [ltN, e, bl_irrefl] at this; cases this
      simp [hne]
    have e2 : (fs.drop (spotN fs s + 1)).filter (fun f => !decide (f.name = s)) = fs.drop (spotN fs s + 1) := List.filter_eq_self.2 fun y hy => by
      have := h5 y hy
      have hne : ¬ y.name = s := fun e => by rw [ltN, e, bl_irrefl] at this; cases this
      simp [hne]
    rw [rgone, ha, if_pos rfl]
    unfold removeF
    conv => lhs; rw [h2]
    rw [List.filter_append, e1, List.filter_cons_of_neg (by simp [h4]), e2]
  · rw [rgone, ha]
    refine List.filter_eq_self.2 fun y hy => ?_
    rw [← List.take_append_drop (spotN fs s) fs] at hy
    have hne : ¬ y.name = s := fun e => by
      rcases List.mem_append.1 hy with hy | hy
      · have := h1 y hy; rw [ltN, e, bl_irrefl] at this; cases this
      · have := h2 y hy; rw [ltN, e, bl_irrefl] at this; cases this
    simp [hne]
theorem srt_gone {fs : List AF} (h : Srt fs) (s : ByteArray) : Srt (rgone fs s) := by
  rw [← gone_eq h]
  exact h.sublist List.filter_sublist
theorem gone_perm {fs gs : List AF} (hp : fs.Perm gs) (s : ByteArray) : (removeF s fs).Perm (removeF s gs) := hp.filter _
theorem like_remove (h : Like d r) (s : ByteArray) : (d.remove [s]).2 = (r.remove s).2 ∧ Like (d.remove [s]).1 (r.remove s).1 := by
  have hm := h.may [s]
  have hg := h.get s
  unfold D.remove eachF RD.remove
  rw [hm, hg]
  cases ha : isAt r.fs s with
  | false =>
    simp only [Bool.false_eq_true, if_false]
    split
    · exact ⟨rfl, h⟩
    · exact ⟨rfl, h⟩
  | true =>
    simp only [if_true]
    split
    · refine ⟨rfl, (h.fs ?_ (srt_gone h.srt s)).done⟩
      rw [← gone_eq h.srt]
      exact gone_perm h.perm s
    · exact ⟨rfl, h⟩
theorem gone_gone (fs : List AF) (s : ByteArray) : removeF s (removeF s fs) = removeF s fs := by
  unfold removeF
  rw [List.filter_filter]
  simp
theorem gone_not {fs : List AF} (h : Srt fs) (s : ByteArray) : isAt (rgone fs s) s = false := by
  cases ha : isAt (rgone fs s) s with
  | false => rfl
  | true =>
    have hg := srt_get (srt_gone h s) s
    rw [ha, if_pos rfl, ← gone_eq h] at hg
    obtain ⟨h1, h2⟩ := getF_name hg
    have := (List.mem_filter.1 h1).2
    have h3 := by simpa using this
    exact (h3 (by simpa [List.getD] using h2)).elim
theorem like_rename (h : Like d r) (s nm : ByteArray) : (d.rename s nm).2 = (r.rename s nm).2 ∧ Like (d.rename s nm).1 (r.rename s nm).1 := by
  have hm := h.may [s, nm]
  have hg := h.get s
  unfold D.rename RD.rename
  rw [hm, hg]
  cases ha : isAt r.fs s with
  | false =>
    simp only [Bool.false_eq_true, if_false]
    split
    · exact ⟨rfl, h⟩
    · exact ⟨rfl, h⟩
  | true =>
    simp only [if_true]
    rw [ha, if_pos rfl] at hg
    obtain ⟨f, hf⟩ : ∃ f, f = r.fs.getD (spotN r.fs s) default := ⟨_, rfl⟩
    rw [← hf] at hg ⊢
    split
    · have hl := lay_gone (gone_nd h.nd s) nm f.data f.lasts
      by_cases he : s.toList = nm.toList
      · obtain rfl := bytes_inj he
        rw [if_pos (by simp)]
        refine ⟨rfl, Like.done ?_⟩
        have hp : (layF (removeF s d.fs) s f.data f.lasts).Perm r.fs := by
          rw [gone_gone] at hl
          refine hl.trans (List.Perm.trans ?_ h.perm)
          obtain ⟨a, c, hs, hx, hac, hc⟩ := nd_split h.nd hg
          have e2 : removeF s d.fs = a ++ c := by
            unfold removeF
            rw [hs, List.filter_append, List.filter_cons_of_neg (by simp [hx]), List.filter_eq_self.2 (fun y hy => by simp [hac y hy]), List.filter_eq_self.2 (fun y hy => by simp [hc y hy])]
          rw [e2, hs]
          have ef : (⟨s, f.data, f.lasts⟩ : AF) = f := by rw [← hx]
          rw [ef]
          exact (List.perm_append_comm (l₁ := a ++ c) (l₂ := [f])).trans (List.perm_middle (a := f) (l₁ := a) (l₂ := c)).symm
        exact h.fs hp h.srt
      · have hne : (s.toList == nm.toList) = false := by simpa using he
        rw [hne, if_neg (by simp)]
        have h2 := srt_gone (srt_gone h.srt s) nm
        have hp : (removeF nm (removeF s d.fs)).Perm (rgone (rgone r.fs s) nm) := by
          rw [← gone_eq (srt_gone h.srt s), ← gone_eq h.srt]
          exact gone_perm (gone_perm h.perm s) nm
        refine ⟨rfl, (h.fs (hl.trans (ins_perm hp _ _)) ?_).done⟩
        exact srt_ins (f := { f with name := nm }) h2 (gone_not (srt_gone h.srt s) nm)
    · exact ⟨rfl, h⟩
theorem like_crash (h : Like d r) (k : Nat) : Like (d.crash k) { r with fs := r.fs.map (crashF k), left := -1 } := by
  refine ⟨h.room, h.perm.map _, srt_names h.srt ?_, rfl⟩
  rw [List.map_map]
  rfl
theorem like_fuse (h : Like d r) (n : Int) : Like { d with fused := decide (0 ≤ n), left := n.toNat } { r with left := max (-1) n } := by
  refine ⟨h.room, h.perm, h.srt, ?_⟩
  show max (-1) n = if decide (0 ≤ n) = true then ((n.toNat : Nat) : Int) else -1
  by_cases h0 : 0 ≤ n
  · simp [h0]; omega
  · simp [h0]; omega
theorem like_copy (h : Like d r) : Like { d with fused := false, left := 0 } { r with left := -1 } := ⟨h.room, h.perm, h.srt, rfl⟩
theorem bl_lt : ∀ a b : List UInt8, Op.bytesLess a b = true ↔ a < b
  | [], [] => by simp [Op.bytesLess]
  | [], _ :: _ => by simp [Op.bytesLess]
  | _ :: _, [] => by simp [Op.bytesLess]
  | a :: x, b :: y => by
    have ih := bl_lt x y
    rw [List.cons_lt_cons_iff]
    simp only [Op.bytesLess, Bool.or_eq_true, Bool.and_eq_true, decide_eq_true_eq, beq_iff_eq, ih]
theorem names_like (h : Like d r) : sortN (d.fs.map AF.name) = nms r.fs := by
  have hp : ((d.fs.map AF.name).map fun s => s.data.toList).Perm ((nms r.fs).map fun s => s.data.toList) := (h.perm.map AF.name).map _
  have hs : ((nms r.fs).map fun s => s.data.toList).Pairwise fun x y => decide (x ≤ y) = true := by
    rw [List.pairwise_map, nms, List.pairwise_map]
    refine h.srt.imp fun {x y} hxy => ?_
    have h1 := (bl_lt _ _).1 (bl_lt _ _ |>.2 ((bl_lt _ _).1 hxy))
    rw [ByteArray.toList_eq, ByteArray.toList_eq] at h1
    rw [decide_eq_true_eq]
    exact List.le_of_lt h1
  unfold sortN
  rw [Go.mergeSort_of_perm hp, List.mergeSort_of_pairwise hs, List.map_map]
  conv => rhs; rw [← List.map_id (nms r.fs)]
  refine List.map_congr_left fun s _ => ?_
  simp
end
end Go.Proofs.YtkbfjgmgckbogaaGreat.Dsk

/-
  Disks that are alike, their numbers in bounds (chapter 3), plain.
-/



namespace Go.Proofs.YtkbfjgmgckbogaaGreat.Dsk
open Go.RowKit L Oct
section
variable {d : D} {r : RD} {n m : Nat}
theorem Like.ok (hl : Like d r) (h : DInv d n) (hn : n ≤ 4096) : r.Ok := by
  refine ⟨?_, ?_, ?_⟩
  · rw [hl.left]
    have := h.ok.left
    split <;> omega
  · rw [← hl.used]
    have h3 := h.ok.used
    have h4 := h.ok.room
    omega
  · rw [← hl.perm.length_eq]
    have := h.len; omega
theorem Like.usedr (hl : Like d r) (h : DInv d n) : Dsk.used r.fs ≤ 1073741824 := by
  rw [← hl.used]
  have h3 := h.ok.used
  have h4 := h.ok.room
  omega
theorem Like.fitr (hl : Like d r) (h : DInv d n) : ∀ f ∈ r.fs, f.lasts ≤ f.data.length ∧ f.data.length ≤ 1073741824 := fun f hf => h.fit f (hl.perm.mem_iff.2 hf)
end
end Go.Proofs.YtkbfjgmgckbogaaGreat.Dsk

/-
  Truncate, in both disks of chapter 3, plain.
-/



namespace Go.Proofs.YtkbfjgmgckbogaaGreat.Dsk
open Go.RowKit L Oct
section
variable {d : D} {r : RD} {n m : Nat}
theorem like_truncate (h : Like d r) (s : ByteArray) (n : Int) : (d.truncate s n).2 = (r.truncate s n).2 ∧ Like (d.truncate s n).1 (r.truncate s n).1 := by
  have hm := h.may [s]
  have hg := h.get s
  unfold D.truncate RD.truncate
  rw [hm, hg]
  cases ha : isAt r.fs s with
  | false =>
    simp only [Bool.false_eq_true, if_false]
    split
    · exact ⟨rfl, h⟩
    · exact ⟨rfl, h⟩
  | true =>
    simp only [if_true]
    split
    · split
      · exact ⟨rfl, h⟩
      · refine ⟨rfl, (h.fs ?_ ?_).done⟩
        · rw [truncF, ← upd_set h.srt ha fun f => cutAF f n.toNat]
          exact upd_perm h.perm s _
        · exact srt_names h.srt (set_names (isAt_lt ha) rfl)
    · exact ⟨rfl, h⟩
end
end Go.Proofs.YtkbfjgmgckbogaaGreat.Dsk

/-
  'files' of the laws of chapter 5: two disks that are alike have the same files.
-/





namespace Go.Proofs.YtkbfjgmgckbogaaGreat.Dsk
open Go.RowKit L Oct
section
variable {W0 w : World} {R : Asrt} {b b2 : Nat} {d : D} {r : RD}
theorem cell_nextF {w w' : World} {p : Addr} {v : Value} (hb : Below w.heap.size w w') (h : w.cell? p = some v) : w'.cell? p = some v := (hb.cell (World.block_lt_of_cell? w _ h)).trans h
def FiRel (W0 : World) (R : Asrt) (b b2 : Nat) (d : D) (r : RD) (v1 v2 : Value) (wr : World) : Prop := Hold W0 ((Row 9 1 v1 (nms r.fs).length (strs (nms r.fs))).sep ((Row 9 1 v2 (nms r.fs).length (strs (nms r.fs))).sep ((DiskA b d).sep ((RefA b2 r).sep R)))) wr
theorem nmsF_get {fs : List AF} {k : Nat} (hk : k < fs.length) : (nms fs).getD k ByteArray.empty = (fs.getD k default).name := by
  simp [nms, List.getD, hk]
theorem readF_at {fs : List AF} (h : Srt fs) {k : Nat} (hk : k < fs.length) : isAt fs (fs.getD k default).name = true ∧ fs.getD (spotN fs (fs.getD k default).name) default = fs.getD k default := by
  have hg := srt_get h (fs.getD k default).name
  rw [getF_mem (srt_nd h) (by simp [List.getD, hk])] at hg
  cases ha : isAt fs (fs.getD k default).name with
  | false => rw [ha] at hg; simp at hg
  | true =>
    rw [ha, if_pos rfl] at hg
    exact ⟨rfl, (Option.some.inj hg).symm⟩
set_option maxRecDepth 100000 in
set_option maxHeartbeats 3200000 in
theorem files_any (H : Hold W0 ((DiskA b d).sep ((RefA b2 r).sep R)) w) (hl : Like d r) (hok : d.Ok) (hn : d.fs.length ≤ 4096) (hs : ∀ f ∈ d.fs, f.name.size ≤ 140737488355328) :
    Calls Tryz.prog 20 #[ptr b, ptr b2] w fun e w' => e = .returned (.bool true) ∧ Hold W0 ((DiskA b d).sep ((RefA b2 r).sep R)) w' := by
  have hn2 : r.fs.length ≤ 4096 := by rw [← hl.perm.length_eq]; exact hn
  have hud : d.used ≤ 1073741824 := Nat.le_trans hok.used hok.room
  have hur : used r.fs ≤ 1073741824 := by rw [← hl.used]; exact hud
  have hnm := names_like hl
  have hlen1 : d.fs.length = (nms r.fs).length := by rw [nms, List.length_map, hl.perm.length_eq]
  have HLk := Lib.hid hl
  have Hs := Lib.hid hs
  have HH := Lib.hid H
  have Hlen1 := Lib.hid hlen1
  have Hnm := Lib.hid hnm
  clear hl hs H hlen1 hnm hok
  show Calls Tryz.prog 20 #[.pointer (some ⟨b, 0, none⟩), .pointer (some ⟨b2, 0, none⟩)] w _
  go_enter Tryz.func20, Tryz.ntmps20
  go_wp2_with fail
  refine (list_any HH.out hn Hs.out).mono ?_
  rintro e w1 ⟨v1, rfl, h1⟩
  rw [Hnm.out, Hlen1.out] at h1
  have H1 := Lib.hid h1
  clear h1 HH
  go_wp2_with fail
  refine (xlist_any H1.out.up3 hn2).mono ?_
  rintro e w2 ⟨v2, rfl, ho2, hb2⟩
  have H2 : Hid (FiRel W0 R b b2 d r v1 v2 w2) := Lib.hid ((H1.out.addRow hb2 ho2).perm (by ac_rfl))
  have hlen1 := H2.out.sl.run_len Tryz.underlying68
  have hlen2 := H2.out.up2.sl.run_len Tryz.underlying68
  clear ho2 hb2 H1
  have hq : ((((nms r.fs).length : Nat) : Int) != (((nms r.fs).length : Nat) : Int)) = false := by simp
  go_wp2_with fail
  go_loopw [7] (fun i wr => ∃ k : Nat, i = .int .i64 k ∧ k ≤ (nms r.fs).length ∧ FiRel W0 R b b2 d r v1 v2 wr) (fun i _ => (nms r.fs).length - (intOf i).toNat)
  case atStart => exact ⟨0, rfl, Nat.zero_le _, H2.out⟩
  case round =>
    clear H2 hq
    obtain ⟨k, rfl, hk, hR⟩ := hrel
    unfold FiRel at hR
    by_cases hlt : k < (nms r.fs).length
    · obtain ⟨A, u, hA, _, c0, Hu⟩ := hR.sl.at1 (P := Tryz.prog) Tryz.underlying68 Tryz.size9 k hlt
      rw [Hu.out, strs_get _ k hlt] at c0
      obtain ⟨A2, u2, hA2, _, c2, Hu2⟩ := hR.up2.sl.at1 (P := Tryz.prog) Tryz.underlying68 Tryz.size9 k hlt
      rw [Hu2.out, strs_get _ k hlt] at c2
      have hkl : k < r.fs.length := by simpa [nms] using hlt
      rw [nmsF_get hkl] at c0 c2
      obtain ⟨f, hf⟩ : ∃ f, f = r.fs.getD k default := ⟨_, rfl⟩
      obtain ⟨ha, hg⟩ := readF_at HLk.out.srt hkl
      rw [← hf] at ha hg c0 c2
      have hgd : getF d.fs f.name = some f := by rw [HLk.out.get, ha, if_pos rfl, hg]
      have hfl : f.data.length ≤ 1073741824 := by
        have := used_get hkl
        rw [← hf] at this; omega
      have hrd : r.read f.name = some f.data := by rw [RD.read, ha, if_pos rfl, hg]
      obtain ⟨s, hs⟩ : ∃ s, s = f.name := ⟨_, rfl⟩
      rw [← hs] at c0 c2 hgd hrd
      have Hgd := Lib.hid hgd
      have Hrd := Lib.hid hrd
      have HR := Lib.hid hR
      have hcell := fun (w' : World) (hb : Below wr.heap.size wr w') => cell_nextF hb c0
      have hcell2 := fun (w' : World) (hb : Below wr.heap.size wr w') => cell_nextF hb c2
      have Hcell := Lib.hid hcell
      have Hcell2 := Lib.hid hcell2
      clear hf ha hg hgd hrd hs hR hcell hcell2 Hu Hu2 c2
      go_wp2_with fail
      refine (read_yes HR.out.up3 s Hgd.out (by omega)).mono ?_
      rintro e w6 ⟨v6, rfl, ho6, hb6⟩
      have H6 := Lib.hid (HR.out.addRow hb6 ho6)
      have c6 := Hcell.out w6 hb6
      have Hb6 := Lib.hid hb6
      clear ho6 hb6 HR c0
      go_wp2_with fail
      refine (xread_any (H6.out.perm (by ac_rfl) : Hold W0 ((RefA b2 r).sep ((Row 5 1 v6 f.data.length (u8s f.data)).sep ((Row 9 1 v1 (nms r.fs).length (strs (nms r.fs))).sep ((Row 9 1 v2 (nms r.fs).length (strs (nms r.fs))).sep ((DiskA b d).sep R))))) w6) (by omega) s).mono ?_
      intro e w7 h7
      rw [Hrd.out] at h7
      rcases h7 with ⟨h7, _⟩ | ⟨x, v7, hx, rfl, ho7, hb7⟩
      · cases h7
      obtain rfl : f.data = x := by simpa using hx
      have H7 := Lib.hid (H6.out.addRow hb7 ho7)
      have c7 := Hcell.out w7 (Hb6.out.trans (hb7.mono Hb6.out.size))
      have d7 := Hcell2.out w7 (Hb6.out.trans (hb7.mono Hb6.out.size))
      have cv1 := fun m => (H7.out.up2.sl.below' (below_drewN (Below.refl _ _) m)).run_string (src := 22) (dst := 9) Tryz.underlying22 Tryz.underlying5 Tryz.underlying9
      have cv2 := fun m => (H7.out.sl.below' (below_drewN (Below.refl _ _) m)).run_string (src := 22) (dst := 9) Tryz.underlying22 Tryz.underlying5 Tryz.underlying9
      obtain ⟨S, hS⟩ : ∃ S, S = ByteArray.mk f.data.toArray := ⟨_, rfl⟩
      rw [← hS] at cv1 cv2
      have hq1 : (S.toList == S.toList) = true := by simp
      have hq2 : (s.toList == s.toList) = true := by simp
      clear ho7 hb7 H6 c6 hx hS
      go_wp2_with fail
      go_quiet (fail)
      go_wp2
      have H8 : Hid (FiRel W0 R b b2 d r v1 v2 (w7.drewN nq)) := Lib.hid ((H7.out.keeps (below_drewN (Below.refl _ _) nq)).drop1.drop1)
      go_roundw
      case rel => exact ⟨k + 1, by go_num, by omega, H8.out⟩
      case measure => simp [intOf]; omega
    · have HF := Lib.hid hR.drop1.drop1
      clear hR
      go_wp2
      go_ret
      exact ⟨rfl, HF.out⟩
end
end Go.Proofs.YtkbfjgmgckbogaaGreat.Dsk
