/-
  Texts that the proofs of this seat stand on, one behind the other: contracts of functions and plain lemmas. Conditions: those that each theorem states.
-/
import Derived.Test.YtkbfjgmgckbogaaGreatF9
import Derived.Test.YtkbfjgmgckbogaaGreatDiskList
import Derived.Test.YtkbfjgmgckbogaaGreatF13
import Derived.Test.YtkbfjgmgckbogaaGreatF15
import Derived.Test.YtkbfjgmgckbogaaGreatF16
import Derived.Test.YtkbfjgmgckbogaaGreatOctetWr
import Derived.Test.YtkbfjgmgckbogaaGreatF5
/-
  What chapter 4 stands on: disks and records.
-/





namespace Go.Proofs.YtkbfjgmgckbogaaGreat.Kp
open Go.RowKit L Oct Dsk
end Go.Proofs.YtkbfjgmgckbogaaGreat.Kp

/-
  there, Save, Load of chapter 4.
-/

namespace Go.Proofs.YtkbfjgmgckbogaaGreat.Kp
open Go.RowKit L Oct Dsk Fr
def sh (s : ByteArray) : ByteArray := s ++ ⟨#[126]⟩
def tailS (d : D) (s : ByteArray) (x : List UInt8) : D × Nat :=
  if (d.append (sh s) (rec_ x)).2 = 0 then
    if ((d.append (sh s) (rec_ x)).1.sync [sh s]).2 = 0 then ((d.append (sh s) (rec_ x)).1.sync [sh s]).1.rename (sh s) s else (d.append (sh s) (rec_ x)).1.sync [sh s]
  else d.append (sh s) (rec_ x)
def save (d : D) (s : ByteArray) (x : List UInt8) : D × Nat :=
  if 1 ≤ s.size ∧ s.size ≤ 60 then
    if (getF d.fs (sh s)).isSome then if (d.remove [sh s]).2 = 0 then tailS (d.remove [sh s]).1 s x else d.remove [sh s]
    else tailS d s x
  else (d, 1)
def load (d : D) (s : ByteArray) : List UInt8 × Nat :=
  match getF d.fs s with
  | none => ([], 7)
  | some f => if (unone f.data).2 = 0 then ((unone f.data).1, 0) else ([], 3)
theorem done_left (d : D) : d.done.left ≤ d.left := by unfold D.done; split <;> simp
theorem append_left {d : D} {s : ByteArray} {l : List UInt8} : (d.append s l).1.left ≤ d.left := by
  unfold D.append
  split
  · split
    · exact Nat.le_refl _
    · exact done_left _
  · exact Nat.le_refl _
theorem each_left1 {does : ByteArray → List AF → List AF} {d : D} {s : ByteArray} : (eachF does d [s]).1.left ≤ d.left := by
  unfold eachF
  split
  · cases getF d.fs s with
    | none => exact Nat.le_refl _
    | some f => exact done_left _
  · exact Nat.le_refl _
theorem used_filter (p : AF → Bool) : ∀ fs : List AF, used (fs.filter p) ≤ used fs
  | [] => Nat.le_refl _
  | f :: r => by
    rw [List.filter_cons]
    have := used_filter p r
    split
    · rw [used_cons, used_cons]; omega
    · rw [used_cons]; omega
theorem remove_ok {d : D} (h : d.Ok) (s : ByteArray) : (d.remove [s]).1.Ok := by
  unfold D.remove eachF
  split
  · cases hg : getF d.fs s with
    | none => exact h
    | some f =>
      show ({ d with fs := removeF s d.fs } : D).done.Ok
      refine ⟨by rw [done_room]; exact h.room, ?_, each_left h.left _, ?_⟩
      · rw [done_room, done_used]
        exact Nat.le_trans (used_filter _ _) h.used
      · rw [done_fs]
        exact fun f hf => h.lasts f (List.mem_filter.1 hf).1
  · exact h
def RetThere (w : World) (x : Bool) (e : Ending) (w' : World) : Prop := e = .returned (.bool x) ∧ Below w.heap.size w w'
theorem there_no {W0 w : World} {R : Asrt} {b : Nat} {d : D} (H : Hold W0 ((DiskA b d).sep R) w) (s : ByteArray) (hs : getF d.fs s = none) : Calls Tryz.prog 79 #[ptr b, .string s] w (RetThere w false) := by
  unfold ptr
  go_enter Tryz.func79, Tryz.ntmps79
  go_wp2_with (go_at_call 39; refine (read_no H s hs).mono ?_; rintro e w2 ⟨rfl, rfl⟩)
  go_ret
  exact ⟨rfl, Below.refl _ _⟩
theorem there_yes {W0 w : World} {R : Asrt} {b : Nat} {d : D} (H : Hold W0 ((DiskA b d).sep R) w) (s : ByteArray) {f : AF} (hs : getF d.fs s = some f) (hn : f.data.length ≤ 140737488355328) : Calls Tryz.prog 79 #[ptr b, .string s] w (RetThere w true) := by
  unfold ptr
  go_enter Tryz.func79, Tryz.ntmps79
  go_wp2_with (go_at_call 39; refine (read_yes H s hs hn).mono ?_; rintro e w2 ⟨v, rfl, _, hb⟩)
  go_ret
  exact ⟨rfl, hb⟩
def RetLoad (w : World) (y : List UInt8 × Nat) (e : Ending) (w' : World) : Prop := ∃ v, e = .returned (.tuple #[v, .int .i64 y.2]) ∧ Own w' w.heap.size 5 1 v y.1.length (u8s y.1) ∧ Below w.heap.size w w'
set_option maxHeartbeats 800000 in
theorem load_any {W0 w : World} {R : Asrt} {b : Nat} {d : D} (H : Hold W0 ((DiskA b d).sep R) w) (s : ByteArray) (hn : ∀ f ∈ d.fs, f.data.length ≤ 1073741824) : Calls Tryz.prog 55 #[ptr b, .string s] w (RetLoad w (load d s)) := by
  unfold ptr
  cases hs : getF d.fs s with
  | none =>
    have e : Hid (load d s = ([], 7)) := Lib.hid (by rw [load, hs])
    go_enter Tryz.func55, Tryz.ntmps55
    go_wp2_with (go_at_call 39; refine (read_no H s hs).mono ?_; rintro e w2 ⟨rfl, rfl⟩)
    go_ret2
    rw [e.out]
    exact ⟨_, rfl, Own.nil _ _ _ _, Below.refl _ _⟩
  | some f =>
    have hf := hn f (getF_name hs).1
    have Hs := Lib.hid hs
    obtain ⟨x, hx⟩ : ∃ x, x = f.data := ⟨_, rfl⟩
    have HX := Lib.hid hx
    clear hs hx hn
    by_cases h0 : (unone x).2 = 0
    · have he : Hid (load d s = ((unone x).1, 0)) := Lib.hid (by rw [load, Hs.out]; show (if (unone f.data).2 = 0 then _ else _) = _; rw [← HX.out, if_pos h0])
      go_enter Tryz.func55, Tryz.ntmps55
      go_wp2_with fail
      refine (read_yes H s Hs.out (by omega)).mono ?_
      rintro e w2 ⟨v, rfl, ho, hb⟩
      rw [← HX.out] at ho
      go_wp2_with fail
      refine (one_any v x _ ho.sl (by rw [HX.out]; omega)).mono ?_
      rintro e w3 ⟨v3, rfl, ho3, hb3⟩
      have Ho := Lib.hid (ho3.from (B' := w.heap.size) fun k hk => Nat.le_trans hb.size (ho3.lt k hk).1)
      have Hb := Lib.hid (hb.trans (hb3.mono hb.size))
      rw [h0]
      clear h0 ho hb ho3 hb3
      go_wp2
      go_ret2
      rw [he.out]
      exact ⟨_, rfl, Ho.out, Hb.out⟩
    · have he : Hid (load d s = ([], 3)) := Lib.hid (by rw [load, Hs.out]; show (if (unone f.data).2 = 0 then _ else _) = _; rw [← HX.out, if_neg h0])
      obtain ⟨m, hm⟩ : ∃ m : Nat, m = (unone x).2 := ⟨_, rfl⟩
      have hm0 : ((m : Int) == 0) = false := by rw [beq_eq_false_iff_ne]; omega
      have Hm := Lib.hid hm
      clear h0 hm
      go_enter Tryz.func55, Tryz.ntmps55
      go_wp2_with fail
      refine (read_yes H s Hs.out (by omega)).mono ?_
      rintro e w2 ⟨v, rfl, ho, hb⟩
      rw [← HX.out] at ho
      go_wp2_with fail
      refine (one_any v x _ ho.sl (by rw [HX.out]; omega)).mono ?_
      rintro e w3 ⟨v3, rfl, ho3, hb3⟩
      rw [← Hm.out]
      have Hb := Lib.hid (hb.trans (hb3.mono hb.size))
      clear ho hb ho3 hb3
      go_wp2
      go_ret2
      rw [he.out]
      exact ⟨_, rfl, Own.nil _ _ _ _, Hb.out⟩
set_option maxRecDepth 100000 in
set_option maxHeartbeats 1600000 in
theorem save_any {W0 w : World} {R : Asrt} {b : Nat} {d : D} (H : Hold W0 ((DiskA b d).sep R) w) (hok : d.Ok) (s : ByteArray) (hss : s.size ≤ 140737488355328) (va : Value) (ls : List (List UInt8)) (h : SlRows w va ls) (hn : ls.length ≤ 1000000) (hl : ls.flatten.length ≤ 1048576) :
    Calls Tryz.prog 51 #[ptr b, .string s, va] w (RetApp W0 R b (save d s ls.flatten)) := by
  unfold ptr
  by_cases hs : 1 ≤ s.size ∧ s.size ≤ 60
  · have hsz := hs
    obtain ⟨hs1, hs2⟩ := hs
    have g1 : decide ((s.size : Int) < 1) = false := by simp; omega
    have g2 : decide ((60 : Int) < (s.size : Int)) = false := by simp; omega
    have hrun := fun w' : World => run_string_add_sum (P := Tryz.prog) (w := w') s ⟨#[126]⟩ (by show s.size + 1 ≤ _; omega)
    obtain ⟨x, hx⟩ : ∃ x, x = ls.flatten := ⟨_, rfl⟩
    have henc := encode_any va ls w h (by omega) hl
    rw [← hx] at hl henc ⊢
    have HE := Lib.hid henc
    have Hok := Lib.hid hok
    have Hsz := Lib.hid hsz
    have Hr : Hid ((rec_ x).length ≤ 2000000) := Lib.hid (by rw [rec_length]; omega)
    clear hx h hn henc hok hsz
    go_enter Tryz.func51, Tryz.ntmps51
    go_wp2_with fail
    refine HE.out.mono ?_
    rintro e w1 ⟨v1, rfl, ho, hb⟩
    obtain ⟨ao, cap, rfl⟩ := ho.shape
    have H1 := (H.addRow hb ho).up2
    clear H ho hb HE
    go_wp2_with fail
    have hc : getF d.fs (sh s) = none ∨ (∃ f, getF d.fs (sh s) = some f ∧ (d.remove [sh s]).2 = 0) ∨ (∃ f, getF d.fs (sh s) = some f ∧ ¬ (d.remove [sh s]).2 = 0) := by
      cases hg : getF d.fs (sh s) with
      | none => exact .inl rfl
      | some f =>
        by_cases h0 : (d.remove [sh s]).2 = 0
        · exact .inr (.inl ⟨f, rfl, h0⟩)
        · exact .inr (.inr ⟨f, rfl, h0⟩)
    rcases hc with hg | ⟨f, hg, h0⟩ | ⟨f, hg, h0⟩
    case' inl =>
      refine (there_no H1 (sh s) hg).mono ?_
      rintro e w2 ⟨rfl, hb2⟩
      obtain ⟨d1, hd1⟩ : ∃ d1, d1 = d := ⟨_, rfl⟩
      have hS : Hid (save d s x = tailS d1 s x) := Lib.hid (by rw [hd1, save, if_pos Hsz.out, hg]; rfl)
      rw [← hd1] at H1 Hok
      have H4 := H1.keeps hb2
      clear H1 hb2 hg hd1
    case' inr.inl =>
      refine (there_yes H1 (sh s) hg (Nat.le_trans (Hok.out.len (getF_name hg).1) (by omega))).mono ?_
      rintro e w2 ⟨rfl, hb2⟩
      have H2 := H1.keeps hb2
      clear H1 hb2
      go_wp2_with fail
      refine (remove_lit H2 rfl Hok.out.left (sh s)).mono ?_
      rintro e w3 ⟨rfl, H3⟩
      rw [h0]
      have hS : Hid (save d s x = tailS (d.remove [sh s]).1 s x) := Lib.hid (by rw [save, if_pos Hsz.out, hg, if_pos h0]; rfl)
      have Hok1 := Lib.hid (remove_ok Hok.out (sh s))
      clear Hok
      obtain ⟨d1, hd1⟩ : ∃ d1, d1 = (d.remove [sh s]).1 := ⟨_, rfl⟩
      rw [← hd1] at hS H3 Hok1
      have H4 := H3
      have Hok := Hok1
      clear H2 H3 hg h0 hd1 Hok1
    case inr.inr =>
      refine (there_yes H1 (sh s) hg (Nat.le_trans (Hok.out.len (getF_name hg).1) (by omega))).mono ?_
      rintro e w2 ⟨rfl, hb2⟩
      have H2 := H1.keeps hb2
      clear H1 hb2
      go_wp2_with fail
      refine (remove_lit H2 rfl Hok.out.left (sh s)).mono ?_
      rintro e w3 ⟨rfl, H3⟩
      have hS : Hid (save d s x = d.remove [sh s]) := Lib.hid (by rw [save, if_pos Hsz.out, hg]; show (if (d.remove [sh s]).2 = 0 then _ else _) = _; rw [if_neg h0])
      obtain ⟨m, hm⟩ : ∃ m : Nat, m = (d.remove [sh s]).2 := ⟨_, rfl⟩
      have hm0 : ((m : Int) == 0) = false := by rw [beq_eq_false_iff_ne]; omega
      rw [← hm]
      have Hm := Lib.hid hm
      have H4 := Lib.hid H3.up2.drop1
      clear H2 H3 hg h0 hm
      go_wp2
      go_ret
      rw [hS.out]
      exact ⟨ret_int (by rw [Hm.out]), H4.out⟩
    all_goals
      go_wp2_with fail
      refine (append_lit H4 rfl Hok.out (sh s) _ (rec_ x) Reads.row (by have := Hr.out; omega)).mono ?_
      rintro e w5 ⟨rfl, H5⟩
      have hleft : Hid ((d1.append (sh s) (rec_ x)).1.left ≤ 9223372036854775807) := Lib.hid (Nat.le_trans append_left Hok.out.left)
      clear H4
      by_cases h2 : (d1.append (sh s) (rec_ x)).2 = 0
      · have H2h := Lib.hid h2
        rw [h2]
        clear h2
        go_wp2_with fail
        refine (sync_lit H5 rfl hleft.out (sh s)).mono ?_
        rintro e w6 ⟨rfl, H6⟩
        clear H5
        by_cases h3 : ((d1.append (sh s) (rec_ x)).1.sync [sh s]).2 = 0
        · have hS2 : Hid (save d s x = ((d1.append (sh s) (rec_ x)).1.sync [sh s]).1.rename (sh s) s) := Lib.hid (by rw [hS.out, tailS, if_pos H2h.out, if_pos h3])
          rw [h3]
          clear h3
          go_wp2_with fail
          refine (rename_any H6 (Nat.le_trans each_left1 hleft.out) (sh s) s).mono ?_
          rintro e w7 ⟨rfl, H7⟩
          have H8 := Lib.hid H7.up2.drop1
          clear H6 H7
          go_wp2
          go_ret
          rw [hS2.out]
          exact ⟨rfl, H8.out⟩
        · have hS2 : Hid (save d s x = (d1.append (sh s) (rec_ x)).1.sync [sh s]) := Lib.hid (by rw [hS.out, tailS, if_pos H2h.out, if_neg h3])
          obtain ⟨m, hm⟩ : ∃ m : Nat, m = ((d1.append (sh s) (rec_ x)).1.sync [sh s]).2 := ⟨_, rfl⟩
          have hm0 : ((m : Int) == 0) = false := by rw [beq_eq_false_iff_ne]; omega
          rw [← hm]
          have Hm := Lib.hid hm
          have H8 := Lib.hid H6.up2.drop1
          clear H6 h3 hm
          go_wp2
          go_ret
          rw [hS2.out]
          exact ⟨ret_int (by rw [Hm.out]), H8.out⟩
      · have hS2 : Hid (save d s x = d1.append (sh s) (rec_ x)) := Lib.hid (by rw [hS.out, tailS, if_neg h2])
        obtain ⟨m, hm⟩ : ∃ m : Nat, m = (d1.append (sh s) (rec_ x)).2 := ⟨_, rfl⟩
        have hm0 : ((m : Int) == 0) = false := by rw [beq_eq_false_iff_ne]; omega
        rw [← hm]
        have Hm := Lib.hid hm
        have H8 := Lib.hid H5.up2.drop1
        clear H5 h2 hm
        go_wp2
        go_ret
        rw [hS2.out]
        exact ⟨ret_int (by rw [Hm.out]), H8.out⟩
  · have hS : Hid (save d s ls.flatten = (d, 1)) := Lib.hid (by rw [save, if_neg hs])
    have HH := Lib.hid H
    clear H
    by_cases hs1 : s.size < 1
    · have g1 : decide ((s.size : Int) < 1) = true := by simp; omega
      clear hs
      go_enter Tryz.func51, Tryz.ntmps51
      go_wp2
      go_ret
      rw [hS.out]
      exact ⟨rfl, HH.out⟩
    · have g1 : decide ((s.size : Int) < 1) = false := by simp; omega
      have g2 : decide ((60 : Int) < (s.size : Int)) = true := by simp; omega
      clear hs
      go_enter Tryz.func51, Tryz.ntmps51
      go_wp2
      go_ret
      rw [hS.out]
      exact ⟨rfl, HH.out⟩
end Go.Proofs.YtkbfjgmgckbogaaGreat.Kp

/-
  slices.Contains over texts.
-/

namespace Go.Proofs.YtkbfjgmgckbogaaGreat.Kp
open Go.RowKit L Oct Dsk Fr
def hasN (l : List ByteArray) (s : ByteArray) : Bool := l.any fun x => decide (x = s)
theorem hasN_yes {l : List ByteArray} {s : ByteArray} (h : s ∈ l) : hasN l s = true := List.any_eq_true.2 ⟨s, h, by simp⟩
theorem hasN_no {l : List ByteArray} {s : ByteArray} (h : s ∉ l) : hasN l s = false := by
  rw [hasN, List.any_eq_false]
  intro x hx e
  exact h (by have : x = s := by simpa using e
              rw [← this]; exact hx)
def RetIx (l : List ByteArray) (s : ByteArray) (w : World) (e : Ending) (w' : World) : Prop := ∃ z : Int, e = .returned (.int .i64 z) ∧ ((0 ≤ z ∧ s ∈ l) ∨ (z < 0 ∧ s ∉ l)) ∧ Below w.heap.size w w'
theorem str_eq {a b : ByteArray} (h : (a.toList == b.toList) = true) : a = b := by
  rw [beq_iff_eq, ByteArray.toList_eq, ByteArray.toList_eq] at h
  exact ByteArray.ext (Array.toList_inj.1 h)
set_option maxHeartbeats 800000 in
theorem index_any (v : Value) (l : List ByteArray) (s : ByteArray) (w : World) (hv : Sl w 1 v l.length (strs l)) : Calls Tryz.prog 95 #[v, .string s] w (RetIx l s w) := by
  have hlen := hv.run_len Tryz.underlying68
  have hmx := hv.le'
  go_enter Tryz.func95, Tryz.ntmps95
  go_wp2
  go_loop [8] (fun i => ∃ k : Nat, k ≤ l.length ∧ i = .int .i64 k ∧ ∀ j, j < k → l.getD j ByteArray.empty ≠ s) (fun i => l.length - (intOf i).toNat)
  case atStart => exact ⟨0, Nat.zero_le _, rfl, fun j hj => by omega⟩
  case round =>
    obtain ⟨k, hk, rfl, hno⟩ := hrel
    have Hno := Lib.hid hno
    clear hno
    by_cases hlt : k < l.length
    · obtain ⟨A, u, hA, hblk, hc, Hu⟩ := hv.at1 (P := Tryz.prog) Tryz.underlying68 Tryz.size9 k hlt
      rw [Hu.out, strs_get l k hlt] at hc
      obtain ⟨x, hx⟩ : ∃ x, x = l.getD k ByteArray.empty := ⟨_, rfl⟩
      rw [← hx] at hc
      have Hx := Lib.hid hx
      clear hx hblk Hu
      cases hq : (s.toList == x.toList) with
      | true =>
        have hm : Hid (s ∈ l) := Lib.hid (by rw [str_eq hq, Hx.out]; simp [List.getD, hlt])
        go_wp2
        go_ret
        exact ⟨k, rfl, .inl ⟨by omega, hm.out⟩, Below.refl _ _⟩
      | false =>
        have hn2 : Hid (∀ j, j < k + 1 → l.getD j ByteArray.empty ≠ s) := Lib.hid fun j hj => by
          by_cases e : j = k
          · subst e; rw [← Hx.out]; rintro rfl; simp at hq
          · exact Hno.out j (by omega)
        go_wp2
        go_round
        case rel => exact ⟨k + 1, by omega, by go_num, hn2.out⟩
        case measure => simp [intOf]; omega
    · have hm : Hid (s ∉ l) := Lib.hid fun h => by
        obtain ⟨i, hi, he⟩ := List.getElem_of_mem h
        exact Hno.out i (by omega) (by simp [List.getD, hi, he])
      go_wp2
      go_ret
      exact ⟨-1, rfl, .inr ⟨by omega, hm.out⟩, Below.refl _ _⟩
def RetHas (x : Bool) (w : World) (e : Ending) (w' : World) : Prop := e = .returned (.bool x) ∧ Below w.heap.size w w'
theorem contains_any (v : Value) (l : List ByteArray) (s : ByteArray) (w : World) (hv : Sl w 1 v l.length (strs l)) : Calls Tryz.prog 85 #[v, .string s] w (RetHas (hasN l s) w) := by
  go_enter Tryz.func85, Tryz.ntmps85
  go_wp2_with fail
  refine (index_any v l s w hv).mono ?_
  rintro e w2 ⟨z, rfl, hz, hb⟩
  have Hb := Lib.hid hb
  clear hb
  rcases hz with ⟨hz, hm⟩ | ⟨hz, hm⟩
  · have hd : Hid (hasN l s = true) := Lib.hid (hasN_yes hm)
    clear hm
    go_wp2
    go_ret
    rw [hd.out]
    exact ⟨rfl, Hb.out⟩
  · have hd : Hid (hasN l s = false) := Lib.hid (hasN_no hm)
    have g1 : decide (0 ≤ z) = false := by simp; omega
    clear hm
    go_wp2
    go_ret
    rw [hd.out]
    exact ⟨rfl, Hb.out⟩
end Go.Proofs.YtkbfjgmgckbogaaGreat.Kp

/-
  A ledger (chapter 5) in memory: its own cells, its image's bytes, its entries. What it does, plain.
-/






namespace Go.Proofs.YtkbfjgmgckbogaaGreat.Ld
open Go.RowKit L Oct Dsk Fr Kp
/-- a ledger -/
structure Lg where
  pre : ByteArray
  base : Nat
  data : List UInt8
  ents : List (List UInt8)
  dead : Bool
def LedgA (lb b : Nat) (g : Lg) : Asrt := ExA fun y : Value × Value × List Value =>
  (Blk lb #[ptr b, .string g.pre, .int .i64 g.base, y.1, y.2.1, .bool g.dead] 71).sep ((Row 5 1 y.1 g.data.length (u8s g.data)).sep ((Row 22 1 y.2.1 g.ents.length y.2.2).sep (Inner y.2.2 g.ents)))
section
variable {W0 w : World} {R : Asrt} {lb b : Nat} {g : Lg}
theorem led_open (h : Hold W0 ((LedgA lb b g).sep R) w) : ∃ dv ev vs, Hold W0 ((Blk lb #[ptr b, .string g.pre, .int .i64 g.base, dv, ev, .bool g.dead] 71).sep ((Row 5 1 dv g.data.length (u8s g.data)).sep ((Row 22 1 ev g.ents.length vs).sep ((Inner vs g.ents).sep R)))) w := by
  obtain ⟨⟨dv, ev, vs⟩, h⟩ := h.unex
  exact ⟨dv, ev, vs, h.perm (by ac_rfl)⟩
theorem led_shut {dv ev : Value} {vs : List Value} (h : Hold W0 ((Blk lb #[ptr b, .string g.pre, .int .i64 g.base, dv, ev, .bool g.dead] 71).sep ((Row 5 1 dv g.data.length (u8s g.data)).sep ((Row 22 1 ev g.ents.length vs).sep ((Inner vs g.ents).sep R)))) w) : Hold W0 ((LedgA lb b g).sep R) w :=
  Hold.toex (f := fun y : Value × Value × List Value => (Blk lb #[ptr b, .string g.pre, .int .i64 g.base, y.1, y.2.1, .bool g.dead] 71).sep ((Row 5 1 y.1 g.data.length (u8s g.data)).sep ((Row 22 1 y.2.1 g.ents.length y.2.2).sep (Inner y.2.2 g.ents)))) (dv, ev, vs) (h.perm (by ac_rfl))
end
/-- a ledger whose numbers are in bounds -/
structure GOk (g : Lg) : Prop where
  pre : g.pre.size ≤ 20
  base : g.base ≤ 1099511627776
  len : g.ents.length ≤ 1048576
  data : g.data.length ≤ 1073741824
  ent : ∀ x ∈ g.ents, x.length ≤ 1073741824
/-! ### plain -/
def sImg : ByteArray := ⟨#[45, 105, 109, 103]⟩
def sLog : ByteArray := ⟨#[45, 108, 111, 103]⟩
def imgN (pre : ByteArray) : ByteArray := pre ++ sImg
def logN (pre : ByteArray) : ByteArray := pre ++ sLog
def Lg.last (g : Lg) : Nat := g.base + g.ents.length
/-- what a record says: its number, its bytes, whether it is one -/
def recN (p : List UInt8) : Nat := got 0 (dec 0 0 p)
def recB (p : List UInt8) : List UInt8 := got [] (decRow (left (dec 0 0 p)))
def recW (p : List UInt8) : Bool := !((dec 0 0 p).isNone || (decRow (left (dec 0 0 p))).isNone) && (left (decRow (left (dec 0 0 p)))).isEmpty
def removes : D → List ByteArray → D × Nat
  | d, [] => (d, 0)
  | d, s :: r => if (getF d.fs s).isNone then removes d r else if (d.remove [s]).2 = 0 then removes (d.remove [s]).1 r else d.remove [s]
def clears (d : D) (pre : ByteArray) : D × Nat := removes d [sh (imgN pre)]
def image (d : D) (g : Lg) : Lg × Nat :=
  if (Kp.load d (imgN g.pre)).2 = 7 then (g, 0)
  else if (Kp.load d (imgN g.pre)).2 = 0 then ({ g with base := recN (Kp.load d (imgN g.pre)).1, data := recB (Kp.load d (imgN g.pre)).1 }, if recW (Kp.load d (imgN g.pre)).1 ∧ recN (Kp.load d (imgN g.pre)).1 ≤ 1099511627776 then 0 else 3)
  else (g, (Kp.load d (imgN g.pre)).2)
/-- a record that is taken in: is it one? the number of the last one; the ledger -/
def takes (last : Int) (g : Lg) (p : List UInt8) : Bool × Int × Lg :=
  if recW p = true ∧ 1 ≤ recN p ∧ recN p ≤ 1099511627776 ∧ (0 ≤ last → (recN p : Int) = last + 1) then
    if recN p ≤ g.base then (true, recN p, g)
    else if recN p = g.last + 1 then (true, recN p, { g with ents := g.ents ++ [recB p] })
    else (false, recN p, g)
  else (false, last, g)
def takesAll : Int → Lg → List (List UInt8) → Bool × Lg
  | _, g, [] => (true, g)
  | last, g, p :: r => if (takes last g p).1 then takesAll (takes last g p).2.1 (takes last g p).2.2 r else (false, (takes last g p).2.2)
/-- the log's end: what is torn is cut off; an empty one goes -/
def logEnd (d : D) (pre : ByteArray) (none_ : Bool) : D × Nat := if none_ then d.remove [logN pre] else (d, 0)
def logCut (d : D) (pre : ByteArray) (good len : Nat) (none_ : Bool) : D × Nat :=
  if good < len then
    if (d.truncate (logN pre) good).2 = 0 then
      if ((d.truncate (logN pre) good).1.sync [logN pre]).2 = 0 then logEnd ((d.truncate (logN pre) good).1.sync [logN pre]).1 pre none_ else (d.truncate (logN pre) good).1.sync [logN pre]
    else d.truncate (logN pre) good
  else logEnd d pre none_
def log (d : D) (g : Lg) : D × Lg × Nat :=
  match getF d.fs (logN g.pre) with
  | none => (d, g, 0)
  | some f =>
    if (takesAll (-1) g (scan f.data).1).1 then
      ((logCut d g.pre (scan f.data).2 f.data.length (takesAll (-1) g (scan f.data).1).2.ents.isEmpty).1, (takesAll (-1) g (scan f.data).1).2, (logCut d g.pre (scan f.data).2 f.data.length (takesAll (-1) g (scan f.data).1).2.ents.isEmpty).2)
    else (d, (takesAll (-1) g (scan f.data).1).2, 3)
def new (pre : ByteArray) : Lg := ⟨pre, 0, [], [], false⟩
def openL (d : D) (pre : ByteArray) : D × Lg × Nat :=
  if (clears d pre).2 = 0 then
    if (image (clears d pre).1 (new pre)).2 = 0 then log (clears d pre).1 (image (clears d pre).1 (new pre)).1
    else ((clears d pre).1, (image (clears d pre).1 (new pre)).1, (image (clears d pre).1 (new pre)).2)
  else ((clears d pre).1, new pre, (clears d pre).2)
end Go.Proofs.YtkbfjgmgckbogaaGreat.Ld
