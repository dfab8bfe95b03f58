/-
  Texts that the proofs of this seat stand on, one behind the other: contracts of functions and plain lemmas. Conditions: those that each theorem states.
-/
import Derived.Test.YtkbfjgmgckbogaaF6
import Derived.Test.YtkbfjgmgckbogaaDiskRename
import Derived.Test.YtkbfjgmgckbogaaDiskList
import Derived.Test.YtkbfjgmgckbogaaF8
/-
  What chapter 4 stands on: disks and records.
-/





namespace Go.Proofs.Ytkbfjgmgckbogaa.Kp
open Go.RowKit L Oct Dsk
end Go.Proofs.Ytkbfjgmgckbogaa.Kp

/-
  there, Save, Load of chapter 4.
-/

namespace Go.Proofs.Ytkbfjgmgckbogaa.Kp
open Go.RowKit L Oct Dsk Fr
def sh (s : ByteArray) : ByteArray := s ++ ⟨#[126]⟩
def tailS (d : D) (s : ByteArray) (x : List UInt8) : D × Nat :=
  if (d.append (sh s) (rec_ x)).2 = 0 then
    if ((d.append (sh s) (rec_ x)).1.sync [sh s]).2 = 0 then ((d.append (sh s) (rec_ x)).1.sync [sh s]).1.rename (sh s) s else (d.append (sh s) (rec_ x)).1.sync [sh s]
  else d.append (sh s) (rec_ x)
def save (d : D) (s : ByteArray) (x : List UInt8) : D × Nat :=
  if 1 ≤ s.size ∧ s.size ≤ 60 then
    if (getF d.fs (sh s)).isSome then if (d.remove [sh s]).2 = 0 then tailS (d.remove [sh s]).1 s x else d.remove [sh s]
    else tailS d s x
  else (d, 1)
def load (d : D) (s : ByteArray) : List UInt8 × Nat :=
  match getF d.fs s with
  | none => ([], 7)
  | some f => if (unone f.data).2 = 0 then ((unone f.data).1, 0) else ([], 3)
theorem done_left (d : D) : d.done.left ≤ d.left := by unfold D.done; split <;> simp
theorem append_left {d : D} {s : ByteArray} {l : List UInt8} : (d.append s l).1.left ≤ d.left := by
  unfold D.append
  split
  · split
    · exact Nat.le_refl _
    · exact done_left _
  · exact Nat.le_refl _
theorem each_left1 {does : ByteArray → List AF → List AF} {d : D} {s : ByteArray} : (eachF does d [s]).1.left ≤ d.left := by
  unfold eachF
  split
  · cases getF d.fs s with
    | none => exact Nat.le_refl _
    | some f => exact done_left _
  · exact Nat.le_refl _
theorem used_filter (p : AF → Bool) : ∀ fs : List AF, used (fs.filter p) ≤ used fs
  | [] => Nat.le_refl _
  | f :: r => by
    rw [List.filter_cons]
    have := used_filter p r
    split
    · rw [used_cons, used_cons]; omega
    · rw [used_cons]; omega
theorem remove_ok {d : D} (h : d.Ok) (s : ByteArray) : (d.remove [s]).1.Ok := by
  unfold D.remove eachF
  split
  · cases hg : getF d.fs s with
    | none => exact h
    | some f =>
      show ({ d with fs := removeF s d.fs } : D).done.Ok
      refine ⟨by rw [done_room]; exact h.room, ?_, each_left h.left _, ?_⟩
      · rw [done_room, done_used]
        exact Nat.le_trans (used_filter _ _) h.used
      · rw [done_fs]
        exact fun f hf => h.lasts f (List.mem_filter.1 hf).1
  · exact h
def RetThere (w : World) (x : Bool) (e : Ending) (w' : World) : Prop := e = .returned (.bool x) ∧ Below w.heap.size w w'
theorem there_no {W0 w : World} {R : Asrt} {b : Nat} {d : D} (H : Hold W0 ((DiskA b d).sep R) w) (s : ByteArray) (hs : getF d.fs s = none) : Calls Try.prog 55 #[ptr b, .string s] w (RetThere w false) := by
  unfold ptr
  go_enter Try.func55, Try.ntmps55
  go_wp2_with (go_at_call 19; refine (read_no H s hs).mono ?_; rintro e w2 ⟨rfl, rfl⟩)
  go_ret
  exact ⟨rfl, Below.refl _ _⟩
theorem there_yes {W0 w : World} {R : Asrt} {b : Nat} {d : D} (H : Hold W0 ((DiskA b d).sep R) w) (s : ByteArray) {f : AF} (hs : getF d.fs s = some f) (hn : f.data.length ≤ 140737488355328) : Calls Try.prog 55 #[ptr b, .string s] w (RetThere w true) := by
  unfold ptr
  go_enter Try.func55, Try.ntmps55
  go_wp2_with (go_at_call 19; refine (read_yes H s hs hn).mono ?_; rintro e w2 ⟨v, rfl, _, hb⟩)
  go_ret
  exact ⟨rfl, hb⟩
def RetLoad (w : World) (y : List UInt8 × Nat) (e : Ending) (w' : World) : Prop := ∃ v, e = .returned (.tuple #[v, .int .i64 y.2]) ∧ Own w' w.heap.size 5 1 v y.1.length (u8s y.1) ∧ Below w.heap.size w w'
set_option maxHeartbeats 800000 in
theorem load_any {W0 w : World} {R : Asrt} {b : Nat} {d : D} (H : Hold W0 ((DiskA b d).sep R) w) (s : ByteArray) (hn : ∀ f ∈ d.fs, f.data.length ≤ 1073741824) : Calls Try.prog 38 #[ptr b, .string s] w (RetLoad w (load d s)) := by
  unfold ptr
  cases hs : getF d.fs s with
  | none =>
    have e : Hid (load d s = ([], 7)) := Lib.hid (by rw [load, hs])
    go_enter Try.func38, Try.ntmps38
    go_wp2_with (go_at_call 19; refine (read_no H s hs).mono ?_; rintro e w2 ⟨rfl, rfl⟩)
    go_ret2
    rw [e.out]
    exact ⟨_, rfl, Own.nil _ _ _ _, Below.refl _ _⟩
  | some f =>
    have hf := hn f (getF_name hs).1
    have Hs := Lib.hid hs
    obtain ⟨x, hx⟩ : ∃ x, x = f.data := ⟨_, rfl⟩
    have HX := Lib.hid hx
    clear hs hx hn
    by_cases h0 : (unone x).2 = 0
    · have he : Hid (load d s = ((unone x).1, 0)) := Lib.hid (by rw [load, Hs.out]; show (if (unone f.data).2 = 0 then _ else _) = _; rw [← HX.out, if_pos h0])
      go_enter Try.func38, Try.ntmps38
      go_wp2_with fail
      refine (read_yes H s Hs.out (by omega)).mono ?_
      rintro e w2 ⟨v, rfl, ho, hb⟩
      rw [← HX.out] at ho
      go_wp2_with fail
      refine (one_any v x _ ho.sl (by rw [HX.out]; omega)).mono ?_
      rintro e w3 ⟨v3, rfl, ho3, hb3⟩
      have Ho := Lib.hid (ho3.from (B' := w.heap.size) fun k hk => Nat.le_trans hb.size (ho3.lt k hk).1)
      have Hb := Lib.hid (hb.trans (hb3.mono hb.size))
      rw [h0]
      clear h0 ho hb ho3 hb3
      go_wp2
      go_ret2
      rw [he.out]
      exact ⟨_, rfl, Ho.out, Hb.out⟩
    · have he : Hid (load d s = ([], 3)) := Lib.hid (by rw [load, Hs.out]; show (if (unone f.data).2 = 0 then _ else _) = _; rw [← HX.out, if_neg h0])
      obtain ⟨m, hm⟩ : ∃ m : Nat, m = (unone x).2 := ⟨_, rfl⟩
      have hm0 : ((m : Int) == 0) = false := by rw [beq_eq_false_iff_ne]; omega
      have Hm := Lib.hid hm
      clear h0 hm
      go_enter Try.func38, Try.ntmps38
      go_wp2_with fail
      refine (read_yes H s Hs.out (by omega)).mono ?_
      rintro e w2 ⟨v, rfl, ho, hb⟩
      rw [← HX.out] at ho
      go_wp2_with fail
      refine (one_any v x _ ho.sl (by rw [HX.out]; omega)).mono ?_
      rintro e w3 ⟨v3, rfl, ho3, hb3⟩
      rw [← Hm.out]
      have Hb := Lib.hid (hb.trans (hb3.mono hb.size))
      clear ho hb ho3 hb3
      go_wp2
      go_ret2
      rw [he.out]
      exact ⟨_, rfl, Own.nil _ _ _ _, Hb.out⟩
set_option maxRecDepth 100000 in
set_option maxHeartbeats 1600000 in
theorem save_any {W0 w : World} {R : Asrt} {b : Nat} {d : D} (H : Hold W0 ((DiskA b d).sep R) w) (hok : d.Ok) (s : ByteArray) (hss : s.size ≤ 140737488355328) (va : Value) (ls : List (List UInt8)) (h : SlRows w va ls) (hn : ls.length ≤ 1000000) (hl : ls.flatten.length ≤ 1048576) :
    Calls Try.prog 33 #[ptr b, .string s, va] w (RetApp W0 R b (save d s ls.flatten)) := by
  unfold ptr
  by_cases hs : 1 ≤ s.size ∧ s.size ≤ 60
  · have hsz := hs
    obtain ⟨hs1, hs2⟩ := hs
    have g1 : decide ((s.size : Int) < 1) = false := by simp; omega
    have g2 : decide ((60 : Int) < (s.size : Int)) = false := by simp; omega
    have hrun := fun w' : World => run_string_add_sum (P := Try.prog) (w := w') s ⟨#[126]⟩ (by show s.size + 1 ≤ _; omega)
    obtain ⟨x, hx⟩ : ∃ x, x = ls.flatten := ⟨_, rfl⟩
    have henc := encode_any va ls w h (by omega) hl
    rw [← hx] at hl henc ⊢
    have HE := Lib.hid henc
    have Hok := Lib.hid hok
    have Hsz := Lib.hid hsz
    have Hr : Hid ((rec_ x).length ≤ 2000000) := Lib.hid (by rw [rec_length]; omega)
    clear hx h hn henc hok hsz
    go_enter Try.func33, Try.ntmps33
    go_wp2_with fail
    refine HE.out.mono ?_
    rintro e w1 ⟨v1, rfl, ho, hb⟩
    obtain ⟨ao, cap, rfl⟩ := ho.shape
    have H1 := (H.addRow hb ho).up2
    clear H ho hb HE
    go_wp2_with fail
    have hc : getF d.fs (sh s) = none ∨ (∃ f, getF d.fs (sh s) = some f ∧ (d.remove [sh s]).2 = 0) ∨ (∃ f, getF d.fs (sh s) = some f ∧ ¬ (d.remove [sh s]).2 = 0) := by
      cases hg : getF d.fs (sh s) with
      | none => exact .inl rfl
      | some f =>
        by_cases h0 : (d.remove [sh s]).2 = 0
        · exact .inr (.inl ⟨f, rfl, h0⟩)
        · exact .inr (.inr ⟨f, rfl, h0⟩)
    rcases hc with hg | ⟨f, hg, h0⟩ | ⟨f, hg, h0⟩
    case' inl =>
      refine (there_no H1 (sh s) hg).mono ?_
      rintro e w2 ⟨rfl, hb2⟩
      obtain ⟨d1, hd1⟩ : ∃ d1, d1 = d := ⟨_, rfl⟩
      have hS : Hid (save d s x = tailS d1 s x) := Lib.hid (by rw [hd1, save, if_pos Hsz.out, hg]; rfl)
      rw [← hd1] at H1 Hok
      have H4 := H1.keeps hb2
      clear H1 hb2 hg hd1
    case' inr.inl =>
      refine (there_yes H1 (sh s) hg (Nat.le_trans (Hok.out.len (getF_name hg).1) (by omega))).mono ?_
      rintro e w2 ⟨rfl, hb2⟩
      have H2 := H1.keeps hb2
      clear H1 hb2
      go_wp2_with fail
      refine (remove_lit H2 rfl Hok.out.left (sh s)).mono ?_
      rintro e w3 ⟨rfl, H3⟩
      rw [h0]
      have hS : Hid (save d s x = tailS (d.remove [sh s]).1 s x) := Lib.hid (by rw [save, if_pos Hsz.out, hg, if_pos h0]; rfl)
      have Hok1 := Lib.hid (remove_ok Hok.out (sh s))
      clear Hok
      obtain ⟨d1, hd1⟩ : ∃ d1, d1 = (d.remove [sh s]).1 := ⟨_, rfl⟩
      rw [← hd1] at hS H3 Hok1
      have H4 := H3
      have Hok := Hok1
      clear H2 H3 hg h0 hd1 Hok1
    case inr.inr =>
      refine (there_yes H1 (sh s) hg (Nat.le_trans (Hok.out.len (getF_name hg).1) (by omega))).mono ?_
      rintro e w2 ⟨rfl, hb2⟩
      have H2 := H1.keeps hb2
      clear H1 hb2
      go_wp2_with fail
      refine (remove_lit H2 rfl Hok.out.left (sh s)).mono ?_
      rintro e w3 ⟨rfl, H3⟩
      have hS : Hid (save d s x = d.remove [sh s]) := Lib.hid (by rw [save, if_pos Hsz.out, hg]; show (if (d.remove [sh s]).2 = 0 then _ else _) = _; rw [if_neg h0])
      obtain ⟨m, hm⟩ : ∃ m : Nat, m = (d.remove [sh s]).2 := ⟨_, rfl⟩
      have hm0 : ((m : Int) == 0) = false := by rw [beq_eq_false_iff_ne]; omega
      rw [← hm]
      have Hm := Lib.hid hm
      have H4 := Lib.hid H3.up2.drop1
      clear H2 H3 hg h0 hm
      go_wp2
      go_ret
      rw [hS.out]
      exact ⟨ret_int (by rw [Hm.out]), H4.out⟩
    all_goals
      go_wp2_with fail
      refine (append_lit H4 rfl Hok.out (sh s) _ (rec_ x) Reads.row (by have := Hr.out; omega)).mono ?_
      rintro e w5 ⟨rfl, H5⟩
      have hleft : Hid ((d1.append (sh s) (rec_ x)).1.left ≤ 9223372036854775807) := Lib.hid (Nat.le_trans append_left Hok.out.left)
      clear H4
      by_cases h2 : (d1.append (sh s) (rec_ x)).2 = 0
      · have H2h := Lib.hid h2
        rw [h2]
        clear h2
        go_wp2_with fail
        refine (sync_lit H5 rfl hleft.out (sh s)).mono ?_
        rintro e w6 ⟨rfl, H6⟩
        clear H5
        by_cases h3 : ((d1.append (sh s) (rec_ x)).1.sync [sh s]).2 = 0
        · have hS2 : Hid (save d s x = ((d1.append (sh s) (rec_ x)).1.sync [sh s]).1.rename (sh s) s) := Lib.hid (by rw [hS.out, tailS, if_pos H2h.out, if_pos h3])
          rw [h3]
          clear h3
          go_wp2_with fail
          refine (rename_any H6 (Nat.le_trans each_left1 hleft.out) (sh s) s).mono ?_
          rintro e w7 ⟨rfl, H7⟩
          have H8 := Lib.hid H7.up2.drop1
          clear H6 H7
          go_wp2
          go_ret
          rw [hS2.out]
          exact ⟨rfl, H8.out⟩
        · have hS2 : Hid (save d s x = (d1.append (sh s) (rec_ x)).1.sync [sh s]) := Lib.hid (by rw [hS.out, tailS, if_pos H2h.out, if_neg h3])
          obtain ⟨m, hm⟩ : ∃ m : Nat, m = ((d1.append (sh s) (rec_ x)).1.sync [sh s]).2 := ⟨_, rfl⟩
          have hm0 : ((m : Int) == 0) = false := by rw [beq_eq_false_iff_ne]; omega
          rw [← hm]
          have Hm := Lib.hid hm
          have H8 := Lib.hid H6.up2.drop1
          clear H6 h3 hm
          go_wp2
          go_ret
          rw [hS2.out]
          exact ⟨ret_int (by rw [Hm.out]), H8.out⟩
      · have hS2 : Hid (save d s x = d1.append (sh s) (rec_ x)) := Lib.hid (by rw [hS.out, tailS, if_neg h2])
        obtain ⟨m, hm⟩ : ∃ m : Nat, m = (d1.append (sh s) (rec_ x)).2 := ⟨_, rfl⟩
        have hm0 : ((m : Int) == 0) = false := by rw [beq_eq_false_iff_ne]; omega
        rw [← hm]
        have Hm := Lib.hid hm
        have H8 := Lib.hid H5.up2.drop1
        clear H5 h2 hm
        go_wp2
        go_ret
        rw [hS2.out]
        exact ⟨ret_int (by rw [Hm.out]), H8.out⟩
  · have hS : Hid (save d s ls.flatten = (d, 1)) := Lib.hid (by rw [save, if_neg hs])
    have HH := Lib.hid H
    clear H
    by_cases hs1 : s.size < 1
    · have g1 : decide ((s.size : Int) < 1) = true := by simp; omega
      clear hs
      go_enter Try.func33, Try.ntmps33
      go_wp2
      go_ret
      rw [hS.out]
      exact ⟨rfl, HH.out⟩
    · have g1 : decide ((s.size : Int) < 1) = false := by simp; omega
      have g2 : decide ((60 : Int) < (s.size : Int)) = true := by simp; omega
      clear hs
      go_enter Try.func33, Try.ntmps33
      go_wp2
      go_ret
      rw [hS.out]
      exact ⟨rfl, HH.out⟩
end Go.Proofs.Ytkbfjgmgckbogaa.Kp
