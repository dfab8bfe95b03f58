/-
  one of chapter 14's laws: what a text is, is the same in the program and in the reference.
-/
import Derived.Test.YtindlfiifckdnaaDoorSchTab
import Derived.Test.YtindlfiifckdnaaDoorSchType
import Derived.Test.YtindlfiifckdnaaDoorSchUndef
import Derived.Test.YtindlfiifckdnaaDoorSchTexts
namespace Go.Proofs.YtindlfiifckdnaaDoor.Sc
open Go.RowKit L
theorem same_texts {va vb : Value} {a : List ByteArray} {w : World} (ha : Sl w 1 va a.length (strs a)) (hb : Sl w 1 vb a.length (strs a)) : Calls Tryd.prog 13 #[va, vb] w (RetBl w true) := by
  refine (texts_any va vb a a w ha hb).mono ?_
  rintro e w' ⟨rfl, h⟩
  exact ⟨by simp, h⟩
set_option maxRecDepth 100000 in
set_option maxHeartbeats 1600000 in
theorem one_any (s : ByteArray) (w : World) (hs : s.size ≤ 1000) (hT : Tab w) : Calls Tryd.prog 15 #[.string s] w (RetBl w true) := by
  have HT := Lib.hid hT
  clear hT
  obtain ⟨t, ht⟩ : ∃ t, t = foldB s := ⟨_, rfl⟩
  obtain ⟨c, m, sg, ok, htv⟩ : ∃ (c : ByteArray) (m : Int) (sg ok : Bool), typeV t (typeB t) = .tuple #[.string c, .int .i64 m, .bool sg, .bool ok] := by
    unfold typeV
    cases typeB t with
    | none => exact ⟨_, _, _, _, rfl⟩
    | some p => exact ⟨_, _, _, _, rfl⟩
  have HA : Hid (∀ W, Calls Tryd.prog 31 #[.string s] W fun e w' => e = .returned (.tuple #[.string c, .int .i64 m, .bool sg, .bool ok]) ∧ Below W.heap.size W w') := Lib.hid fun W => by
    have := type_any s W (by omega)
    rw [← ht] at this
    unfold RetType at this
    rw [htv] at this
    exact this
  have HB : Hid (∀ W, Calls Tryd.prog 9 #[.string s] W fun e w' => e = .returned (.tuple #[.string c, .int .i64 m, .bool sg, .bool ok]) ∧ Below W.heap.size W w') := Lib.hid fun W => by
    have := xtype_any s W (by omega)
    rw [← ht] at this
    unfold RetType at this
    rw [htv] at this
    exact this
  obtain ⟨o, ho⟩ : ∃ o, o = classB (foldB s) := ⟨_, rfl⟩
  have HC : Hid (∀ W, Tab W → Calls Tryd.prog 32 #[.string s] W (RetClassF W o)) := Lib.hid fun W h => by rw [ho]; exact class_any s W (by omega) h
  have HD : Hid (∀ W, Calls Tryd.prog 8 #[.string s] W (RetClassF W o)) := Lib.hid fun W => by rw [ho]; exact xclass_any s W (by omega)
  obtain ⟨yes, hyes⟩ : ∃ yes, yes = o.isSome := ⟨_, rfl⟩
  have e1 := text_yes (rfl : c = c)
  clear ht htv ho
  go_enter Tryd.func15, Tryd.ntmps15
  go_wp2_with fail
  refine (HA.out _).mono ?_
  rintro e2 w2 ⟨rfl, hb2⟩
  have B2 := Lib.hid hb2
  clear hb2
  go_wp2_with fail
  refine (HB.out _).mono ?_
  rintro e3 w3 ⟨rfl, hb3⟩
  have B3 := Lib.hid (B2.out.trans (hb3.mono B2.out.size))
  clear hb3
  go_wp2_with fail
  refine (HC.out _ (HT.out.below B3.out)).mono ?_
  rintro e4 w4 ⟨v1, v2, rfl, s1, s2, hb4, _⟩
  rw [← hyes]
  have B4 := Lib.hid (B3.out.trans (hb4.mono B3.out.size))
  have S1 := Lib.hid s1
  have S2 := Lib.hid s2
  clear hb4 s1 s2
  go_wp2_with fail
  refine (HD.out _).mono ?_
  rintro e5 w5 ⟨v3, v4, rfl, s3, s4, hb5, _⟩
  rw [← hyes]
  have B5 := Lib.hid (B4.out.trans (hb5.mono B4.out.size))
  have S1' := Lib.hid (S1.out.below' hb5)
  have S2' := Lib.hid (S2.out.below' hb5)
  have S3 := Lib.hid s3
  have S4 := Lib.hid s4
  clear hb5 s3 s4 hyes
  go_wp2_with fail
  refine (same_texts S1'.out S3.out).mono ?_
  rintro e6 w6 ⟨rfl, hb6⟩
  have B6 := Lib.hid (B5.out.trans (hb6.mono B5.out.size))
  have S2'' := Lib.hid (S2'.out.below' hb6)
  have S4' := Lib.hid (S4.out.below' hb6)
  clear hb6
  go_wp2_with fail
  refine (same_texts S2''.out S4'.out).mono ?_
  rintro e7 w7 ⟨rfl, hb7⟩
  have B7 : Hid (Below w.heap.size w w7) := Lib.hid (B6.out.trans (hb7.mono B6.out.size))
  clear hb7
  go_wp2
  go_ret
  exact ⟨rfl, B7.out⟩
end Go.Proofs.YtindlfiifckdnaaDoor.Sc
