/-
  Type of chapter 14: the program's and the reference's; the reference's Types and Has.
-/
import Derived.Test.YtindlfiifckdnaaDoorSchTypes
import Derived.Deep.QuietTactic
import Derived.BigQuiet
namespace Go.Proofs.YtindlfiifckdnaaDoor.Sc
open Go.RowKit L
theorem bdn {B : Nat} {a w : World} (h : Below B a w) (n : Nat) : Below B a (w.drewN n) := h.trans ⟨rfl, rfl, rfl, Nat.le_refl _, fun _ _ => rfl⟩
def typeV (t : ByteArray) (o : Option (Nat × Bool)) : Value :=
  match o with
  | none => .tuple #[.string ⟨#[]⟩, .int .i64 0, .bool false, .bool false]
  | some p => .tuple #[.string t, .int .i64 p.1, .bool p.2, .bool true]
def RetType (w : World) (t : ByteArray) (o : Option (Nat × Bool)) (e : Ending) (w' : World) : Prop := e = .returned (typeV t o) ∧ Below w.heap.size w w'
theorem mget_ty (t : ByteArray) : mget tyKV t = (typeB t).map fun p => kindV p.1 p.2 := by
  unfold mget tyKV typeB
  rw [List.find?_map]
  show Option.map _ (Option.map _ (tyL.find? fun p => decide (p.1 = t))) = _
  cases tyL.find? fun p => decide (p.1 = t) <;> rfl
set_option maxRecDepth 100000 in
set_option maxHeartbeats 800000 in
theorem type_any (s : ByteArray) (w : World) (hs : s.size ≤ 140737488351232) : Calls Tryd.prog 31 #[.string s] w (RetType w (foldB s) (typeB (foldB s))) := by
  obtain ⟨t, ht⟩ : ∃ t, t = foldB s := ⟨_, rfl⟩
  have hf := fold_any s w hs
  rw [← ht] at hf ⊢
  have HF := Lib.hid hf
  clear hf ht hs
  go_enter Tryd.func31, Tryd.ntmps31
  go_wp2_with fail
  refine HF.out.mono ?_
  rintro e w1 ⟨rfl, hb1⟩
  have HB1 := Lib.hid hb1
  clear hb1
  go_wp2_with fail
  refine (types_any _).mono ?_
  rintro e w2 ⟨mb, rfl, h2⟩
  have hz : (zeroValue 59).run Tryd.prog w2 = .ok (.agg #[.int .i64 0, .bool false]) w2 := by kernel_rfl
  have hlk := run_lookOk (P := Tryd.prog) h2.map Tryd.underlying51 Tryd.underlying9 hz t
  rw [mget_ty] at hlk
  have HB2 : Hid (Below w.heap.size w w2) := Lib.hid (HB1.out.trans (h2.old.mono HB1.out.size))
  clear h2 hz
  cases ho : typeB t with
  | none =>
    rw [ho] at hlk
    have HO := Lib.hid ho
    clear ho
    go_wp2
    refine bodyPost_ret (v := typeV t none) (by simp [results, Tryd.results31, go_sem, typeV]) rfl ?_
    rw [HO.out]
    exact ⟨rfl, HB2.out.alloc HB2.out.size _⟩
  | some p =>
    rw [ho] at hlk
    obtain ⟨n, x⟩ := p
    have hlk2 : (Instr.lookup 51 (.map (some mb)) (.string t) true).run Tryd.prog w2 = .ok (.tuple #[.agg #[.int .i64 n, .bool x], .bool true]) w2 := hlk
    have HO := Lib.hid ho
    clear ho hlk
    go_wp2_with fail
    go_quiet (fail)
    go_wp2
    refine bodyPost_ret (v := typeV t (some (n, x))) (by simp [results, Tryd.results31, go_sem, typeV]) rfl ?_
    rw [HO.out]
    exact ⟨rfl, bdn (HB2.out.alloc HB2.out.size _) _⟩
/-! ### the reference -/
def RetStrs (w : World) (l : List ByteArray) (e : Ending) (w' : World) : Prop := ∃ v, e = .returned v ∧ Sl w' 1 v l.length (strs l) ∧ Below w.heap.size w w'
theorem xtypes_any (w : World) : Calls Tryd.prog 14 #[] w (RetStrs w nm19) := by
  have h := Lib.hid (built w nm19 (by decide))
  go_enter Tryd.func14, Tryd.ntmps14
  go_wp2
  go_ret
  exact ⟨_, rfl, h.out, (Below.refl _ _).alloc (Nat.le_refl _) _⟩
def hasB (l : List ByteArray) (s : ByteArray) : Bool := l.any fun x => decide (x = s)
theorem hasB_iff {l : List ByteArray} {s : ByteArray} : hasB l s = true ↔ s ∈ l := by
  unfold hasB
  rw [List.any_eq_true]
  constructor
  · rintro ⟨x, hx, he⟩
    rw [← of_decide_eq_true he]; exact hx
  · intro h; exact ⟨s, h, by simp⟩
theorem xhas_any (v : Value) (l : List ByteArray) (s : ByteArray) (w : World) (hv : Sl w 1 v l.length (strs l)) (hl : l.length ≤ 4611686018427387904) : Calls Tryd.prog 21 #[v, .string s] w fun e w' => e = .returned (.bool (hasB l s)) ∧ w = w' := by
  have hlen := hv.run_len Tryd.underlying28
  have HV := Lib.hid hv
  clear hv
  go_enter Tryd.func21, Tryd.ntmps21
  go_wp2
  go_loop [5] (fun i => ∃ k : Nat, k ≤ l.length ∧ i = .int .i64 k ∧ ∀ j, j < k → l.getD j ByteArray.empty ≠ s) (fun i => l.length - (intOf i).toNat)
  case atStart => exact ⟨0, Nat.zero_le _, rfl, fun j hj => by omega⟩
  case round =>
    obtain ⟨k, hk, rfl, hall⟩ := hrel
    have Hall := Lib.hid hall
    clear hall
    by_cases hlt : k < l.length
    · obtain ⟨A, u, hA, _, hc, Hu⟩ := HV.out.at1 (P := Tryd.prog) Tryd.underlying28 Tryd.size9 k hlt
      rw [Hu.out, strs_get l k hlt] at hc
      obtain ⟨x, hx⟩ : ∃ x, x = l.getD k ByteArray.empty := ⟨_, rfl⟩
      rw [← hx] at hc
      have HX := Lib.hid hx
      clear Hu hx
      by_cases he : x = s
      · have e1 := text_yes he
        have Hr : Hid (hasB l s = true) := Lib.hid (hasB_iff.2 (by rw [← he, HX.out]; simp [List.getD, hlt]))
        clear he
        go_wp2
        go_ret
        rw [Hr.out]
        exact ⟨rfl, rfl⟩
      · have e1 := text_no he
        have Hn : Hid (∀ j, j < k + 1 → l.getD j ByteArray.empty ≠ s) := Lib.hid fun j hj => by
          by_cases e : j = k
          · subst e; rw [← HX.out]; exact he
          · exact Hall.out j (by omega)
        clear he
        go_wp2
        go_round
        case rel => exact ⟨k + 1, by omega, by go_num, Hn.out⟩
        case measure => simp [intOf]; omega
    · obtain rfl : k = l.length := by omega
      have Hr : Hid (hasB l s = false) := Lib.hid (by
        cases h : hasB l s with
        | false => rfl
        | true =>
          obtain ⟨j, hj, e⟩ := List.getElem_of_mem (hasB_iff.1 h)
          exact absurd (by simp [List.getD, hj, e]) (Hall.out j hj))
      go_wp2
      go_ret
      rw [Hr.out]
      exact ⟨rfl, rfl⟩
theorem ty_in {t : ByteArray} (h : hasB nm19 t = false) : typeB t = none := by
  unfold typeB
  rw [Option.map_eq_none_iff, List.find?_eq_none]
  intro p hp he
  have hm : (tyL.all fun p => hasB nm19 p.1) = true := by decide +kernel
  have := List.all_eq_true.1 hm p hp
  rw [of_decide_eq_true he, h] at this
  cases this
theorem ty_else {t : ByteArray} (h : hasB nm19 t = true) (h0 : ¬ t = s_telephonenumber) (h1 : ¬ t = s_uidnumber) (h2 : ¬ t = s_gidnumber) (h3 : ¬ t = s_member) (h4 : ¬ t = s_manager) (h5 : ¬ t = s_seealso) (h6 : ¬ t = s_userpassword) (h7 : ¬ t = s_displayname) : typeB t = some (1, false) := by
  have hm := hasB_iff.1 h
  simp only [nm19, List.mem_cons, List.not_mem_nil, or_false] at hm
  rcases hm with rfl | rfl | rfl | rfl | rfl | rfl | rfl | rfl | rfl | rfl | rfl | rfl | rfl | rfl | rfl | rfl | rfl | rfl | rfl
  all_goals first | decide +kernel | (exfalso; first | exact h0 rfl | exact h1 rfl | exact h2 rfl | exact h3 rfl | exact h4 rfl | exact h5 rfl | exact h6 rfl | exact h7 rfl)
set_option maxRecDepth 100000 in
set_option maxHeartbeats 1600000 in
theorem xtype_any (s : ByteArray) (w : World) (hs : s.size ≤ 140737488351232) : Calls Tryd.prog 9 #[.string s] w (RetType w (foldB s) (typeB (foldB s))) := by
  obtain ⟨t, ht⟩ : ∃ t, t = foldB s := ⟨_, rfl⟩
  have hf := xfold_any s w hs
  rw [← ht] at hf ⊢
  have HF := Lib.hid hf
  clear hf ht hs
  cases hh : hasB nm19 t with
  | false =>
    have HO := Lib.hid (ty_in hh)
    have HHs := Lib.hid hh
    clear hh
    go_enter Tryd.func9, Tryd.ntmps9
    go_wp2_with fail
    refine HF.out.mono ?_
    rintro e w1 ⟨rfl, hb1⟩
    have HB1 := Lib.hid hb1
    clear hb1
    go_wp2_with fail
    refine (xtypes_any _).mono ?_
    rintro e w2 ⟨v2, rfl, h2, hb2⟩
    have HB2 : Hid (Below w.heap.size w w2) := Lib.hid (HB1.out.trans (hb2.mono HB1.out.size))
    have H2 := Lib.hid h2
    clear h2 hb2
    go_wp2_with fail
    refine (xhas_any v2 nm19 t _ H2.out (by decide)).mono ?_
    rintro e w3 ⟨rfl, rfl⟩
    rw [HHs.out]
    go_wp2
    refine bodyPost_ret (v := typeV t none) (by simp [results, Tryd.results9, go_sem, typeV]) rfl ?_
    rw [HO.out]
    exact ⟨rfl, HB2.out⟩
  | true =>
    have HHs := Lib.hid hh
    clear hh
    by_cases h0 : t = s_telephonenumber
    · have HO : Hid (typeB t = some (5, false)) := Lib.hid (by subst h0; decide +kernel)
      have e0 : (t.toList == [116, 101, 108, 101, 112, 104, 111, 110, 101, 110, 117, 109, 98, 101, 114]) = true := by rw [show ([116, 101, 108, 101, 112, 104, 111, 110, 101, 110, 117, 109, 98, 101, 114] : List UInt8) = (s_telephonenumber).toList from by rw [ByteArray.toList_eq]]; exact text_yes h0
      clear h0
      go_enter Tryd.func9, Tryd.ntmps9
      go_wp2_with fail
      refine HF.out.mono ?_
      rintro e w1 ⟨rfl, hb1⟩
      have HB1 := Lib.hid hb1
      clear hb1
      go_wp2_with fail
      refine (xtypes_any _).mono ?_
      rintro e w2 ⟨v2, rfl, h2, hb2⟩
      have HB2 : Hid (Below w.heap.size w w2) := Lib.hid (HB1.out.trans (hb2.mono HB1.out.size))
      have H2 := Lib.hid h2
      clear h2 hb2
      go_wp2_with fail
      refine (xhas_any v2 nm19 t _ H2.out (by decide)).mono ?_
      rintro e w3 ⟨rfl, rfl⟩
      rw [HHs.out]
      go_wp2
      refine bodyPost_ret (v := typeV t (some (5, false))) (by simp [results, Tryd.results9, go_sem, typeV]) rfl ?_
      rw [HO.out]
      exact ⟨rfl, HB2.out⟩
    have e0 : (t.toList == [116, 101, 108, 101, 112, 104, 111, 110, 101, 110, 117, 109, 98, 101, 114]) = false := by rw [show ([116, 101, 108, 101, 112, 104, 111, 110, 101, 110, 117, 109, 98, 101, 114] : List UInt8) = (s_telephonenumber).toList from by rw [ByteArray.toList_eq]]; exact text_no h0
    by_cases h1 : t = s_uidnumber
    · have HO : Hid (typeB t = some (2, true)) := Lib.hid (by subst h1; decide +kernel)
      have e1 : (t.toList == [117, 105, 100, 110, 117, 109, 98, 101, 114]) = true := by rw [show ([117, 105, 100, 110, 117, 109, 98, 101, 114] : List UInt8) = (s_uidnumber).toList from by rw [ByteArray.toList_eq]]; exact text_yes h1
      clear h1
      go_enter Tryd.func9, Tryd.ntmps9
      go_wp2_with fail
      refine HF.out.mono ?_
      rintro e w1 ⟨rfl, hb1⟩
      have HB1 := Lib.hid hb1
      clear hb1
      go_wp2_with fail
      refine (xtypes_any _).mono ?_
      rintro e w2 ⟨v2, rfl, h2, hb2⟩
      have HB2 : Hid (Below w.heap.size w w2) := Lib.hid (HB1.out.trans (hb2.mono HB1.out.size))
      have H2 := Lib.hid h2
      clear h2 hb2
      go_wp2_with fail
      refine (xhas_any v2 nm19 t _ H2.out (by decide)).mono ?_
      rintro e w3 ⟨rfl, rfl⟩
      rw [HHs.out]
      go_wp2
      refine bodyPost_ret (v := typeV t (some (2, true))) (by simp [results, Tryd.results9, go_sem, typeV]) rfl ?_
      rw [HO.out]
      exact ⟨rfl, HB2.out⟩
    have e1 : (t.toList == [117, 105, 100, 110, 117, 109, 98, 101, 114]) = false := by rw [show ([117, 105, 100, 110, 117, 109, 98, 101, 114] : List UInt8) = (s_uidnumber).toList from by rw [ByteArray.toList_eq]]; exact text_no h1
    by_cases h2 : t = s_gidnumber
    · have HO : Hid (typeB t = some (2, true)) := Lib.hid (by subst h2; decide +kernel)
      have e2 : (t.toList == [103, 105, 100, 110, 117, 109, 98, 101, 114]) = true := by rw [show ([103, 105, 100, 110, 117, 109, 98, 101, 114] : List UInt8) = (s_gidnumber).toList from by rw [ByteArray.toList_eq]]; exact text_yes h2
      clear h2
      go_enter Tryd.func9, Tryd.ntmps9
      go_wp2_with fail
      refine HF.out.mono ?_
      rintro e w1 ⟨rfl, hb1⟩
      have HB1 := Lib.hid hb1
      clear hb1
      go_wp2_with fail
      refine (xtypes_any _).mono ?_
      rintro e w2 ⟨v2, rfl, h2, hb2⟩
      have HB2 : Hid (Below w.heap.size w w2) := Lib.hid (HB1.out.trans (hb2.mono HB1.out.size))
      have H2 := Lib.hid h2
      clear h2 hb2
      go_wp2_with fail
      refine (xhas_any v2 nm19 t _ H2.out (by decide)).mono ?_
      rintro e w3 ⟨rfl, rfl⟩
      rw [HHs.out]
      go_wp2
      refine bodyPost_ret (v := typeV t (some (2, true))) (by simp [results, Tryd.results9, go_sem, typeV]) rfl ?_
      rw [HO.out]
      exact ⟨rfl, HB2.out⟩
    have e2 : (t.toList == [103, 105, 100, 110, 117, 109, 98, 101, 114]) = false := by rw [show ([103, 105, 100, 110, 117, 109, 98, 101, 114] : List UInt8) = (s_gidnumber).toList from by rw [ByteArray.toList_eq]]; exact text_no h2
    by_cases h3 : t = s_member
    · have HO : Hid (typeB t = some (3, false)) := Lib.hid (by subst h3; decide +kernel)
      have e3 : (t.toList == [109, 101, 109, 98, 101, 114]) = true := by rw [show ([109, 101, 109, 98, 101, 114] : List UInt8) = (s_member).toList from by rw [ByteArray.toList_eq]]; exact text_yes h3
      clear h3
      go_enter Tryd.func9, Tryd.ntmps9
      go_wp2_with fail
      refine HF.out.mono ?_
      rintro e w1 ⟨rfl, hb1⟩
      have HB1 := Lib.hid hb1
      clear hb1
      go_wp2_with fail
      refine (xtypes_any _).mono ?_
      rintro e w2 ⟨v2, rfl, h2, hb2⟩
      have HB2 : Hid (Below w.heap.size w w2) := Lib.hid (HB1.out.trans (hb2.mono HB1.out.size))
      have H2 := Lib.hid h2
      clear h2 hb2
      go_wp2_with fail
      refine (xhas_any v2 nm19 t _ H2.out (by decide)).mono ?_
      rintro e w3 ⟨rfl, rfl⟩
      rw [HHs.out]
      go_wp2
      refine bodyPost_ret (v := typeV t (some (3, false))) (by simp [results, Tryd.results9, go_sem, typeV]) rfl ?_
      rw [HO.out]
      exact ⟨rfl, HB2.out⟩
    have e3 : (t.toList == [109, 101, 109, 98, 101, 114]) = false := by rw [show ([109, 101, 109, 98, 101, 114] : List UInt8) = (s_member).toList from by rw [ByteArray.toList_eq]]; exact text_no h3
    by_cases h4 : t = s_manager
    · have HO : Hid (typeB t = some (3, false)) := Lib.hid (by subst h4; decide +kernel)
      have e4 : (t.toList == [109, 97, 110, 97, 103, 101, 114]) = true := by rw [show ([109, 97, 110, 97, 103, 101, 114] : List UInt8) = (s_manager).toList from by rw [ByteArray.toList_eq]]; exact text_yes h4
      clear h4
      go_enter Tryd.func9, Tryd.ntmps9
      go_wp2_with fail
      refine HF.out.mono ?_
      rintro e w1 ⟨rfl, hb1⟩
      have HB1 := Lib.hid hb1
      clear hb1
      go_wp2_with fail
      refine (xtypes_any _).mono ?_
      rintro e w2 ⟨v2, rfl, h2, hb2⟩
      have HB2 : Hid (Below w.heap.size w w2) := Lib.hid (HB1.out.trans (hb2.mono HB1.out.size))
      have H2 := Lib.hid h2
      clear h2 hb2
      go_wp2_with fail
      refine (xhas_any v2 nm19 t _ H2.out (by decide)).mono ?_
      rintro e w3 ⟨rfl, rfl⟩
      rw [HHs.out]
      go_wp2
      refine bodyPost_ret (v := typeV t (some (3, false))) (by simp [results, Tryd.results9, go_sem, typeV]) rfl ?_
      rw [HO.out]
      exact ⟨rfl, HB2.out⟩
    have e4 : (t.toList == [109, 97, 110, 97, 103, 101, 114]) = false := by rw [show ([109, 97, 110, 97, 103, 101, 114] : List UInt8) = (s_manager).toList from by rw [ByteArray.toList_eq]]; exact text_no h4
    by_cases h5 : t = s_seealso
    · have HO : Hid (typeB t = some (3, false)) := Lib.hid (by subst h5; decide +kernel)
      have e5 : (t.toList == [115, 101, 101, 97, 108, 115, 111]) = true := by rw [show ([115, 101, 101, 97, 108, 115, 111] : List UInt8) = (s_seealso).toList from by rw [ByteArray.toList_eq]]; exact text_yes h5
      clear h5
      go_enter Tryd.func9, Tryd.ntmps9
      go_wp2_with fail
      refine HF.out.mono ?_
      rintro e w1 ⟨rfl, hb1⟩
      have HB1 := Lib.hid hb1
      clear hb1
      go_wp2_with fail
      refine (xtypes_any _).mono ?_
      rintro e w2 ⟨v2, rfl, h2, hb2⟩
      have HB2 : Hid (Below w.heap.size w w2) := Lib.hid (HB1.out.trans (hb2.mono HB1.out.size))
      have H2 := Lib.hid h2
      clear h2 hb2
      go_wp2_with fail
      refine (xhas_any v2 nm19 t _ H2.out (by decide)).mono ?_
      rintro e w3 ⟨rfl, rfl⟩
      rw [HHs.out]
      go_wp2
      refine bodyPost_ret (v := typeV t (some (3, false))) (by simp [results, Tryd.results9, go_sem, typeV]) rfl ?_
      rw [HO.out]
      exact ⟨rfl, HB2.out⟩
    have e5 : (t.toList == [115, 101, 101, 97, 108, 115, 111]) = false := by rw [show ([115, 101, 101, 97, 108, 115, 111] : List UInt8) = (s_seealso).toList from by rw [ByteArray.toList_eq]]; exact text_no h5
    by_cases h6 : t = s_userpassword
    · have HO : Hid (typeB t = some (4, false)) := Lib.hid (by subst h6; decide +kernel)
      have e6 : (t.toList == [117, 115, 101, 114, 112, 97, 115, 115, 119, 111, 114, 100]) = true := by rw [show ([117, 115, 101, 114, 112, 97, 115, 115, 119, 111, 114, 100] : List UInt8) = (s_userpassword).toList from by rw [ByteArray.toList_eq]]; exact text_yes h6
      clear h6
      go_enter Tryd.func9, Tryd.ntmps9
      go_wp2_with fail
      refine HF.out.mono ?_
      rintro e w1 ⟨rfl, hb1⟩
      have HB1 := Lib.hid hb1
      clear hb1
      go_wp2_with fail
      refine (xtypes_any _).mono ?_
      rintro e w2 ⟨v2, rfl, h2, hb2⟩
      have HB2 : Hid (Below w.heap.size w w2) := Lib.hid (HB1.out.trans (hb2.mono HB1.out.size))
      have H2 := Lib.hid h2
      clear h2 hb2
      go_wp2_with fail
      refine (xhas_any v2 nm19 t _ H2.out (by decide)).mono ?_
      rintro e w3 ⟨rfl, rfl⟩
      rw [HHs.out]
      go_wp2
      refine bodyPost_ret (v := typeV t (some (4, false))) (by simp [results, Tryd.results9, go_sem, typeV]) rfl ?_
      rw [HO.out]
      exact ⟨rfl, HB2.out⟩
    have e6 : (t.toList == [117, 115, 101, 114, 112, 97, 115, 115, 119, 111, 114, 100]) = false := by rw [show ([117, 115, 101, 114, 112, 97, 115, 115, 119, 111, 114, 100] : List UInt8) = (s_userpassword).toList from by rw [ByteArray.toList_eq]]; exact text_no h6
    by_cases h7 : t = s_displayname
    · have HO : Hid (typeB t = some (1, true)) := Lib.hid (by subst h7; decide +kernel)
      have e7 : (t.toList == [100, 105, 115, 112, 108, 97, 121, 110, 97, 109, 101]) = true := by rw [show ([100, 105, 115, 112, 108, 97, 121, 110, 97, 109, 101] : List UInt8) = (s_displayname).toList from by rw [ByteArray.toList_eq]]; exact text_yes h7
      clear h7
      go_enter Tryd.func9, Tryd.ntmps9
      go_wp2_with fail
      refine HF.out.mono ?_
      rintro e w1 ⟨rfl, hb1⟩
      have HB1 := Lib.hid hb1
      clear hb1
      go_wp2_with fail
      refine (xtypes_any _).mono ?_
      rintro e w2 ⟨v2, rfl, h2, hb2⟩
      have HB2 : Hid (Below w.heap.size w w2) := Lib.hid (HB1.out.trans (hb2.mono HB1.out.size))
      have H2 := Lib.hid h2
      clear h2 hb2
      go_wp2_with fail
      refine (xhas_any v2 nm19 t _ H2.out (by decide)).mono ?_
      rintro e w3 ⟨rfl, rfl⟩
      rw [HHs.out]
      go_wp2
      refine bodyPost_ret (v := typeV t (some (1, true))) (by simp [results, Tryd.results9, go_sem, typeV]) rfl ?_
      rw [HO.out]
      exact ⟨rfl, HB2.out⟩
    have e7 : (t.toList == [100, 105, 115, 112, 108, 97, 121, 110, 97, 109, 101]) = false := by rw [show ([100, 105, 115, 112, 108, 97, 121, 110, 97, 109, 101] : List UInt8) = (s_displayname).toList from by rw [ByteArray.toList_eq]]; exact text_no h7
    have HO : Hid (typeB t = some (1, false)) := Lib.hid (ty_else HHs.out h0 h1 h2 h3 h4 h5 h6 h7)
    clear h0 h1 h2 h3 h4 h5 h6 h7
    go_enter Tryd.func9, Tryd.ntmps9
    go_wp2_with fail
    refine HF.out.mono ?_
    rintro e w1 ⟨rfl, hb1⟩
    have HB1 := Lib.hid hb1
    clear hb1
    go_wp2_with fail
    refine (xtypes_any _).mono ?_
    rintro e w2 ⟨v2, rfl, h2, hb2⟩
    have HB2 : Hid (Below w.heap.size w w2) := Lib.hid (HB1.out.trans (hb2.mono HB1.out.size))
    have H2 := Lib.hid h2
    clear h2 hb2
    go_wp2_with fail
    refine (xhas_any v2 nm19 t _ H2.out (by decide)).mono ?_
    rintro e w3 ⟨rfl, rfl⟩
    rw [HHs.out]
    go_wp2
    refine bodyPost_ret (v := typeV t (some (1, false))) (by simp [results, Tryd.results9, go_sem, typeV]) rfl ?_
    rw [HO.out]
    exact ⟨rfl, HB2.out⟩
end Go.Proofs.YtindlfiifckdnaaDoor.Sc
