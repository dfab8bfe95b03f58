/-
  The functions that schema's Check hands on (chapter 14), slices.Contains over texts, undefined.
-/
import Derived.Test.YtindlfiifckdnaaDoorSchFunc
import Derived.Deep.RegionHeld3
import Derived.Deep.DeepCutAuto
namespace Go.Proofs.YtindlfiifckdnaaDoor.Sc
open Go.RowKit L
set_option maxHeartbeats 800000 in
theorem index_any (v : Value) (l : List ByteArray) (s : ByteArray) (w : World) (hv : Sl w 1 v l.length (strs l)) (hl : l.length ≤ 1099511627776) :
    Calls Tryd.prog 45 #[v, .string s] w fun e w' => ∃ z : Int, e = .returned (.int .i64 z) ∧ decide (0 ≤ z) = hasB l s ∧ w = w' := by
  have hlen := hv.run_len Tryd.underlying28
  have HV := Lib.hid hv
  clear hv
  go_enter Tryd.func45, Tryd.ntmps45
  go_wp2
  go_loop [8] (fun i => ∃ k : Nat, k ≤ l.length ∧ i = .int .i64 k ∧ ∀ j, j < k → l.getD j ByteArray.empty ≠ s) (fun i => l.length - (intOf i).toNat)
  case atStart => exact ⟨0, Nat.zero_le _, rfl, fun j hj => by omega⟩
  case round =>
    obtain ⟨k, hk, rfl, hall⟩ := hrel
    have Hall := Lib.hid hall
    clear hall
    by_cases hlt : k < l.length
    · obtain ⟨A, u, hA, _, hc, Hu⟩ := HV.out.at1 (P := Tryd.prog) Tryd.underlying28 Tryd.size9 k hlt
      rw [Hu.out, strs_get l k hlt] at hc
      obtain ⟨x, hx⟩ : ∃ x, x = l.getD k ByteArray.empty := ⟨_, rfl⟩
      rw [← hx] at hc
      have HX := Lib.hid hx
      clear Hu hx
      by_cases he : x = s
      · have e1 := text_yes he
        have e2 := text_yes he.symm
        have Hr : Hid (hasB l s = true) := Lib.hid (hasB_iff.2 (by rw [← he, HX.out]; simp [List.getD, hlt]))
        clear he
        go_wp2
        go_ret
        rw [Hr.out]
        exact ⟨_, rfl, by simp, rfl⟩
      · have e1 := text_no he
        have e2 := text_no (fun h => he h.symm)
        have Hn : Hid (∀ j, j < k + 1 → l.getD j ByteArray.empty ≠ s) := Lib.hid fun j hj => by
          by_cases e : j = k
          · subst e; rw [← HX.out]; exact he
          · exact Hall.out j (by omega)
        clear he
        go_wp2
        go_round
        case rel => exact ⟨k + 1, by omega, by go_num, Hn.out⟩
        case measure => simp [intOf]; omega
    · obtain rfl : k = l.length := by omega
      have Hr : Hid (hasB l s = false) := Lib.hid (by
        cases h : hasB l s with
        | false => rfl
        | true =>
          obtain ⟨j, hj, e⟩ := List.getElem_of_mem (hasB_iff.1 h)
          exact absurd (by simp [List.getD, hj, e]) (Hall.out j hj))
      go_wp2
      go_ret
      rw [Hr.out]
      exact ⟨-1, rfl, by simp, rfl⟩
theorem contains_any (v : Value) (l : List ByteArray) (s : ByteArray) (w : World) (hv : Sl w 1 v l.length (strs l)) (hl : l.length ≤ 1099511627776) :
    Calls Tryd.prog 39 #[v, .string s] w fun e w' => e = .returned (.bool (hasB l s)) ∧ w = w' := by
  have HI := Lib.hid (index_any v l s w hv hl)
  clear hv
  go_enter Tryd.func39, Tryd.ntmps39
  go_wp2_with fail
  refine HI.out.mono ?_
  rintro e w2 ⟨z, rfl, hz, rfl⟩
  have Hz := Lib.hid hz
  clear hz
  go_wp2
  go_ret
  rw [← Hz.out]
  exact ⟨rfl, rfl⟩
theorem undef1_any (s : ByteArray) (w : World) (hs : s.size ≤ 140737488351232) (hT : Tab w) : Calls Tryd.prog 35 #[.string s] w (RetBl w (classB (foldB s)).isNone) := by
  have HC := Lib.hid (class_any s w hs hT)
  obtain ⟨o, ho⟩ : ∃ o, o = classB (foldB s) := ⟨_, rfl⟩
  rw [← ho] at HC ⊢
  clear ho hT
  go_enter Tryd.func35, Tryd.ntmps35
  go_wp2_with fail
  refine HC.out.mono ?_
  rintro e w2 ⟨v1, v2, rfl, _, _, hb, _⟩
  have HB := Lib.hid hb
  clear hb HC
  cases o with
  | none =>
    go_wp2
    go_ret
    exact ⟨rfl, HB.out⟩
  | some p =>
    go_wp2
    go_ret
    exact ⟨rfl, HB.out⟩
def ocB (t : ByteArray) : Bool := decide (foldB t = s_objectclass)
theorem oc_yes {t : ByteArray} (h : t = s_objectclass) : (t.toList == [111, 98, 106, 101, 99, 116, 99, 108, 97, 115, 115]) = true := by
  rw [show ([111, 98, 106, 101, 99, 116, 99, 108, 97, 115, 115] : List UInt8) = (s_objectclass).toList from by rw [ByteArray.toList_eq]]; exact text_yes h
theorem oc_no {t : ByteArray} (h : ¬ t = s_objectclass) : (t.toList == [111, 98, 106, 101, 99, 116, 99, 108, 97, 115, 115]) = false := by
  rw [show ([111, 98, 106, 101, 99, 116, 99, 108, 97, 115, 115] : List UInt8) = (s_objectclass).toList from by rw [ByteArray.toList_eq]]; exact text_no h
theorem check1_any (t : ByteArray) (ao : Option Addr) (n c : Nat) (w : World) (hs : t.size ≤ 140737488351232) : Calls Tryd.prog 24 #[.agg #[.string t, .slice ao n c]] w (RetBl w (ocB t)) := by
  have HB0 := Lib.hid ((Below.refl w.heap.size w).alloc (Nat.le_refl _) (.cells #[.string t, .slice ao n c] 36))
  have HF := Lib.hid (fold_any t (w.alloc (.cells #[.string t, .slice ao n c] 36)) hs)
  unfold ocB
  obtain ⟨f, hf⟩ : ∃ f, f = foldB t := ⟨_, rfl⟩
  rw [← hf] at HF ⊢
  clear hf
  go_enter Tryd.func24, Tryd.ntmps24
  go_wp2_with fail
  refine HF.out.mono ?_
  rintro e w2 ⟨rfl, hb⟩
  have HB : Hid (Below w.heap.size w w2) := Lib.hid (HB0.out.trans (hb.mono HB0.out.size))
  clear hb HF
  by_cases he : f = s_objectclass
  · have e1 := oc_yes he
    have Hd : Hid (decide (f = s_objectclass) = true) := Lib.hid (by simpa using he)
    clear he
    go_wp2
    go_ret
    rw [Hd.out]
    exact ⟨rfl, HB.out⟩
  · have e1 := oc_no he
    have Hd : Hid (decide (f = s_objectclass) = false) := Lib.hid (by simpa using he)
    clear he
    go_wp2
    go_ret
    rw [Hd.out]
    exact ⟨rfl, HB.out⟩
/-- must: is there no value of a type? -/
theorem cls1_any (s : ByteArray) (b : Nat) (dv av : Value) (e : Ent) (w : World) (h0 : w.cell? ⟨b, 0, none⟩ = some dv) (h1 : w.cell? ⟨b, 1, none⟩ = some av) (he : EntAt w dv av e) (hk : EntOk e 1048576) :
    Calls Tryd.prog 37 #[.string s, .pointer (some ⟨b, 0, none⟩)] w (RetBl w (valsB e s).isEmpty) := by
  have HV := Lib.hid (values_any w dv av e s he hk)
  have hvl := valsT_len hk s e.ats.length
  rw [valsT_all] at hvl
  obtain ⟨l, hl⟩ : ∃ l, l = valsB e s := ⟨_, rfl⟩
  rw [← hl] at HV hvl ⊢
  clear hl hk he
  go_enter Tryd.func37, Tryd.ntmps37
  go_wp2_with fail
  refine HV.out.mono ?_
  rintro e2 w2 ⟨v, rfl, hsl, hb⟩
  have hlen := hsl.run_len Tryd.underlying28
  have HB := Lib.hid hb
  clear hb HV hsl
  cases l with
  | nil =>
    go_wp2
    go_ret
    exact ⟨rfl, HB.out⟩
  | cons x r =>
    obtain ⟨n, hn⟩ : ∃ n, n = (x :: r).length := ⟨_, rfl⟩
    rw [← hn] at hlen
    have q0 : ((n : Int) == 0) = false := by rw [beq_eq_false_iff_ne, hn]; simp; omega
    clear hn
    go_wp2
    go_ret
    exact ⟨rfl, HB.out⟩
end Go.Proofs.YtindlfiifckdnaaDoor.Sc
