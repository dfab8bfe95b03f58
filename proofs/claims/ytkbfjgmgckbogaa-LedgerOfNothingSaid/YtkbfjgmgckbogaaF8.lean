/-
  Texts that the proofs of this seat stand on, one behind the other: contracts of functions and plain lemmas. Conditions: those that each theorem states.
-/
import Derived.Test.YtkbfjgmgckbogaaFrameDec
import Derived.Test.YtkbfjgmgckbogaaFramePure2
import Derived.Test.YtkbfjgmgckbogaaF3
/-
  The walk of frame.One.
-/


namespace Go.Proofs.Ytkbfjgmgckbogaa.Fr
open Go.RowKit L Oct
set_option maxRecDepth 100000 in
set_option maxHeartbeats 800000 in
theorem one_any (v : Value) (l : List UInt8) (w : World) (hv : Sl w 1 v l.length (u8s l)) (hl : l.length ≤ 1000000000000) :
    Calls Try.prog 57 #[v] w (RetE (New w (unone l).1) (unone l).2) := by
  have hlen := hv.run_len Try.underlying33
  have hd := decode_any v l w hv hl
  obtain ⟨p, hp⟩ : ∃ p, p = (unrec l).1 := ⟨_, rfl⟩
  obtain ⟨n, hn⟩ : ∃ n, n = (unrec l).2.1 := ⟨_, rfl⟩
  obtain ⟨e, he⟩ : ∃ e, e = (unrec l).2.2 := ⟨_, rfl⟩
  have hu : unone l = if e = 0 ∧ n ≠ l.length then ([], 3) else (p, e) := by unfold unone; rw [hp, hn, he]
  rw [← hp, ← hn, ← he] at hd
  rw [hu]
  have Hd := Lib.hid hd
  clear hd hp hn he hu hv
  by_cases h0 : e = 0
  · subst h0
    by_cases h1 : n = l.length
    · rw [if_neg (by simp [h1])]
      subst h1
      have hq : ((l.length : Int) != (l.length : Int)) = false := by simp
      go_enter Try.func57, Try.ntmps57
      go_wp2_with fail
      refine Hd.out.mono ?_
      rintro ee w1 ⟨v1, rfl, h1⟩
      have H1 := Lib.hid h1
      clear h1
      go_wp2
      go_ret2
      exact ⟨v1, rfl, H1.out⟩
    · rw [if_pos ⟨rfl, h1⟩]
      have hq : ((n : Int) != (l.length : Int)) = true := by simp; omega
      clear h1
      go_enter Try.func57, Try.ntmps57
      go_wp2_with fail
      refine Hd.out.mono ?_
      rintro ee w1 ⟨v1, rfl, h1⟩
      have H1 := Lib.hid h1.2
      clear h1
      go_wp2
      go_ret2
      exact ⟨_, rfl, new_nil _ _ H1.out⟩
  · rw [if_neg (by simp [h0])]
    have hq : ((e : Int) == 0) = false := by simp; omega
    clear h0
    go_enter Try.func57, Try.ntmps57
    go_wp2_with fail
    refine Hd.out.mono ?_
    rintro ee w1 ⟨v1, rfl, h1⟩
    have H1 := Lib.hid h1
    clear h1
    go_wp2
    go_ret2
    exact ⟨v1, rfl, H1.out⟩
end Go.Proofs.Ytkbfjgmgckbogaa.Fr

/-
  The walks of frame.One and frame.Scan, and of 'rows' of the laws.
-/


namespace Go.Proofs.Ytkbfjgmgckbogaa.Fr
open Go.RowKit L Oct
/-- rows of bytes that a call has made -/
def NewRows (w : World) (ls : List (List UInt8)) (v' : Value) (w' : World) : Prop := SlRows w' v' ls ∧ Below w.heap.size w w'
/-- the same, owned -/
def NewOwn (w : World) (ls : List (List UInt8)) (v' : Value) (w' : World) : Prop := ∃ vs, Hold w ((Row 33 1 v' ls.length vs).sep ((Inner vs ls).sep Asrt.emp)) w'
set_option maxRecDepth 100000 in
set_option maxHeartbeats 1600000 in
theorem scan_own (v : Value) (l : List UInt8) (w : World) (hv : Sl w 1 v l.length (u8s l)) (hl : l.length ≤ 1000000000) :
    Calls Try.prog 44 #[v] w (RetE (NewOwn w (scan l).1) (scan l).2) := by
  have hlen := hv.run_len Try.underlying33
  go_enter Try.func44, Try.ntmps44
  go_wp2
  go_loopw [4, 5] (fun y i wr => ∃ (a : Nat) (vs : List Value) (ls : List (List UInt8)), a ≤ l.length ∧ i = .int .i64 a ∧ ls.length ≤ a ∧ Hid (scan l = (ls ++ (scan (l.drop a)).1, a + (scan (l.drop a)).2)) ∧
    Hold w ((Row 33 1 y ls.length vs).sep ((Inner vs ls).sep Asrt.emp)) wr) (fun _ i _ => l.length - (intOf i).toNat)
  case atStart => exact ⟨0, [], [], Nat.zero_le _, rfl, Nat.le_refl _, Lib.hid (by simp), (Hold.start w).addInnerNil.addNil _ _⟩
  case round =>
    obtain ⟨a, vs, ls, ha, rfl, hla, HS, H⟩ := hrel
    by_cases hlt : a < l.length
    · obtain ⟨v14, hr14, hs14⟩ := cut8 hv (some (.int .i64 (a : Int))) none a l.length (.inr ⟨.i64, rfl⟩) (.inl ⟨rfl, rfl⟩) ha (Nat.le_refl _)
      obtain ⟨T, hT⟩ : ∃ T, T = l.drop a := ⟨_, rfl⟩
      have hTl : T.length = l.length - a := by rw [hT, List.length_drop]
      rw [← hT, List.take_of_length_le (by omega)] at hs14
      have hd := decode_any v14 T wr (hs14.below' H.old) (by omega)
      rw [← hT] at HS
      obtain ⟨p, hp⟩ : ∃ p, p = (unrec T).1 := ⟨_, rfl⟩
      obtain ⟨n, hn⟩ : ∃ n, n = (unrec T).2.1 := ⟨_, rfl⟩
      obtain ⟨e, he⟩ : ∃ e, e = (unrec T).2.2 := ⟨_, rfl⟩
      rw [← hp, ← hn, ← he] at hd
      have Hd := Lib.hid hd
      have HT := Lib.hid hT
      have Hp := Lib.hid hp
      have Hn := Lib.hid hn
      have He := Lib.hid he
      have HTl := Lib.hid hTl
      clear hs14 hd hT hp hn he hTl
      by_cases h0 : e = 0
      · subst h0
        have h0' : (unrec T).2.2 = 0 := He.out.symm
        obtain ⟨u1, u2, u3⟩ := unrec_step T h0'
        rw [← Hn.out] at u1 u2
        rw [← Hp.out] at u3
        have hst := scan_ok T (by intro e; have := HTl.out; rw [e] at this; simp at this; omega) h0'
        rw [← Hn.out, ← Hp.out] at hst
        have Hst := Lib.hid hst
        have hll := HTl.out
        have U3 := Lib.hid u3
        have hpl : p.length ≤ 1000000000 := by omega
        have han : a + n ≤ l.length := by omega
        have h12 : ls.length + 1 ≤ a + n := by omega
        clear hst h0' u3 hll
        go_wp2_with fail
        refine Hd.out.mono ?_
        rintro ee w1 ⟨v1, rfl, h1⟩
        obtain ⟨p1, c1, rfl⟩ := h1.1.shape
        have H1 := (Hold.addInner H.up2 h1.2 h1.1).up2
        clear h1
        go_wp2_with (at_builtin; refine wpList_appLit elR H1 [.slice p1 p.length c1] rfl _ _ rfl rfl rfl rfl (by simp [Value.oneCell']) (by simp; omega) (by simp; omega) ?_; intro v8 xs8 w8 X8 H8)
        have H9 : Hid (Hold w ((Row 33 1 v8 (ls ++ [p]).length (vs ++ [.slice p1 p.length c1])).sep ((Inner (vs ++ [.slice p1 p.length c1]) (ls ++ [p])).sep Asrt.emp)) w8) := Lib.hid (by
          rw [X8.out, show ls.length + [Value.slice p1 p.length c1].length = (ls ++ [p]).length from by simp] at H8
          exact H8)
        clear H8 H1 H
        go_roundw
        case rel => exact ⟨a + n, vs ++ [.slice p1 p.length c1], ls ++ [p], han, by go_num, by simp; omega, Lib.hid (by rw [HS.out, Hst.out, HT.out, List.drop_drop]; simp only [List.append_assoc, List.cons_append, List.nil_append, Prod.mk.injEq, true_and]; omega), H9.out⟩
        case measure => simp [intOf]; omega
      · have hq : ((e : Int) != 0) = true := by simp; omega
        have hst := scan_bad T (by rw [← He.out]; exact h0)
        rw [hst, List.append_nil] at HS
        clear h0 hst
        go_wp2_with fail
        refine Hd.out.mono ?_
        rintro ee w1 ⟨v1, rfl, h1⟩
        have Hf : Hid (NewOwn w ls u4 w1) := Lib.hid ⟨vs, H.keeps h1.2⟩
        clear h1 H
        go_wp2
        go_ret2
        rw [HS.out]
        exact ⟨_, rfl, Hf.out⟩
    · obtain rfl : a = l.length := by omega
      rw [List.drop_length, scan_nil, List.append_nil] at HS
      have Hf : Hid (NewOwn w ls u4 wr) := Lib.hid ⟨vs, H⟩
      clear H
      go_wp2
      go_ret2
      rw [HS.out]
      exact ⟨_, rfl, Hf.out⟩
theorem scan_any (v : Value) (l : List UInt8) (w : World) (hv : Sl w 1 v l.length (u8s l)) (hl : l.length ≤ 1000000000) :
    Calls Try.prog 44 #[v] w (RetE (NewRows w (scan l).1) (scan l).2) := by
  refine (scan_own v l w hv hl).mono ?_
  rintro e w' ⟨v', rfl, vs, h⟩
  exact ⟨v', rfl, h.rowsAt rfl, h.old⟩
end Go.Proofs.Ytkbfjgmgckbogaa.Fr
