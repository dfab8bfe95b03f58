/-
  Texts that the proofs of this seat stand on, one behind the other: contracts of functions and plain lemmas. Conditions: those that each theorem states.
-/
import Derived.Test.YtkbfjgmgckbogaaGreatFrame
import Derived.Test.YtkbfjgmgckbogaaGreatF11
import Derived.Test.YtkbfjgmgckbogaaGreatF5
/-
  The walk of frame.Decode.
-/

namespace Go.Proofs.YtkbfjgmgckbogaaGreat.Fr
open Go.RowKit L Oct
/-- bytes cut: from a place on, up to another one -/
theorem cut8 {w : World} {v : Value} {l : List UInt8} (h : Sl w 1 v l.length (u8s l)) (lo hi : Option Value) (a m : Nat)
    (hlo : (lo = none ∧ a = 0) ∨ ∃ k, lo = some (.int k a)) (hhi : (hi = none ∧ m = l.length) ∨ ∃ k, hi = some (.int k m)) (h1 : a ≤ m) (h2 : m ≤ l.length) :
    ∃ v', (∀ w' : World, (Instr.slice 22 v lo hi none).run Tryz.prog w' = .ok v' w') ∧ Sl w 1 v' ((l.drop a).take (m - a)).length (u8s ((l.drop a).take (m - a))) := by
  obtain ⟨v', h3, h4, _⟩ := run_slice_sl (P := Tryz.prog) h Tryz.underlying22 Tryz.size5 lo hi a m hlo hhi h1 h2
  refine ⟨v', h3, ?_⟩
  have e1 : ((l.drop a).take (m - a)).length = m - a := by rw [List.length_take, List.length_drop]; omega
  rw [e1]
  simpa [u8s, List.map_drop, List.map_take] using h4
/-- a value, a number and an error -/
def Ret3 (R : Value → World → Prop) (n z : Int) (e : Ending) (w' : World) : Prop := ∃ v, e = .returned (.tuple #[v, .int .i64 n, .int .i64 z]) ∧ R v w'
/-- new bytes -/
def New (w : World) (p : List UInt8) (v' : Value) (w' : World) : Prop := Own w' w.heap.size 5 1 v' p.length (u8s p) ∧ Below w.heap.size w w'
theorem new_nil (w w' : World) (h : Below w.heap.size w w') : New w [] (.slice none 0 0) w' := ⟨Own.nil _ _ _ _, h⟩
set_option maxRecDepth 100000 in
set_option maxHeartbeats 1600000 in
theorem decode_any (v : Value) (l : List UInt8) (w : World) (hv : Sl w 1 v l.length (u8s l)) (hl : l.length ≤ 1000000000000) :
    Calls Tryz.prog 86 #[v] w (Ret3 (New w (unrec l).1) (unrec l).2.1 (unrec l).2.2) := by
  have hlen := hv.run_len Tryz.underlying22
  obtain ⟨N, hN⟩ : ∃ N, N = from4 l := ⟨_, rfl⟩
  have hNl : N < 4294967296 := by rw [hN]; exact from4_lt l
  by_cases h1 : l.length < 8
  · have e : unrec l = ([], 0, 2) := by unfold unrec; rw [if_pos h1]
    rw [e]
    clear e hN hNl
    show Calls Tryz.prog 86 #[v] w (Ret3 (New w []) 0 2)
    go_enter Tryz.func86, Tryz.ntmps86
    go_wp2
    go_ret3
    exact ⟨_, rfl, new_nil _ _ (Below.refl _ _)⟩
  obtain ⟨v8, hr8, hs8⟩ := cut8 hv none (some (.int .i64 8)) 0 8 (.inl ⟨rfl, rfl⟩) (.inr ⟨.i64, rfl⟩) (by omega) (by omega)
  rw [List.drop_zero, show 8 - 0 = 8 from rfl] at hs8
  by_cases h2 : l.take 8 ≠ head N
  · have e : unrec l = ([], 0, 4) := by unfold unrec; rw [if_neg h1, ← hN, if_pos h2]
    rw [e]
    clear e
    show Calls Tryz.prog 86 #[v] w (Ret3 (New w []) 0 4)
    have hd2 : decide (l.take 8 = head N) = false := by simpa using h2
    have Hd2 := Lib.hid hd2
    have HN := Lib.hid hN
    have Hs8 := Lib.hid hs8
    clear hd2 hN hs8 h2
    go_enter Tryz.func86, Tryz.ntmps86
    go_wp2_with fail
    refine (fromFour_any v l l.length w (by omega) rfl hv).mono ?_
    rintro e w1 ⟨he, hb1⟩
    rw [← HN.out] at he
    subst he
    go_wp2_with fail
    go_region_with (first
      | (go_at_call 74; refine (headOf_any N hNl _).mono ?_; rintro e w2 ⟨v2, rfl, ho2, hb2⟩; have hb12 := hb1.drew.trans (hb2.mono hb1.drew.size))
      | (go_at_call 97; refine (equal_any v8 v2 (l.take 8) (head N) _ (Hs8.out.below' hb12) ho2.sl).mono ?_; rintro e w3 ⟨rfl, rfl⟩; rw [Hd2.out]))
    all_goals
      have Hb := Lib.hid hb12
      clear hb12 hb2 hb1 ho2
      go_wp2
      go_ret3
      exact ⟨_, rfl, new_nil _ _ Hb.out⟩
  have h2' : l.take 8 = head N := by simpa using h2
  have hd2 : decide (l.take 8 = head N) = true := by simp [h2']
  have Hd2 := Lib.hid hd2
  have HN := Lib.hid hN
  have Hs8 := Lib.hid hs8
  have H2 := Lib.hid h2
  have hv0 := hv
  have Hv := Lib.hid hv0
  clear hd2 hN hs8 h2 h2' hv0
  by_cases h3 : 1048576 < N
  · have e : Hid (unrec l = ([], 0, 5)) := Lib.hid (by unfold unrec; rw [if_neg h1, ← HN.out, if_neg H2.out, if_pos h3])
    go_enter Tryz.func86, Tryz.ntmps86
    go_wp2_with fail
    refine (fromFour_any v l l.length w (by omega) rfl hv).mono ?_
    rintro ee w1 ⟨he, hb1⟩
    rw [← HN.out] at he
    subst he
    go_wp2_with fail
    go_region_with (first
      | (go_at_call 74; refine (headOf_any N hNl _).mono ?_; rintro ee w2 ⟨v2, rfl, ho2, hb2⟩; have hb12 := hb1.drew.trans (hb2.mono hb1.drew.size))
      | (go_at_call 97; refine (equal_any v8 v2 (l.take 8) (head N) _ (Hs8.out.below' hb12) ho2.sl).mono ?_; rintro ee w3 ⟨rfl, rfl⟩; rw [Hd2.out]))
    all_goals
      have Hb := Lib.hid hb12
      clear hb12 hb2 hb1 ho2
      go_wp2
      go_ret3
      rw [e.out]
      exact ⟨_, rfl, new_nil _ _ Hb.out⟩
  by_cases h4 : l.length < 12 + N
  · have e : Hid (unrec l = ([], 0, 2)) := Lib.hid (by unfold unrec; rw [if_neg h1, ← HN.out, if_neg H2.out, if_neg h3, if_pos h4])
    have h4' : (l.length : Int) - 8 - 4 < (N : Int) := by omega
    go_enter Tryz.func86, Tryz.ntmps86
    go_wp2_with fail
    refine (fromFour_any v l l.length w (by omega) rfl hv).mono ?_
    rintro ee w1 ⟨he, hb1⟩
    rw [← HN.out] at he
    subst he
    go_wp2_with fail
    go_region_with (first
      | (go_at_call 74; refine (headOf_any N hNl _).mono ?_; rintro ee w2 ⟨v2, rfl, ho2, hb2⟩; have hb12 := hb1.drew.trans (hb2.mono hb1.drew.size))
      | (go_at_call 97; refine (equal_any v8 v2 (l.take 8) (head N) _ (Hs8.out.below' hb12) ho2.sl).mono ?_; rintro ee w3 ⟨rfl, rfl⟩; rw [Hd2.out]))
    all_goals
      have Hb := Lib.hid hb12
      clear hb12 hb2 hb1 ho2
      go_wp2
      go_ret3
      rw [e.out]
      exact ⟨_, rfl, new_nil _ _ Hb.out⟩
  have h4' : ¬ ((l.length : Int) - 8 - 4 < (N : Int)) := by omega
  obtain ⟨W, hW⟩ : ∃ W, W = l.take (8 + N) := ⟨_, rfl⟩
  have hWl : W.length = 8 + N := by rw [hW, List.length_take]; omega
  obtain ⟨v10, hr10, hs10⟩ := cut8 hv none (some (.int .i64 (8 + (N : Int)))) 0 (8 + N) (.inl ⟨rfl, rfl⟩) (.inr ⟨.i64, by rw [Int.natCast_add]; rfl⟩) (by omega) (by omega)
  rw [List.drop_zero, Nat.sub_zero, ← hW] at hs10
  obtain ⟨v12, hr12, hs12⟩ := cut8 hv (some (.int .i64 (W.length : Int))) none W.length l.length (.inr ⟨.i64, rfl⟩) (.inl ⟨rfl, rfl⟩) (by omega) (Nat.le_refl _)
  obtain ⟨v13, hr13, hs13⟩ := cut8 hs10 (some (.int .i64 8)) none 8 W.length (.inr ⟨.i64, rfl⟩) (.inl ⟨rfl, rfl⟩) (by omega) (Nat.le_refl _)
  have hlen10 := hs10.run_len Tryz.underlying22
  obtain ⟨T, hT⟩ : ∃ T, T = l.drop W.length := ⟨_, rfl⟩
  rw [← hT, List.take_of_length_le (by rw [hT, List.length_drop]; omega)] at hs12
  have hTl : 4 ≤ T.length := by rw [hT, List.length_drop]; omega
  have e13 : (W.drop 8).take (W.length - 8) = (l.drop 8).take N := by
    rw [hW, List.drop_take, List.take_take]
    congr 1
    rw [← hW, hWl]; omega
  rw [e13] at hs13
  have ep : ((l.drop 8).take N).length = N := by rw [List.length_take, List.length_drop]; omega
  obtain ⟨C, hC⟩ : ∃ C, C = crc W := ⟨_, rfl⟩
  obtain ⟨M, hM⟩ : ∃ M, M = from4 T := ⟨_, rfl⟩
  obtain ⟨p10, c10, rfl⟩ := hs10.shape
  have e : Hid (unrec l = if M ≠ C then ([], 0, 4) else ((l.drop 8).take N, 12 + N, 0)) := Lib.hid (by
    unfold unrec
    rw [if_neg h1, ← HN.out, if_neg H2.out, if_neg h3, if_neg h4, hM, hC, hT, hW, List.length_take, Nat.min_eq_left (by omega)])
  have HW := Lib.hid hW
  have HWl := Lib.hid hWl
  have HT := Lib.hid hT
  have HC := Lib.hid hC
  have HM := Lib.hid hM
  have Hs10 := Lib.hid hs10
  have Hs12 := Lib.hid hs12
  have Hs13 := Lib.hid hs13
  have Hep := Lib.hid ep
  have hWm : W.length ≤ 100000000 := by omega
  clear hW hWl hT hC hM hs10 hs12 hs13 e13 ep
  by_cases h5 : M = C
  · have e5 : ((M : Int) != (C : Int)) = false := by simp [h5]
    rw [if_neg (by simpa using h5)] at e
    clear h5
    go_enter Tryz.func86, Tryz.ntmps86
    go_wp2_with fail
    refine (fromFour_any v l l.length w (by omega) rfl hv).mono ?_
    rintro ee w1 ⟨he, hb1⟩
    rw [← HN.out] at he
    subst he
    go_wp2_with fail
    go_region_with (first
      | (go_at_call 74; refine (headOf_any N hNl _).mono ?_; rintro ee w2 ⟨v2, rfl, ho2, hb2⟩; have hb12 := hb1.drew.trans (hb2.mono hb1.drew.size))
      | (go_at_call 97; refine (equal_any v8 v2 (l.take 8) (head N) _ (Hs8.out.below' hb12) ho2.sl).mono ?_; rintro ee w3 ⟨rfl, rfl⟩; rw [Hd2.out]))
    all_goals
      have Hb := Lib.hid hb12
      clear hb12 hb2 hb1 ho2
      go_wp2_with fail
      refine (fromFour_any _ T T.length _ hTl rfl (Hs12.out.below' Hb.out)).mono ?_
      rintro ee w4 ⟨he, hb4⟩
      rw [← HM.out] at he
      subst he
      have hb4 := Hb.out.trans (hb4.mono Hb.out.size)
      go_wp2_with fail
      refine (sum_at (rowsLit1 22 (Hs10.out.below' hb4) rfl)).mono ?_
      rintro ee w5 ⟨he, hw⟩
      rw [show [W].flatten = W from by simp, show (Crc.sum W).toNat = C from HC.out.symm] at he
      subst he
      have hb5 : Below w.heap.size w w5 := by rw [← hw]; exact hb4.alloc hb4.size _
      clear hw hb4
      go_wp2_with fail
      refine (clone_any _ _ _ (Hs13.out.below' hb5) (by have := Hep.out; omega)).mono ?_
      rintro ee w6 ⟨v6, rfl, ho6, hb6⟩
      have hn : Hid (New w ((l.drop 8).take N) v6 w6) := Lib.hid ⟨ho6.from fun k hk => Nat.le_trans hb5.size (ho6.lt k hk).1, hb5.trans (hb6.mono hb5.size)⟩
      clear ho6 hb6 hb5
      go_wp2
      go_ret3
      rw [e.out]
      exact ⟨v6, by have := HWl.out; rw [show (W.length : Int) + 4 = ((12 + N : Nat) : Int) from by omega]; rfl, hn.out⟩
  · have e5 : ((M : Int) != (C : Int)) = true := by simp; omega
    rw [if_pos (by simpa using h5)] at e
    clear h5
    go_enter Tryz.func86, Tryz.ntmps86
    go_wp2_with fail
    refine (fromFour_any v l l.length w (by omega) rfl hv).mono ?_
    rintro ee w1 ⟨he, hb1⟩
    rw [← HN.out] at he
    subst he
    go_wp2_with fail
    go_region_with (first
      | (go_at_call 74; refine (headOf_any N hNl _).mono ?_; rintro ee w2 ⟨v2, rfl, ho2, hb2⟩; have hb12 := hb1.drew.trans (hb2.mono hb1.drew.size))
      | (go_at_call 97; refine (equal_any v8 v2 (l.take 8) (head N) _ (Hs8.out.below' hb12) ho2.sl).mono ?_; rintro ee w3 ⟨rfl, rfl⟩; rw [Hd2.out]))
    all_goals
      have Hb := Lib.hid hb12
      clear hb12 hb2 hb1 ho2
      go_wp2_with fail
      refine (fromFour_any _ T T.length _ hTl rfl (Hs12.out.below' Hb.out)).mono ?_
      rintro ee w4 ⟨he, hb4⟩
      rw [← HM.out] at he
      subst he
      have hb4 := Hb.out.trans (hb4.mono Hb.out.size)
      go_wp2_with fail
      refine (sum_at (rowsLit1 22 (Hs10.out.below' hb4) rfl)).mono ?_
      rintro ee w5 ⟨he, hw⟩
      rw [show [W].flatten = W from by simp, show (Crc.sum W).toNat = C from HC.out.symm] at he
      subst he
      have hb5 : Hid (Below w.heap.size w w5) := Lib.hid (by rw [← hw]; exact hb4.alloc hb4.size _)
      clear hw hb4
      go_wp2
      go_ret3
      rw [e.out]
      exact ⟨_, rfl, new_nil _ _ hb5.out⟩
end Go.Proofs.YtkbfjgmgckbogaaGreat.Fr

/-
  The walk of frame.One.
-/


namespace Go.Proofs.YtkbfjgmgckbogaaGreat.Fr
open Go.RowKit L Oct
set_option maxRecDepth 100000 in
set_option maxHeartbeats 800000 in
theorem one_any (v : Value) (l : List UInt8) (w : World) (hv : Sl w 1 v l.length (u8s l)) (hl : l.length ≤ 1000000000000) :
    Calls Tryz.prog 81 #[v] w (RetE (New w (unone l).1) (unone l).2) := by
  have hlen := hv.run_len Tryz.underlying22
  have hd := decode_any v l w hv hl
  obtain ⟨p, hp⟩ : ∃ p, p = (unrec l).1 := ⟨_, rfl⟩
  obtain ⟨n, hn⟩ : ∃ n, n = (unrec l).2.1 := ⟨_, rfl⟩
  obtain ⟨e, he⟩ : ∃ e, e = (unrec l).2.2 := ⟨_, rfl⟩
  have hu : unone l = if e = 0 ∧ n ≠ l.length then ([], 3) else (p, e) := by unfold unone; rw [hp, hn, he]
  rw [← hp, ← hn, ← he] at hd
  rw [hu]
  have Hd := Lib.hid hd
  clear hd hp hn he hu hv
  by_cases h0 : e = 0
  · subst h0
    by_cases h1 : n = l.length
    · rw [if_neg (by simp [h1])]
      subst h1
      have hq : ((l.length : Int) != (l.length : Int)) = false := by simp
      go_enter Tryz.func81, Tryz.ntmps81
      go_wp2_with fail
      refine Hd.out.mono ?_
      rintro ee w1 ⟨v1, rfl, h1⟩
      have H1 := Lib.hid h1
      clear h1
      go_wp2
      go_ret2
      exact ⟨v1, rfl, H1.out⟩
    · rw [if_pos ⟨rfl, h1⟩]
      have hq : ((n : Int) != (l.length : Int)) = true := by simp; omega
      clear h1
      go_enter Tryz.func81, Tryz.ntmps81
      go_wp2_with fail
      refine Hd.out.mono ?_
      rintro ee w1 ⟨v1, rfl, h1⟩
      have H1 := Lib.hid h1.2
      clear h1
      go_wp2
      go_ret2
      exact ⟨_, rfl, new_nil _ _ H1.out⟩
  · rw [if_neg (by simp [h0])]
    have hq : ((e : Int) == 0) = false := by simp; omega
    clear h0
    go_enter Tryz.func81, Tryz.ntmps81
    go_wp2_with fail
    refine Hd.out.mono ?_
    rintro ee w1 ⟨v1, rfl, h1⟩
    have H1 := Lib.hid h1
    clear h1
    go_wp2
    go_ret2
    exact ⟨v1, rfl, H1.out⟩
end Go.Proofs.YtkbfjgmgckbogaaGreat.Fr

/-
  The walks of frame.One and frame.Scan, and of 'rows' of the laws.
-/


namespace Go.Proofs.YtkbfjgmgckbogaaGreat.Fr
open Go.RowKit L Oct
/-- rows of bytes that a call has made -/
def NewRows (w : World) (ls : List (List UInt8)) (v' : Value) (w' : World) : Prop := SlRows w' v' ls ∧ Below w.heap.size w w'
/-- the same, owned -/
def NewOwn (w : World) (ls : List (List UInt8)) (v' : Value) (w' : World) : Prop := ∃ vs, Hold w ((Row 22 1 v' ls.length vs).sep ((Inner vs ls).sep Asrt.emp)) w'
set_option maxRecDepth 100000 in
set_option maxHeartbeats 1600000 in
theorem scan_own (v : Value) (l : List UInt8) (w : World) (hv : Sl w 1 v l.length (u8s l)) (hl : l.length ≤ 1000000000) :
    Calls Tryz.prog 61 #[v] w (RetE (NewOwn w (scan l).1) (scan l).2) := by
  have hlen := hv.run_len Tryz.underlying22
  go_enter Tryz.func61, Tryz.ntmps61
  go_wp2
  go_loopw [4, 5] (fun y i wr => ∃ (a : Nat) (vs : List Value) (ls : List (List UInt8)), a ≤ l.length ∧ i = .int .i64 a ∧ ls.length ≤ a ∧ Hid (scan l = (ls ++ (scan (l.drop a)).1, a + (scan (l.drop a)).2)) ∧
    Hold w ((Row 22 1 y ls.length vs).sep ((Inner vs ls).sep Asrt.emp)) wr) (fun _ i _ => l.length - (intOf i).toNat)
  case atStart => exact ⟨0, [], [], Nat.zero_le _, rfl, Nat.le_refl _, Lib.hid (by simp), (Hold.start w).addInnerNil.addNil _ _⟩
  case round =>
    obtain ⟨a, vs, ls, ha, rfl, hla, HS, H⟩ := hrel
    by_cases hlt : a < l.length
    · obtain ⟨v14, hr14, hs14⟩ := cut8 hv (some (.int .i64 (a : Int))) none a l.length (.inr ⟨.i64, rfl⟩) (.inl ⟨rfl, rfl⟩) ha (Nat.le_refl _)
      obtain ⟨T, hT⟩ : ∃ T, T = l.drop a := ⟨_, rfl⟩
      have hTl : T.length = l.length - a := by rw [hT, List.length_drop]
      rw [← hT, List.take_of_length_le (by omega)] at hs14
      have hd := decode_any v14 T wr (hs14.below' H.old) (by omega)
      rw [← hT] at HS
      obtain ⟨p, hp⟩ : ∃ p, p = (unrec T).1 := ⟨_, rfl⟩
      obtain ⟨n, hn⟩ : ∃ n, n = (unrec T).2.1 := ⟨_, rfl⟩
      obtain ⟨e, he⟩ : ∃ e, e = (unrec T).2.2 := ⟨_, rfl⟩
      rw [← hp, ← hn, ← he] at hd
      have Hd := Lib.hid hd
      have HT := Lib.hid hT
      have Hp := Lib.hid hp
      have Hn := Lib.hid hn
      have He := Lib.hid he
      have HTl := Lib.hid hTl
      clear hs14 hd hT hp hn he hTl
      by_cases h0 : e = 0
      · subst h0
        have h0' : (unrec T).2.2 = 0 := He.out.symm
        obtain ⟨u1, u2, u3⟩ := unrec_step T h0'
        rw [← Hn.out] at u1 u2
        rw [← Hp.out] at u3
        have hst := scan_ok T (by intro e; have := HTl.out; rw [e] at this; simp at this; omega) h0'
        rw [← Hn.out, ← Hp.out] at hst
        have Hst := Lib.hid hst
        have hll := HTl.out
        have U3 := Lib.hid u3
        have hpl : p.length ≤ 1000000000 := by omega
        have han : a + n ≤ l.length := by omega
        have h12 : ls.length + 1 ≤ a + n := by omega
        clear hst h0' u3 hll
        go_wp2_with fail
        refine Hd.out.mono ?_
        rintro ee w1 ⟨v1, rfl, h1⟩
        obtain ⟨p1, c1, rfl⟩ := h1.1.shape
        have H1 := (Hold.addInner H.up2 h1.2 h1.1).up2
        clear h1
        go_wp2_with (at_builtin; refine wpList_appLit elR H1 [.slice p1 p.length c1] rfl _ _ rfl rfl rfl rfl (by simp [Value.oneCell']) (by simp; omega) (by simp; omega) ?_; intro v8 xs8 w8 X8 H8)
        have H9 : Hid (Hold w ((Row 22 1 v8 (ls ++ [p]).length (vs ++ [.slice p1 p.length c1])).sep ((Inner (vs ++ [.slice p1 p.length c1]) (ls ++ [p])).sep Asrt.emp)) w8) := Lib.hid (by
          rw [X8.out, show ls.length + [Value.slice p1 p.length c1].length = (ls ++ [p]).length from by simp] at H8
          exact H8)
        clear H8 H1 H
        go_roundw
        case rel => exact ⟨a + n, vs ++ [.slice p1 p.length c1], ls ++ [p], han, by go_num, by simp; omega, Lib.hid (by rw [HS.out, Hst.out, HT.out, List.drop_drop]; simp only [List.append_assoc, List.cons_append, List.nil_append, Prod.mk.injEq, true_and]; omega), H9.out⟩
        case measure => simp [intOf]; omega
      · have hq : ((e : Int) != 0) = true := by simp; omega
        have hst := scan_bad T (by rw [← He.out]; exact h0)
        rw [hst, List.append_nil] at HS
        clear h0 hst
        go_wp2_with fail
        refine Hd.out.mono ?_
        rintro ee w1 ⟨v1, rfl, h1⟩
        have Hf : Hid (NewOwn w ls u4 w1) := Lib.hid ⟨vs, H.keeps h1.2⟩
        clear h1 H
        go_wp2
        go_ret2
        rw [HS.out]
        exact ⟨_, rfl, Hf.out⟩
    · obtain rfl : a = l.length := by omega
      rw [List.drop_length, scan_nil, List.append_nil] at HS
      have Hf : Hid (NewOwn w ls u4 wr) := Lib.hid ⟨vs, H⟩
      clear H
      go_wp2
      go_ret2
      rw [HS.out]
      exact ⟨_, rfl, Hf.out⟩
theorem scan_any (v : Value) (l : List UInt8) (w : World) (hv : Sl w 1 v l.length (u8s l)) (hl : l.length ≤ 1000000000) :
    Calls Tryz.prog 61 #[v] w (RetE (NewRows w (scan l).1) (scan l).2) := by
  refine (scan_own v l w hv hl).mono ?_
  rintro e w' ⟨v', rfl, vs, h⟩
  exact ⟨v', rfl, h.rowsAt rfl, h.old⟩
end Go.Proofs.YtkbfjgmgckbogaaGreat.Fr

/-
  The walks of the reference of chapter 2: Four, FromFour, Encode, Decode, One, Scan.
-/

namespace Go.Proofs.YtkbfjgmgckbogaaGreat.Fr
open Go.RowKit L Oct
set_option maxHeartbeats 400000 in
theorem rfromFour_any (v : Value) (l : List UInt8) (n : Nat) (w : World) (hn : 4 ≤ l.length) (hl : n = l.length) (hsl : Sl w 1 v n (u8s l)) :
    Calls Tryz.prog 98 #[v] w fun e w' => e = .returned (.int .u32 (from4 l)) ∧ Below w.heap.size w w' := by
  subst hl
  obtain ⟨A0, x0, hA0, _, hc0, X0, hx0⟩ := hsl.at8' (P := Tryz.prog) Tryz.underlying22 Tryz.size5 0 0 rfl (by omega)
  obtain ⟨A1, x1, hA1, _, hc1, X1, hx1⟩ := hsl.at8' (P := Tryz.prog) Tryz.underlying22 Tryz.size5 1 1 rfl (by omega)
  obtain ⟨A2, x2, hA2, _, hc2, X2, hx2⟩ := hsl.at8' (P := Tryz.prog) Tryz.underlying22 Tryz.size5 2 2 rfl (by omega)
  obtain ⟨A3, x3, hA3, _, hc3, X3, hx3⟩ := hsl.at8' (P := Tryz.prog) Tryz.underlying22 Tryz.size5 3 3 rfl (by omega)
  clear hsl
  go_enter Tryz.func98, Tryz.ntmps98
  go_wp2
  go_quiet (fail)
  go_wp2
  go_ret
  refine ⟨ret_int ?_, below_drewN (Below.refl _ _) _⟩
  rw [or4, X0.out, X1.out, X2.out, X3.out]
  rfl
end Go.Proofs.YtkbfjgmgckbogaaGreat.Fr
