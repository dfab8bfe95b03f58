/-
  Part 6 of the texts that the proofs of this seat stand on: contracts of functions and plain lemmas, one text behind the other. Conditions: those that each theorem states.
-/
import Derived.Laws.StructEq
import Derived.WalkKit
import Derived.Lib.SmallJoins
import Derived.Deep.RegionHeld3
import Derived.Deep.DeepCutAuto
import Derived.Test.YtbepbbjeieafhaaM5
/-
  The walk of frame.Decode.
-/

namespace Go.Proofs.Ytbepbbjeieafhaa.Fr
open Go.RowKit L Oct
/-- bytes cut: from a place on, up to another one -/
theorem cut8 {w : World} {v : Value} {l : List UInt8} (h : Sl w 1 v l.length (u8s l)) (lo hi : Option Value) (a m : Nat)
    (hlo : (lo = none ∧ a = 0) ∨ ∃ k, lo = some (.int k a)) (hhi : (hi = none ∧ m = l.length) ∨ ∃ k, hi = some (.int k m)) (h1 : a ≤ m) (h2 : m ≤ l.length) :
    ∃ v', (∀ w' : World, (Instr.slice 24 v lo hi none).run Try.prog w' = .ok v' w') ∧ Sl w 1 v' ((l.drop a).take (m - a)).length (u8s ((l.drop a).take (m - a))) := by
  obtain ⟨v', h3, h4, _⟩ := run_slice_sl (P := Try.prog) h Try.underlying24 Try.size5 lo hi a m hlo hhi h1 h2
  refine ⟨v', h3, ?_⟩
  have e1 : ((l.drop a).take (m - a)).length = m - a := by rw [List.length_take, List.length_drop]; omega
  rw [e1]
  simpa [u8s, List.map_drop, List.map_take] using h4
/-- a value, a number and an error -/
def Ret3 (R : Value → World → Prop) (n z : Int) (e : Ending) (w' : World) : Prop := ∃ v, e = .returned (.tuple #[v, .int .i64 n, .int .i64 z]) ∧ R v w'
/-- new bytes -/
def New (w : World) (p : List UInt8) (v' : Value) (w' : World) : Prop := Own w' w.heap.size 5 1 v' p.length (u8s p) ∧ Below w.heap.size w w'
theorem new_nil (w w' : World) (h : Below w.heap.size w w') : New w [] (.slice none 0 0) w' := ⟨Own.nil _ _ _ _, h⟩
set_option maxRecDepth 100000 in
set_option maxHeartbeats 1600000 in
theorem decode_any (v : Value) (l : List UInt8) (w : World) (hv : Sl w 1 v l.length (u8s l)) (hl : l.length ≤ 1000000000000) :
    Calls Try.prog 71 #[v] w (Ret3 (New w (unrec l).1) (unrec l).2.1 (unrec l).2.2) := by
  have hlen := hv.run_len Try.underlying24
  obtain ⟨N, hN⟩ : ∃ N, N = from4 l := ⟨_, rfl⟩
  have hNl : N < 4294967296 := by rw [hN]; exact from4_lt l
  by_cases h1 : l.length < 8
  · have e : unrec l = ([], 0, 2) := by unfold unrec; rw [if_pos h1]
    rw [e]
    clear e hN hNl
    show Calls Try.prog 71 #[v] w (Ret3 (New w []) 0 2)
    go_enter Try.func71, Try.ntmps71
    go_wp2
    go_ret3
    exact ⟨_, rfl, new_nil _ _ (Below.refl _ _)⟩
  obtain ⟨v8, hr8, hs8⟩ := cut8 hv none (some (.int .i64 8)) 0 8 (.inl ⟨rfl, rfl⟩) (.inr ⟨.i64, rfl⟩) (by omega) (by omega)
  rw [List.drop_zero, show 8 - 0 = 8 from rfl] at hs8
  by_cases h2 : l.take 8 ≠ head N
  · have e : unrec l = ([], 0, 4) := by unfold unrec; rw [if_neg h1, ← hN, if_pos h2]
    rw [e]
    clear e
    show Calls Try.prog 71 #[v] w (Ret3 (New w []) 0 4)
    have hd2 : decide (l.take 8 = head N) = false := by simpa using h2
    have Hd2 := Lib.hid hd2
    have HN := Lib.hid hN
    have Hs8 := Lib.hid hs8
    clear hd2 hN hs8 h2
    go_enter Try.func71, Try.ntmps71
    go_wp2_with fail
    refine (fromFour_any v l l.length w (by omega) rfl hv).mono ?_
    rintro e w1 ⟨he, hb1⟩
    rw [← HN.out] at he
    subst he
    go_wp2_with fail
    go_region_with (first
      | (go_at_call 63; refine (headOf_any N hNl _).mono ?_; rintro e w2 ⟨v2, rfl, ho2, hb2⟩; have hb12 := hb1.drew.trans (hb2.mono hb1.drew.size))
      | (go_at_call 48; refine (equal_any v8 v2 (l.take 8) (head N) _ (Hs8.out.below' hb12) ho2.sl).mono ?_; rintro e w3 ⟨rfl, rfl⟩; rw [Hd2.out]))
    all_goals
      have Hb := Lib.hid hb12
      clear hb12 hb2 hb1 ho2
      go_wp2
      go_ret3
      exact ⟨_, rfl, new_nil _ _ Hb.out⟩
  have h2' : l.take 8 = head N := by simpa using h2
  have hd2 : decide (l.take 8 = head N) = true := by simp [h2']
  have Hd2 := Lib.hid hd2
  have HN := Lib.hid hN
  have Hs8 := Lib.hid hs8
  have H2 := Lib.hid h2
  have hv0 := hv
  have Hv := Lib.hid hv0
  clear hd2 hN hs8 h2 h2' hv0
  by_cases h3 : 1048576 < N
  · have e : Hid (unrec l = ([], 0, 5)) := Lib.hid (by unfold unrec; rw [if_neg h1, ← HN.out, if_neg H2.out, if_pos h3])
    go_enter Try.func71, Try.ntmps71
    go_wp2_with fail
    refine (fromFour_any v l l.length w (by omega) rfl hv).mono ?_
    rintro ee w1 ⟨he, hb1⟩
    rw [← HN.out] at he
    subst he
    go_wp2_with fail
    go_region_with (first
      | (go_at_call 63; refine (headOf_any N hNl _).mono ?_; rintro ee w2 ⟨v2, rfl, ho2, hb2⟩; have hb12 := hb1.drew.trans (hb2.mono hb1.drew.size))
      | (go_at_call 48; refine (equal_any v8 v2 (l.take 8) (head N) _ (Hs8.out.below' hb12) ho2.sl).mono ?_; rintro ee w3 ⟨rfl, rfl⟩; rw [Hd2.out]))
    all_goals
      have Hb := Lib.hid hb12
      clear hb12 hb2 hb1 ho2
      go_wp2
      go_ret3
      rw [e.out]
      exact ⟨_, rfl, new_nil _ _ Hb.out⟩
  by_cases h4 : l.length < 12 + N
  · have e : Hid (unrec l = ([], 0, 2)) := Lib.hid (by unfold unrec; rw [if_neg h1, ← HN.out, if_neg H2.out, if_neg h3, if_pos h4])
    have h4' : (l.length : Int) - 8 - 4 < (N : Int) := by omega
    go_enter Try.func71, Try.ntmps71
    go_wp2_with fail
    refine (fromFour_any v l l.length w (by omega) rfl hv).mono ?_
    rintro ee w1 ⟨he, hb1⟩
    rw [← HN.out] at he
    subst he
    go_wp2_with fail
    go_region_with (first
      | (go_at_call 63; refine (headOf_any N hNl _).mono ?_; rintro ee w2 ⟨v2, rfl, ho2, hb2⟩; have hb12 := hb1.drew.trans (hb2.mono hb1.drew.size))
      | (go_at_call 48; refine (equal_any v8 v2 (l.take 8) (head N) _ (Hs8.out.below' hb12) ho2.sl).mono ?_; rintro ee w3 ⟨rfl, rfl⟩; rw [Hd2.out]))
    all_goals
      have Hb := Lib.hid hb12
      clear hb12 hb2 hb1 ho2
      go_wp2
      go_ret3
      rw [e.out]
      exact ⟨_, rfl, new_nil _ _ Hb.out⟩
  have h4' : ¬ ((l.length : Int) - 8 - 4 < (N : Int)) := by omega
  obtain ⟨W, hW⟩ : ∃ W, W = l.take (8 + N) := ⟨_, rfl⟩
  have hWl : W.length = 8 + N := by rw [hW, List.length_take]; omega
  obtain ⟨v10, hr10, hs10⟩ := cut8 hv none (some (.int .i64 (8 + (N : Int)))) 0 (8 + N) (.inl ⟨rfl, rfl⟩) (.inr ⟨.i64, by rw [Int.natCast_add]; rfl⟩) (by omega) (by omega)
  rw [List.drop_zero, Nat.sub_zero, ← hW] at hs10
  obtain ⟨v12, hr12, hs12⟩ := cut8 hv (some (.int .i64 (W.length : Int))) none W.length l.length (.inr ⟨.i64, rfl⟩) (.inl ⟨rfl, rfl⟩) (by omega) (Nat.le_refl _)
  obtain ⟨v13, hr13, hs13⟩ := cut8 hs10 (some (.int .i64 8)) none 8 W.length (.inr ⟨.i64, rfl⟩) (.inl ⟨rfl, rfl⟩) (by omega) (Nat.le_refl _)
  have hlen10 := hs10.run_len Try.underlying24
  obtain ⟨T, hT⟩ : ∃ T, T = l.drop W.length := ⟨_, rfl⟩
  rw [← hT, List.take_of_length_le (by rw [hT, List.length_drop]; omega)] at hs12
  have hTl : 4 ≤ T.length := by rw [hT, List.length_drop]; omega
  have e13 : (W.drop 8).take (W.length - 8) = (l.drop 8).take N := by
    rw [hW, List.drop_take, List.take_take]
    congr 1
    rw [← hW, hWl]; omega
  rw [e13] at hs13
  have ep : ((l.drop 8).take N).length = N := by rw [List.length_take, List.length_drop]; omega
  obtain ⟨C, hC⟩ : ∃ C, C = crc W := ⟨_, rfl⟩
  obtain ⟨M, hM⟩ : ∃ M, M = from4 T := ⟨_, rfl⟩
  obtain ⟨p10, c10, rfl⟩ := hs10.shape
  have e : Hid (unrec l = if M ≠ C then ([], 0, 4) else ((l.drop 8).take N, 12 + N, 0)) := Lib.hid (by
    unfold unrec
    rw [if_neg h1, ← HN.out, if_neg H2.out, if_neg h3, if_neg h4, hM, hC, hT, hW, List.length_take, Nat.min_eq_left (by omega)])
  have HW := Lib.hid hW
  have HWl := Lib.hid hWl
  have HT := Lib.hid hT
  have HC := Lib.hid hC
  have HM := Lib.hid hM
  have Hs10 := Lib.hid hs10
  have Hs12 := Lib.hid hs12
  have Hs13 := Lib.hid hs13
  have Hep := Lib.hid ep
  have hWm : W.length ≤ 100000000 := by omega
  clear hW hWl hT hC hM hs10 hs12 hs13 e13 ep
  by_cases h5 : M = C
  · have e5 : ((M : Int) != (C : Int)) = false := by simp [h5]
    rw [if_neg (by simpa using h5)] at e
    clear h5
    go_enter Try.func71, Try.ntmps71
    go_wp2_with fail
    refine (fromFour_any v l l.length w (by omega) rfl hv).mono ?_
    rintro ee w1 ⟨he, hb1⟩
    rw [← HN.out] at he
    subst he
    go_wp2_with fail
    go_region_with (first
      | (go_at_call 63; refine (headOf_any N hNl _).mono ?_; rintro ee w2 ⟨v2, rfl, ho2, hb2⟩; have hb12 := hb1.drew.trans (hb2.mono hb1.drew.size))
      | (go_at_call 48; refine (equal_any v8 v2 (l.take 8) (head N) _ (Hs8.out.below' hb12) ho2.sl).mono ?_; rintro ee w3 ⟨rfl, rfl⟩; rw [Hd2.out]))
    all_goals
      have Hb := Lib.hid hb12
      clear hb12 hb2 hb1 ho2
      go_wp2_with fail
      refine (fromFour_any _ T T.length _ hTl rfl (Hs12.out.below' Hb.out)).mono ?_
      rintro ee w4 ⟨he, hb4⟩
      rw [← HM.out] at he
      subst he
      have hb4 := Hb.out.trans (hb4.mono Hb.out.size)
      go_wp2_with fail
      refine (sum_at (rowsLit1 24 (Hs10.out.below' hb4) rfl)).mono ?_
      rintro ee w5 ⟨he, hw⟩
      rw [show [W].flatten = W from by simp, show (Crc.sum W).toNat = C from HC.out.symm] at he
      subst he
      have hb5 : Below w.heap.size w w5 := by rw [← hw]; exact hb4.alloc hb4.size _
      clear hw hb4
      go_wp2_with fail
      refine (clone_any _ _ _ (Hs13.out.below' hb5) (by have := Hep.out; omega)).mono ?_
      rintro ee w6 ⟨v6, rfl, ho6, hb6⟩
      have hn : Hid (New w ((l.drop 8).take N) v6 w6) := Lib.hid ⟨ho6.from fun k hk => Nat.le_trans hb5.size (ho6.lt k hk).1, hb5.trans (hb6.mono hb5.size)⟩
      clear ho6 hb6 hb5
      go_wp2
      go_ret3
      rw [e.out]
      exact ⟨v6, by have := HWl.out; rw [show (W.length : Int) + 4 = ((12 + N : Nat) : Int) from by omega]; rfl, hn.out⟩
  · have e5 : ((M : Int) != (C : Int)) = true := by simp; omega
    rw [if_pos (by simpa using h5)] at e
    clear h5
    go_enter Try.func71, Try.ntmps71
    go_wp2_with fail
    refine (fromFour_any v l l.length w (by omega) rfl hv).mono ?_
    rintro ee w1 ⟨he, hb1⟩
    rw [← HN.out] at he
    subst he
    go_wp2_with fail
    go_region_with (first
      | (go_at_call 63; refine (headOf_any N hNl _).mono ?_; rintro ee w2 ⟨v2, rfl, ho2, hb2⟩; have hb12 := hb1.drew.trans (hb2.mono hb1.drew.size))
      | (go_at_call 48; refine (equal_any v8 v2 (l.take 8) (head N) _ (Hs8.out.below' hb12) ho2.sl).mono ?_; rintro ee w3 ⟨rfl, rfl⟩; rw [Hd2.out]))
    all_goals
      have Hb := Lib.hid hb12
      clear hb12 hb2 hb1 ho2
      go_wp2_with fail
      refine (fromFour_any _ T T.length _ hTl rfl (Hs12.out.below' Hb.out)).mono ?_
      rintro ee w4 ⟨he, hb4⟩
      rw [← HM.out] at he
      subst he
      have hb4 := Hb.out.trans (hb4.mono Hb.out.size)
      go_wp2_with fail
      refine (sum_at (rowsLit1 24 (Hs10.out.below' hb4) rfl)).mono ?_
      rintro ee w5 ⟨he, hw⟩
      rw [show [W].flatten = W from by simp, show (Crc.sum W).toNat = C from HC.out.symm] at he
      subst he
      have hb5 : Hid (Below w.heap.size w w5) := Lib.hid (by rw [← hw]; exact hb4.alloc hb4.size _)
      clear hw hb4
      go_wp2
      go_ret3
      rw [e.out]
      exact ⟨_, rfl, new_nil _ _ hb5.out⟩
end Go.Proofs.Ytbepbbjeieafhaa.Fr

/-
  The walk of frame.One.
-/


namespace Go.Proofs.Ytbepbbjeieafhaa.Fr
open Go.RowKit L Oct
set_option maxRecDepth 100000 in
set_option maxHeartbeats 800000 in
theorem one_any (v : Value) (l : List UInt8) (w : World) (hv : Sl w 1 v l.length (u8s l)) (hl : l.length ≤ 1000000000000) :
    Calls Try.prog 42 #[v] w (RetE (New w (unone l).1) (unone l).2) := by
  have hlen := hv.run_len Try.underlying24
  have hd := decode_any v l w hv hl
  obtain ⟨p, hp⟩ : ∃ p, p = (unrec l).1 := ⟨_, rfl⟩
  obtain ⟨n, hn⟩ : ∃ n, n = (unrec l).2.1 := ⟨_, rfl⟩
  obtain ⟨e, he⟩ : ∃ e, e = (unrec l).2.2 := ⟨_, rfl⟩
  have hu : unone l = if e = 0 ∧ n ≠ l.length then ([], 3) else (p, e) := by unfold unone; rw [hp, hn, he]
  rw [← hp, ← hn, ← he] at hd
  rw [hu]
  have Hd := Lib.hid hd
  clear hd hp hn he hu hv
  by_cases h0 : e = 0
  · subst h0
    by_cases h1 : n = l.length
    · rw [if_neg (by simp [h1])]
      subst h1
      have hq : ((l.length : Int) != (l.length : Int)) = false := by simp
      go_enter Try.func42, Try.ntmps42
      go_wp2_with fail
      refine Hd.out.mono ?_
      rintro ee w1 ⟨v1, rfl, h1⟩
      have H1 := Lib.hid h1
      clear h1
      go_wp2
      go_ret2
      exact ⟨v1, rfl, H1.out⟩
    · rw [if_pos ⟨rfl, h1⟩]
      have hq : ((n : Int) != (l.length : Int)) = true := by simp; omega
      clear h1
      go_enter Try.func42, Try.ntmps42
      go_wp2_with fail
      refine Hd.out.mono ?_
      rintro ee w1 ⟨v1, rfl, h1⟩
      have H1 := Lib.hid h1.2
      clear h1
      go_wp2
      go_ret2
      exact ⟨_, rfl, new_nil _ _ H1.out⟩
  · rw [if_neg (by simp [h0])]
    have hq : ((e : Int) == 0) = false := by simp; omega
    clear h0
    go_enter Try.func42, Try.ntmps42
    go_wp2_with fail
    refine Hd.out.mono ?_
    rintro ee w1 ⟨v1, rfl, h1⟩
    have H1 := Lib.hid h1
    clear h1
    go_wp2
    go_ret2
    exact ⟨v1, rfl, H1.out⟩
end Go.Proofs.Ytbepbbjeieafhaa.Fr

/-
  The walks of the reference of chapter 2: Four, FromFour, Encode, Decode, One, Scan.
-/

namespace Go.Proofs.Ytbepbbjeieafhaa.Fr
open Go.RowKit L Oct
set_option maxHeartbeats 400000 in
theorem rfour_any (v : Nat) (hv : v < 4294967296) (w : World) :
    Calls Try.prog 69 #[.int .u32 (v : Int)] w (RetV fun v' w' => Own w' w.heap.size 5 1 v' 4 (u8s (four v)) ∧ Below w.heap.size w w') := by
  have h0 : (0 : Int) ≤ v := by omega
  have h1 : (v : Int) < 4294967296 := by omega
  go_enter Try.func69, Try.ntmps69
  have hcs : Hid (([.int .u8 ((v : Int) % 256), .int .u8 ((v : Int) / 256 % 256), .int .u8 ((v : Int) / 65536 % 256), .int .u8 ((v : Int) / 16777216)] : List Value) = u8s (four v)) := by
    refine Lib.hid ?_
    have e1 : ((UInt8.ofNat v).toNat : Int) = (v : Int) % 256 := by rw [ofNat_toNat]; omega
    have e2 : ((UInt8.ofNat (v / 256)).toNat : Int) = (v : Int) / 256 % 256 := by rw [ofNat_toNat]; omega
    have e3 : ((UInt8.ofNat (v / 65536)).toNat : Int) = (v : Int) / 65536 % 256 := by rw [ofNat_toNat]; omega
    have e4 : ((UInt8.ofNat (v / 16777216)).toNat : Int) = (v : Int) / 16777216 := by rw [ofNat_toNat]; omega
    simp only [four, u8s, List.map_cons, List.map_nil, e1, e2, e3, e4]
  have Hv := Lib.hid hv
  clear hv
  go_wp2
  go_ret
  refine ⟨_, rfl, ?_, (Below.refl _ _).alloc (Nat.le_refl _) _⟩
  have := Own.lit w (u8s (four v)) 5 (by simp [u8s, four, maxLen])
  rw [← hcs.out] at this ⊢
  exact this
set_option maxHeartbeats 400000 in
theorem rfromFour_any (v : Value) (l : List UInt8) (n : Nat) (w : World) (hn : 4 ≤ l.length) (hl : n = l.length) (hsl : Sl w 1 v n (u8s l)) :
    Calls Try.prog 89 #[v] w fun e w' => e = .returned (.int .u32 (from4 l)) ∧ Below w.heap.size w w' := by
  subst hl
  obtain ⟨A0, x0, hA0, _, hc0, X0, hx0⟩ := hsl.at8' (P := Try.prog) Try.underlying24 Try.size5 0 0 rfl (by omega)
  obtain ⟨A1, x1, hA1, _, hc1, X1, hx1⟩ := hsl.at8' (P := Try.prog) Try.underlying24 Try.size5 1 1 rfl (by omega)
  obtain ⟨A2, x2, hA2, _, hc2, X2, hx2⟩ := hsl.at8' (P := Try.prog) Try.underlying24 Try.size5 2 2 rfl (by omega)
  obtain ⟨A3, x3, hA3, _, hc3, X3, hx3⟩ := hsl.at8' (P := Try.prog) Try.underlying24 Try.size5 3 3 rfl (by omega)
  clear hsl
  go_enter Try.func89, Try.ntmps89
  go_wp2
  go_quiet (fail)
  go_wp2
  go_ret
  refine ⟨ret_int ?_, below_drewN (Below.refl _ _) _⟩
  rw [or4, X0.out, X1.out, X2.out, X3.out]
  rfl
set_option maxRecDepth 100000 in
set_option maxHeartbeats 1600000 in
theorem rencode_any (v : Value) (F : List UInt8) (w : World) (hv : Sl w 1 v F.length (u8s F)) (hl : F.length ≤ 1048576) :
    Calls Try.prog 39 #[v] w (RetE (New w (rec_ F)) 0) := by
  have hlen := hv.run_len Try.underlying24
  have hr := rec_length F
  have HR := Lib.hid hr
  clear hr
  go_enter Try.func39, Try.ntmps39
  go_wp2_with fail
  refine (rfour_any F.length (by omega) w).mono ?_
  rintro e w1 ⟨v1, rfl, ho1, hb1⟩
  go_wp2_with fail
  refine (rsum_any v1 (four F.length) w1 ho1.sl).mono ?_
  rintro e w2 ⟨rfl, rfl⟩
  have hcl := crc_lt (four F.length)
  go_wp2_with fail
  refine (rfour_any (crc (four F.length)) hcl w1).mono ?_
  rintro e w2 ⟨v2, rfl, ho2, hb2⟩
  have H2 := (Hold.of_own ho1 hb1).keeps hb2
  have hs2 := ho2.sl
  clear hcl ho1 ho2 hb1 hb2
  go_wp2_with (first
    | (at_builtin; refine wpList_app (sx := .tmp 12) el8 H2 rfl _ rfl rfl rfl hs2 (u8s_one _) (by omega) (by omega) ?_; intro v3 xs3 w3 X3 H3; have hv3 := hv.below' H3.old)
    | (at_builtin; refine wpList_app (sx := .tmp 17) el8 H3 rfl _ rfl rfl rfl hv3 (u8s_one _) (by omega) (by omega) ?_; intro v4 xs4 w4 X4 H4))
  obtain ⟨B, hB⟩ : ∃ B, B = head F.length ++ F := ⟨_, rfl⟩
  have H5 : Hold w ((Row 5 1 v4 B.length (u8s B)).sep Asrt.emp) w4 := by
    have e : xs4 = u8s B := by rw [X4.out, X3.out, hB, head, u8s_append, u8s_append]
    rw [e, show 4 + 4 + F.length = B.length from by rw [hB, List.length_append, head_length]] at H4
    exact H4
  have hBl : B.length = 8 + F.length := by rw [hB, List.length_append, head_length]
  have HB := Lib.hid hB
  have HBl := Lib.hid hBl
  clear hB H2 H3 H4 hs2 hv3 hBl
  refine (rsum_any v4 B w4 H5.sl).mono ?_
  rintro e w5 ⟨rfl, rfl⟩
  have hcl := crc_lt B
  go_wp2_with fail
  refine (rfour_any (crc B) hcl w4).mono ?_
  rintro e w5 ⟨v5, rfl, ho5, hb5⟩
  have H6 := H5.keeps hb5
  have hs5 := ho5.sl
  clear hcl ho5 hb5 H5
  go_wp2_with (at_builtin; refine wpList_app (sx := .tmp 20) el8 H6 rfl _ rfl rfl rfl hs5 (u8s_one _) (by have := HBl.out; omega) (by have := HBl.out; omega) ?_; intro v7 xs7 w7 X7 H7)
  have Hf : Hid (New w (rec_ F) v7 w7) := Lib.hid (by
    have e : xs7 = u8s (rec_ F) := by rw [X7.out, rec_, HB.out, u8s_append (head F.length ++ F)]
    rw [e, show B.length + 4 = (rec_ F).length from by have := HR.out; have := HBl.out; omega] at H7
    exact H7.fin)
  clear H6 H7 hs5
  go_ret2
  exact ⟨_, rfl, Hf.out⟩
end Go.Proofs.Ytbepbbjeieafhaa.Fr

/-
  The walks of the reference of chapter 2: Decode, One.
-/

namespace Go.Proofs.Ytbepbbjeieafhaa.Fr
open Go.RowKit L Oct
set_option maxRecDepth 100000 in
set_option maxHeartbeats 3200000 in
theorem rdecode_any (v : Value) (l : List UInt8) (w : World) (hv : Sl w 1 v l.length (u8s l)) (hl : l.length ≤ 1000000000000) :
    Calls Try.prog 77 #[v] w (Ret3 (New w (unrec l).1) (unrec l).2.1 (unrec l).2.2) := by
  have hlen := hv.run_len Try.underlying24
  obtain ⟨N, hN⟩ : ∃ N, N = from4 l := ⟨_, rfl⟩
  have hNl : N < 4294967296 := by rw [hN]; exact from4_lt l
  by_cases h1 : l.length < 8
  · have e : Hid (unrec l = ([], 0, 2)) := Lib.hid (by unfold unrec; rw [if_pos h1])
    clear hN hNl
    go_enter Try.func77, Try.ntmps77
    go_wp2
    go_ret3
    rw [e.out]
    exact ⟨_, rfl, new_nil _ _ (Below.refl _ _)⟩
  obtain ⟨v10, hr10, hs10⟩ := cut8 hv (some (.int .i64 4)) none 4 l.length (.inr ⟨.i64, rfl⟩) (.inl ⟨rfl, rfl⟩) (by omega) (Nat.le_refl _)
  obtain ⟨v13, hr13, hs13⟩ := cut8 hv none (some (.int .i64 4)) 0 4 (.inl ⟨rfl, rfl⟩) (.inr ⟨.i64, rfl⟩) (by omega) (by omega)
  obtain ⟨T4, hT4⟩ : ∃ T, T = l.drop 4 := ⟨_, rfl⟩
  obtain ⟨B4, hB4⟩ : ∃ B, B = l.take 4 := ⟨_, rfl⟩
  rw [← hT4, List.take_of_length_le (by rw [hT4, List.length_drop]; omega)] at hs10
  rw [List.drop_zero, show 4 - 0 = 4 from rfl, ← hB4] at hs13
  have hT4l : 4 ≤ T4.length := by rw [hT4, List.length_drop]; omega
  obtain ⟨M1, hM1⟩ : ∃ M, M = from4 T4 := ⟨_, rfl⟩
  obtain ⟨C1, hC1⟩ : ∃ C, C = crc B4 := ⟨_, rfl⟩
  have hiff := head_iff l (by omega)
  rw [← hT4, ← hB4, ← hM1, ← hC1, ← hN] at hiff
  have HN := Lib.hid hN
  have HM1 := Lib.hid hM1
  have HC1 := Lib.hid hC1
  have Hs10 : Hid (Sl w.drew 1 v10 T4.length (u8s T4)) := Lib.hid hs10.drew
  have Hs13 : Hid (Sl w.drew 1 v13 B4.length (u8s B4)) := Lib.hid hs13.drew
  clear hN hM1 hC1 hs10 hs13 hT4 hB4
  by_cases h2 : M1 = C1
  case neg =>
    have e : Hid (unrec l = ([], 0, 4)) := Lib.hid (by unfold unrec; rw [if_neg h1, ← HN.out, if_pos (fun x => h2 (hiff.1 x))])
    have e1 : ((M1 : Int) != (C1 : Int)) = true := by simp; omega
    clear h2 hiff
    go_enter Try.func77, Try.ntmps77
    go_wp2_with fail
    go_region_with (first
      | (go_at_call 89; refine (rfromFour_any v10 T4 T4.length _ hT4l rfl Hs10.out).mono ?_; rintro ee w2 ⟨he, hb2⟩; rw [← HM1.out] at he; subst he)
      | (go_at_call 70; refine (rsum_any v13 B4 _ (Hs13.out.below' hb2)).mono ?_; rintro ee w3 ⟨he, hw3⟩; rw [show (Crc.sum B4).toNat = C1 from HC1.out.symm] at he; subst he; subst hw3))
    all_goals
      have hbw := ((Below.refl w.heap.size w).drew).trans hb2
      have Hb := Lib.hid hbw
      clear hbw hb2
      go_wp2
      go_ret3
      rw [e.out]
      exact ⟨_, rfl, new_nil _ _ Hb.out⟩
  have e1 : ((M1 : Int) != (C1 : Int)) = false := by simp [h2]
  have H2 := Lib.hid (hiff.2 h2)
  clear h2 hiff
  by_cases h3 : 1048576 < N
  · have e : Hid (unrec l = ([], 0, 5)) := Lib.hid (by unfold unrec; rw [if_neg h1, ← HN.out, if_neg (by simp [H2.out]), if_pos h3])
    go_enter Try.func77, Try.ntmps77
    go_wp2_with fail
    go_region_with (first
      | (go_at_call 89; refine (rfromFour_any v10 T4 T4.length _ hT4l rfl Hs10.out).mono ?_; rintro ee w2 ⟨he, hb2⟩; rw [← HM1.out] at he; subst he)
      | (go_at_call 70; refine (rsum_any v13 B4 _ (Hs13.out.below' hb2)).mono ?_; rintro ee w3 ⟨he, hw3⟩; rw [show (Crc.sum B4).toNat = C1 from HC1.out.symm] at he; subst he; subst hw3))
    all_goals
      have hbw := ((Below.refl w.heap.size w).drew).trans hb2
      go_wp2_with fail
      refine (rfromFour_any v l l.length _ (by omega) rfl (hv.below' hbw)).mono ?_
      rintro ee w4 ⟨he, hb4⟩
      rw [← HN.out] at he
      subst he
      have hb4 := hbw.trans (hb4.mono hbw.size)
      clear hbw hb2
      have Hb := Lib.hid hb4
      clear hb4
      go_wp2
      go_ret3
      rw [e.out]
      exact ⟨_, rfl, new_nil _ _ Hb.out⟩
  by_cases h4 : l.length < 12 + N
  · have e : Hid (unrec l = ([], 0, 2)) := Lib.hid (by unfold unrec; rw [if_neg h1, ← HN.out, if_neg (by simp [H2.out]), if_neg h3, if_pos h4])
    have h4' : (l.length : Int) < 12 + (N : Int) := by omega
    go_enter Try.func77, Try.ntmps77
    go_wp2_with fail
    go_region_with (first
      | (go_at_call 89; refine (rfromFour_any v10 T4 T4.length _ hT4l rfl Hs10.out).mono ?_; rintro ee w2 ⟨he, hb2⟩; rw [← HM1.out] at he; subst he)
      | (go_at_call 70; refine (rsum_any v13 B4 _ (Hs13.out.below' hb2)).mono ?_; rintro ee w3 ⟨he, hw3⟩; rw [show (Crc.sum B4).toNat = C1 from HC1.out.symm] at he; subst he; subst hw3))
    all_goals
      have hbw := ((Below.refl w.heap.size w).drew).trans hb2
      go_wp2_with fail
      refine (rfromFour_any v l l.length _ (by omega) rfl (hv.below' hbw)).mono ?_
      rintro ee w4 ⟨he, hb4⟩
      rw [← HN.out] at he
      subst he
      have hb4 := hbw.trans (hb4.mono hbw.size)
      clear hbw hb2
      have Hb := Lib.hid hb4
      clear hb4
      go_wp2
      go_ret3
      rw [e.out]
      exact ⟨_, rfl, new_nil _ _ Hb.out⟩
  have h4' : ¬ ((l.length : Int) < 12 + (N : Int)) := by omega
  obtain ⟨v29, hr29, hs29⟩ := cut8 hv (some (.int .i64 (8 + (N : Int)))) none (8 + N) l.length (.inr ⟨.i64, by rw [Int.natCast_add]; rfl⟩) (.inl ⟨rfl, rfl⟩) (by omega) (Nat.le_refl _)
  obtain ⟨v34, hr34, hs34⟩ := cut8 hv none (some (.int .i64 (8 + (N : Int)))) 0 (8 + N) (.inl ⟨rfl, rfl⟩) (.inr ⟨.i64, by rw [Int.natCast_add]; rfl⟩) (by omega) (by omega)
  obtain ⟨v41, hr41, hs41⟩ := cut8 hv (some (.int .i64 8)) (some (.int .i64 (8 + (N : Int)))) 8 (8 + N) (.inr ⟨.i64, rfl⟩) (.inr ⟨.i64, by rw [Int.natCast_add]; rfl⟩) (by omega) (by omega)
  rw [show 8 + N - 8 = N from by omega] at hs41
  obtain ⟨T, hT⟩ : ∃ T, T = l.drop (8 + N) := ⟨_, rfl⟩
  obtain ⟨W, hW⟩ : ∃ W, W = l.take (8 + N) := ⟨_, rfl⟩
  rw [← hT, List.take_of_length_le (by rw [hT, List.length_drop]; omega)] at hs29
  rw [List.drop_zero, Nat.sub_zero, ← hW] at hs34
  have hTl : 4 ≤ T.length := by rw [hT, List.length_drop]; omega
  obtain ⟨C, hC⟩ : ∃ C, C = crc W := ⟨_, rfl⟩
  obtain ⟨M, hM⟩ : ∃ M, M = from4 T := ⟨_, rfl⟩
  obtain ⟨p, hp⟩ : ∃ p, p = (l.drop 8).take N := ⟨_, rfl⟩
  rw [← hp] at hs41
  have hpl : p.length = N := by rw [hp, List.length_take, List.length_drop]; omega
  have e : Hid (unrec l = if M ≠ C then ([], 0, 4) else (p, 12 + N, 0)) := Lib.hid (by
    unfold unrec
    rw [if_neg h1, ← HN.out, if_neg (by simp [H2.out]), if_neg h3, if_neg h4, hM, hC, hT, hW, hp])
  have HC := Lib.hid hC
  have HM := Lib.hid hM
  have Hs29 := Lib.hid hs29
  have Hs34 := Lib.hid hs34
  have Hs41 := Lib.hid hs41
  have Hpl := Lib.hid hpl
  clear hT hW hC hM hp hs29 hs34 hs41 hpl
  by_cases h5 : M = C
  · have e5 : ((M : Int) != (C : Int)) = false := by simp [h5]
    rw [if_neg (by simpa using h5)] at e
    clear h5
    go_enter Try.func77, Try.ntmps77
    go_wp2_with fail
    go_region_with (first
      | (go_at_call 89; refine (rfromFour_any v10 T4 T4.length _ hT4l rfl Hs10.out).mono ?_; rintro ee w2 ⟨he, hb2⟩; rw [← HM1.out] at he; subst he)
      | (go_at_call 70; refine (rsum_any v13 B4 _ (Hs13.out.below' hb2)).mono ?_; rintro ee w3 ⟨he, hw3⟩; rw [show (Crc.sum B4).toNat = C1 from HC1.out.symm] at he; subst he; subst hw3))
    all_goals
      have hbw := ((Below.refl w.heap.size w).drew).trans hb2
      go_wp2_with fail
      refine (rfromFour_any v l l.length _ (by omega) rfl (hv.below' hbw)).mono ?_
      rintro ee w4 ⟨he, hb4⟩
      rw [← HN.out] at he
      subst he
      have hb4 := hbw.trans (hb4.mono hbw.size)
      clear hbw hb2
      go_wp2_with fail
      have hb4d := hb4.drew
      have hwr : IntKind.i64.wrap (8 + (N : Int)) = 8 + (N : Int) := IntWalk.i64_in _ (by omega)
      go_region_with (first
        | (go_at_call 89; refine (rfromFour_any v29 T T.length _ hTl rfl (Hs29.out.below' hb4d)).mono ?_; rintro ee w5 ⟨he, hb5⟩; rw [← HM.out] at he; subst he; have hb45 := hb4d.trans (hb5.mono hb4d.size))
        | (go_at_call 70; refine (rsum_any v34 W _ (Hs34.out.below' hb45)).mono ?_; rintro ee w6 ⟨he, hw6⟩; rw [show (Crc.sum W).toNat = C from HC.out.symm] at he; subst he; subst hw6))
      all_goals
        clear hwr
        have H0 := ((Hold.start w).keeps hb45).addEmpty 5
        have hs := (Hs41.out.below' H0.old)
        go_wp2_with (at_builtin; refine wpList_app el8 H0 rfl _ _ rfl rfl rfl hs (u8s_one _) (by have := Hpl.out; omega) (by have := Hpl.out; omega) ?_; intro v7 xs7 w7 X7 H7)
        have Hf : Hid (New w p v7 w7) := Lib.hid (by
          rw [X7.out, List.nil_append, Nat.zero_add] at H7
          exact H7.fin)
        clear H0 H7 hs hb45 hb4d
        go_ret3
        rw [e.out]
        exact ⟨_, rfl, Hf.out⟩
  · have e5 : ((M : Int) != (C : Int)) = true := by simp; omega
    rw [if_pos (by simpa using h5)] at e
    clear h5
    go_enter Try.func77, Try.ntmps77
    go_wp2_with fail
    go_region_with (first
      | (go_at_call 89; refine (rfromFour_any v10 T4 T4.length _ hT4l rfl Hs10.out).mono ?_; rintro ee w2 ⟨he, hb2⟩; rw [← HM1.out] at he; subst he)
      | (go_at_call 70; refine (rsum_any v13 B4 _ (Hs13.out.below' hb2)).mono ?_; rintro ee w3 ⟨he, hw3⟩; rw [show (Crc.sum B4).toNat = C1 from HC1.out.symm] at he; subst he; subst hw3))
    all_goals
      have hbw := ((Below.refl w.heap.size w).drew).trans hb2
      go_wp2_with fail
      refine (rfromFour_any v l l.length _ (by omega) rfl (hv.below' hbw)).mono ?_
      rintro ee w4 ⟨he, hb4⟩
      rw [← HN.out] at he
      subst he
      have hb4 := hbw.trans (hb4.mono hbw.size)
      clear hbw hb2
      go_wp2_with fail
      have hb4d := hb4.drew
      have hwr : IntKind.i64.wrap (8 + (N : Int)) = 8 + (N : Int) := IntWalk.i64_in _ (by omega)
      go_region_with (first
        | (go_at_call 89; refine (rfromFour_any v29 T T.length _ hTl rfl (Hs29.out.below' hb4d)).mono ?_; rintro ee w5 ⟨he, hb5⟩; rw [← HM.out] at he; subst he; have hb45 := hb4d.trans (hb5.mono hb4d.size))
        | (go_at_call 70; refine (rsum_any v34 W _ (Hs34.out.below' hb45)).mono ?_; rintro ee w6 ⟨he, hw6⟩; rw [show (Crc.sum W).toNat = C from HC.out.symm] at he; subst he; subst hw6))
      all_goals
        clear hwr
        have Hb := Lib.hid hb45
        clear hb45 hb5 hb4 hb4d
        go_wp2
        go_ret3
        rw [e.out]
        exact ⟨_, rfl, new_nil _ _ Hb.out⟩
set_option maxRecDepth 100000 in
set_option maxHeartbeats 800000 in
theorem rone_any (v : Value) (l : List UInt8) (w : World) (hv : Sl w 1 v l.length (u8s l)) (hl : l.length ≤ 1000000000000) :
    Calls Try.prog 49 #[v] w (RetE (New w (unone l).1) (unone l).2) := by
  have hlen := hv.run_len Try.underlying24
  have hd := rdecode_any v l w hv hl
  have hbad : (unrec l).2.2 ≠ 0 → (unrec l).1 = [] := fun h => (unrec_bad l h).1
  obtain ⟨p, hp⟩ : ∃ p, p = (unrec l).1 := ⟨_, rfl⟩
  obtain ⟨n, hn⟩ : ∃ n, n = (unrec l).2.1 := ⟨_, rfl⟩
  obtain ⟨e, he⟩ : ∃ e, e = (unrec l).2.2 := ⟨_, rfl⟩
  have hu : unone l = if e = 0 ∧ n ≠ l.length then ([], 3) else (p, e) := by unfold unone; rw [hp, hn, he]
  rw [← hp, ← hn, ← he] at hd
  rw [← hp, ← he] at hbad
  rw [hu]
  have Hd := Lib.hid hd
  have Hbad := Lib.hid hbad
  clear hd hp hn he hu hv hbad
  by_cases h0 : e = 0
  · subst h0
    by_cases h1 : n = l.length
    · rw [if_neg (by simp [h1])]
      subst h1
      have hq : ((l.length : Int) != (l.length : Int)) = false := by simp
      go_enter Try.func49, Try.ntmps49
      go_wp2_with fail
      refine Hd.out.mono ?_
      rintro ee w1 ⟨v1, rfl, h1⟩
      have H1 := Lib.hid h1
      clear h1
      go_wp2
      go_ret2
      exact ⟨v1, rfl, H1.out⟩
    · rw [if_pos ⟨rfl, h1⟩]
      have hq : ((n : Int) != (l.length : Int)) = true := by simp; omega
      clear h1
      go_enter Try.func49, Try.ntmps49
      go_wp2_with fail
      refine Hd.out.mono ?_
      rintro ee w1 ⟨v1, rfl, h1⟩
      have H1 := Lib.hid h1.2
      clear h1
      go_wp2
      go_ret2
      exact ⟨_, rfl, new_nil _ _ H1.out⟩
  · rw [if_neg (by simp [h0]), Hbad.out h0]
    have hq : ((e : Int) == 0) = false := by simp; omega
    have hq2 : ((e : Int) != 0) = true := by simp; omega
    clear h0
    go_enter Try.func49, Try.ntmps49
    go_wp2_with fail
    refine Hd.out.mono ?_
    rintro ee w1 ⟨v1, rfl, h1⟩
    have H1 := Lib.hid h1.2
    clear h1
    go_wp2
    go_ret2
    exact ⟨_, rfl, new_nil _ _ H1.out⟩
end Go.Proofs.Ytbepbbjeieafhaa.Fr

/-
  Are two cells alike: '==' and '!=' of api.Cell.
-/




namespace Go.Proofs.Ytbepbbjeieafhaa.Bl
open Go.RowKit L
/-- are cells alike? -/
def eqC (a b : Cl) : Bool := (a.key.toList == b.key.toList) && (a.val.toList == b.val.toList) && (a.del == b.del) && (a.seq == b.seq)
theorem eqC_iff {a b : Cl} : eqC a b = true ↔ a = b := by
  obtain ⟨a1, a2, a3, a4⟩ := a
  obtain ⟨b1, b2, b3, b4⟩ := b
  have inj : ∀ {x y : ByteArray}, x.toList = y.toList → x = y := fun {x y} h => by
    rw [ByteArray.toList_eq, ByteArray.toList_eq] at h
    exact ByteArray.ext (Array.toList_inj.1 h)
  constructor
  · intro h
    simp only [eqC, Bool.and_eq_true, beq_iff_eq] at h
    obtain ⟨⟨⟨h1, h2⟩, h3⟩, h4⟩ := h
    rw [inj h1, inj h2, h3, h4]
  · intro h
    simp only [Cl.mk.injEq] at h
    obtain ⟨rfl, rfl, rfl, rfl⟩ := h
    simp [eqC]
theorem eqC_self (a : Cl) : eqC a a = true := eqC_iff.2 rfl
set_option maxRecDepth 100000 in
theorem run_eqIn (a b : Cl) (w : World) : (Op.equalIn 10000 39 a.agg b.agg).run Try.prog w = .ok (eqC a b) w := by
  have hp : Try.prog.stoodInHeld 39 = false := by kernel_rfl
  have ht : Try.prog.underlying 39 = some (.struct (Try.prog.fieldsOf 39)) := by kernel_rfl
  have hu9 := Try.underlying9
  have hu4 := Try.underlying4
  have hu3 := Try.underlying3
  rw [Cl.agg, Cl.agg, run_equalIn_agg w 9999 39 _ _ ht hp]
  simp only [Program.fieldsOf, Try.underlying39]
  simp [Op.eqFields, go_sem, hu9, hu4, hu3]
  unfold eqC
  by_cases h1 : a.key.toList = b.key.toList <;> by_cases h2 : a.val.toList = b.val.toList <;> by_cases h3 : a.del = b.del <;> by_cases h4 : a.seq = b.seq <;> simp [h1, h2, h3, h4]
theorem run_eqC (a b : Cl) (w : World) : (binOp .eql 39 a.agg b.agg).run Try.prog w = .ok (.bool (eqC a b)) w := by
  have := run_eqIn a b w
  rw [Cl.agg, Cl.agg] at this ⊢
  rw [run_eql_struct, this]
  rfl
theorem run_neC (a b : Cl) (w : World) : (binOp .neq 39 a.agg b.agg).run Try.prog w = .ok (.bool (!eqC a b)) w := by
  have := run_eqIn a b w
  rw [Cl.agg, Cl.agg] at this ⊢
  rw [run_neq_struct, this]
  rfl
end Go.Proofs.Ytbepbbjeieafhaa.Bl

/-
  Cells that came in: one by value; a slice of them.
-/




namespace Go.Proofs.Ytbepbbjeieafhaa.Bl
open Go.RowKit Go.ChangeShapes Go.WideShapes Go.Deep L
/-- what every cell that came in is -/
def CellIn (c : Cl) : Prop := c.key.size ≤ 140737488351232 ∧ c.val.size ≤ 140737488351232 ∧ -9223372036854775808 ≤ c.seq ∧ c.seq ≤ 9223372036854775807
section
variable {H : Type} {enc : TypeId × Value → H} {W : World} {r : Reach} {b0 : Nat}
set_option maxRecDepth 100000 in
theorem trod_cell {fuel : Nat} {cs : List Value} {x : DataW H × List MemPlace} (h : DataW.trod enc Try.prog W 0 (fun _ => true) true fuel 39 cs = some x) (hr : ∀ n ∈ x.1.weights Try.prog 39, n ≤ reachBytes) :
    ∃ c : Cl, cs = c.vals ∧ CellIn c := by
  have hs := Try.underlying39
  obtain ⟨y0, y1, y2, y3, n, rfl, hlen, h0, h1, h2, h3⟩ := Joins.trod_struct4 hs h
  have hlen4 : cs.length = 4 := by rw [hlen]; kernel_rfl
  match cs, hlen4 with
  | [c0, c1, c2, c3], _ =>
    have e9 : Try.prog.cellsOf 9 = 1 := by kernel_rfl
    have e4 : Try.prog.cellsOf 4 = 1 := by kernel_rfl
    have e3 : Try.prog.cellsOf 3 = 1 := by kernel_rfl
    simp only [e9, e4, e3] at h0 h1 h2 h3
    obtain ⟨s0, k0, d0, _⟩ := DataW.trod_string Try.underlying9 h0
    obtain ⟨s1, k1, d1, _⟩ := DataW.trod_string Try.underlying9 h1
    obtain ⟨s2, k2, d2⟩ := DataW.trod_bool Try.underlying4 h2
    obtain ⟨s3, k3, d3, wf⟩ := DataW.trod_int Try.underlying3 h3
    subst d0 d1 d2 d3
    simp at k0 k1 k2 k3
    subst k0 k1 k2 k3
    simp only [DataW.weights, hs, DataW.weightsEach, List.map_cons] at hr
    have w0 := hr s0.data.toList.length (by simp)
    have w1 := hr s1.data.toList.length (by simp)
    refine ⟨⟨s0, s1, s2, s3⟩, rfl, by simpa [reachBytes] using w0, by simpa [reachBytes] using w1, ?_⟩
    simpa [Lit.wf, IntKind.min, IntKind.max, IntKind.signed, IntKind.bits] using wf
set_option maxRecDepth 100000 in
theorem arg_cell {v : Value} {d : DataW H} {ps : List MemPlace} (hval : Value.okWide Try.prog W r b0 39 v)
    (h : DataW.Trod enc Try.prog W 0 (fun _ => true) true 39 v d ps) (hr : ∀ n ∈ d.weights Try.prog 39, n ≤ reachBytes) : ∃ c : Cl, v = c.agg ∧ CellIn c := by
  obtain ⟨cs, rfl, hsz⟩ := okWide_struct Try.underlying39 hval
  obtain ⟨fuel, hf⟩ := h
  obtain ⟨c, hc, hin⟩ := trod_cell hf hr
  refine ⟨c, ?_, hin⟩
  rw [Cl.agg]
  congr 1
  apply Array.toList_inj.1
  simpa [Value.cells, Cl.vals] using hc
def unvals : List Value → Cl
  | [.string a, .string b, .bool c, .int _ d] => ⟨a, b, c, d⟩
  | _ => default
set_option maxRecDepth 100000 in
theorem arg_cells {v : Value} {d : DataW H} {ps : List MemPlace} (hval : Value.okWide Try.prog W r b0 22 v)
    (h : DataW.Trod enc Try.prog W 0 (fun _ => true) true 22 v d ps) (hr : ∀ n ∈ d.weights Try.prog 22, n ≤ reachBytes) : ∃ l : List Cl, Sl W 4 v l.length (cls l) ∧ l.length * 48 ≤ 140737488351232 ∧ ∀ c ∈ l, CellIn c := by
  obtain ⟨a0, len, cap, rfl⟩ := okWide_slice Try.underlying22 hval
  obtain ⟨fuel, hf⟩ := h
  rcases open_slice Try.underlying22 hf with ⟨hcs, _⟩ | ⟨a, len', cap', m, n, D, Pl, hcs, _, hl, hm, hmm, hx, hc⟩
  · simp [Value.cells] at hcs
    obtain ⟨rfl, rfl, rfl⟩ := hcs
    exact ⟨[], Sl.nil _ _, by simp, by simp⟩
  · simp [Value.cells] at hcs
    obtain ⟨rfl, rfl, rfl⟩ := hcs
    simp only [if_true] at hmm
    subst hmm
    simp only [Prod.mk.injEq] at hx
    obtain ⟨rfl, _⟩ := hx
    have hw := weights_slice Try.underlying22 hr
    have e4 : Try.prog.cellsOf 39 = 4 := by kernel_rfl
    have b48 : Try.prog.bytesOf 39 = 48 := by kernel_rfl
    rw [e4] at hc
    have key : ∀ i, i < len → ∃ c : Cl, (∀ j, j < 4 → W.cell? (a.add (i * 4 + j)) = some (c.vals.getD j undef)) ∧ CellIn c := by
      intro i hi
      obtain ⟨cs', h1, h2⟩ := hc i (by omega)
      obtain ⟨_, hlen, hcell⟩ := World.cells?_some h1
      obtain ⟨c, rfl, hin⟩ := trod_cell h2 (hw.2 (D i) (List.mem_map.2 ⟨i, by simpa using hi, rfl⟩))
      refine ⟨c, fun j hj => ?_, hin⟩
      have := hcell j hj
      rw [L.add_add] at this
      rw [this]
      have hl4 : j < c.vals.length := by rw [hlen]; exact hj
      simp [List.getD, List.getElem?_eq_getElem hl4]
    obtain ⟨C, hC⟩ := choose_lt (α := Cl) (p := fun i c => (∀ j, j < 4 → W.cell? (a.add (i * 4 + j)) = some (c.vals.getD j undef)) ∧ CellIn c) key
    have hll : ((List.range len).map C).length = len := by simp
    refine ⟨(List.range len).map C, ⟨by rw [cls_length], some a, _, by rw [hll], by rw [hll]; exact hl, hm, (fun h => by cases h), fun a' ha j hj => ?_⟩, ?_, fun c hcm => ?_⟩
    · cases ha
      rw [hll] at hj
      have hj4 : j / 4 < len := by omega
      have := (hC (j / 4) hj4).1 (j % 4) (by omega)
      rw [show j / 4 * 4 + j % 4 = j from by omega] at this
      rw [this]
      have hg := cls_get ((List.range len).map C) (j / 4) (j % 4) (by rw [hll]; exact hj4) (by omega)
      rw [show j / 4 * 4 + j % 4 = j from by omega] at hg
      rw [hg]
      simp [List.getD, hj4]
    · rw [hll]
      have := hw.1
      rw [b48] at this
      simp [reachBytes] at this
      omega
    · obtain ⟨i, hi, rfl⟩ := List.mem_map.1 hcm
      exact (hC i (by simpa using hi)).2
end
end Go.Proofs.Ytbepbbjeieafhaa.Bl

/-
  What chapter 8 stands on: octets, records, blocks, bits.
-/









namespace Go.Proofs.Ytbepbbjeieafhaa.Tb
open Go.RowKit L Oct
end Go.Proofs.Ytbepbbjeieafhaa.Tb

/-
  Build of chapter 8.
-/




namespace Go.Proofs.Ytbepbbjeieafhaa.Tb
open Go.RowKit L Oct Bl Fr
def sub (l : List Cl) (p : Nat × Nat) : List Cl := (l.drop p.1).take (p.2 - p.1)
/-- a block as bytes -/
def partB (l : List Cl) (p : Nat × Nat) : List UInt8 := row (byts (l.getD (p.2 - 1) default).key) ++ enc (clamp (l.getD (p.2 - 1) default).seq) ++ row (encR (sub l p))
def bodyU (l : List Cl) (k : Nat) : List UInt8 := enc (parts l).length ++ ((parts l).take k).flatMap (partB l)
def payload (l : List Cl) : List UInt8 := bodyU l (parts l).length ++ enc l.length ++ row (BloomP.make (Bloom.keysOf (keys l)))
def buildN (l : List Cl) : Nat := if l.length < 1 ∨ 4096 < l.length then 1 else riseN l
def buildR (l : List Cl) : List UInt8 := if buildN l = 0 then rec_ (payload l) else []
theorem body_succ {l : List Cl} {k : Nat} (hk : k < (parts l).length) : bodyU l (k + 1) = bodyU l k ++ partB l ((parts l).getD k (0, 0)) := by
  unfold bodyU
  rw [List.take_succ_eq_append_getElem hk, List.flatMap_append, List.append_assoc]
  simp [List.getD, hk]
theorem body_le (l : List Cl) : ∀ k, (bodyU l k).length ≤ (bodyU l (parts l).length).length := by
  intro k
  unfold bodyU
  rw [List.take_length, List.length_append, List.length_append]
  have : (((parts l).take k).flatMap (partB l)).length ≤ ((parts l).flatMap (partB l)).length := by
    conv => rhs; rw [← List.take_append_drop k (parts l)]
    rw [List.flatMap_append, List.length_append]; omega
  omega
theorem payload_le (l : List Cl) (k : Nat) : (bodyU l k).length ≤ (payload l).length := by
  have := body_le l k
  unfold payload
  simp only [List.length_append]; omega
theorem bl_from (l : List Cl) : ∀ k, (bl l (k + 1)).2.1 ≤ k
  | 0 => by simp [bl]
  | k + 1 => by
    have ih := bl_from l k
    rw [bl, if_neg (by omega)]
    split
    · exact Nat.le_refl _
    · show (bl l (k + 1)).2.1 ≤ k + 1; omega
theorem bl_in (l : List Cl) : ∀ k, ∀ p ∈ (bl l k).1, p.1 < p.2 ∧ p.2 ≤ k
  | 0, p, h => by simp [bl] at h
  | k + 1, p, h => by
    rw [bl] at h
    split at h
    · cases h
    · rename_i h0
      split at h
      · rcases List.mem_append.1 h with h | h
        · have := bl_in l k p h; omega
        · have : p = ((bl l k).2.1, k) := by simpa using h
          subst this
          obtain ⟨j, rfl⟩ : ∃ j, k = j + 1 := ⟨k - 1, by omega⟩
          have := bl_from l j
          exact ⟨by show (bl l (j + 1)).2.1 < j + 1; omega, by show j + 1 ≤ _; omega⟩
      · have := bl_in l k p h; omega
theorem parts_in (l : List Cl) : ∀ p ∈ parts l, p.1 < p.2 ∧ p.2 ≤ l.length := by
  intro p h
  unfold parts partsU at h
  split at h
  · cases h
  · rename_i h0
    rcases List.mem_append.1 h with h | h
    · exact bl_in l _ p h
    · have : p = ((bl l l.length).2.1, l.length) := by simpa using h
      subst this
      obtain ⟨j, hj⟩ : ∃ j, l.length = j + 1 := ⟨l.length - 1, by omega⟩
      rw [hj]
      have := bl_from l j
      exact ⟨by show (bl l (j + 1)).2.1 < j + 1; omega, Nat.le_refl _⟩
theorem cls_take : ∀ (l : List Cl) (n : Nat), (cls l).take (n * 4) = cls (l.take n)
  | [], n => by simp [cls]
  | c :: r, 0 => by simp [cls]
  | c :: r, n + 1 => by
    rw [show (n + 1) * 4 = n * 4 + 1 + 1 + 1 + 1 from by omega]
    simp only [cls, List.take_succ_cons, cls_take r n]
theorem cls_drop : ∀ (l : List Cl) (n : Nat), (cls l).drop (n * 4) = cls (l.drop n)
  | [], n => by simp [cls]
  | c :: r, 0 => by simp [cls]
  | c :: r, n + 1 => by
    rw [show (n + 1) * 4 = n * 4 + 1 + 1 + 1 + 1 from by omega]
    simp only [cls, List.drop_succ_cons, cls_drop r n]
theorem pvs_get : ∀ (l : List (Nat × Nat)) (k : Nat), k < l.length → (pvs l).getD (k * 2) undef = .int .i64 (l.getD k (0, 0)).1 ∧ (pvs l).getD (k * 2 + 1) undef = .int .i64 (l.getD k (0, 0)).2
  | p :: r, 0, _ => ⟨rfl, rfl⟩
  | p :: r, k + 1, hk => by
    have := pvs_get r k (by simpa using hk)
    rw [show (k + 1) * 2 = k * 2 + 1 + 1 from by omega]
    simpa [pvs, List.getD] using this
/-- a block's place, read -/
theorem parts_at {w : World} {v : Value} {ps : List (Nat × Nat)} (h : Sl w 2 v ps.length (pvs ps)) (k : Nat) (hk : k < ps.length) :
    ∃ (A : Addr) (p : Nat × Nat), (∀ w' : World, (Instr.indexAt 56 v (.int .i64 (k : Int))).run Try.prog w' = .ok (.pointer (some A)) w') ∧ w.cell? A = some (.int .i64 p.1) ∧ w.cell? ⟨A.block, A.off + 1, none⟩ = some (.int .i64 p.2) ∧ Hid (p = ps.getD k (0, 0)) := by
  obtain ⟨A, hA, hblk, hcell⟩ := run_indexAt_sl (P := Try.prog) h Try.underlying56 Try.size60 .i64 (k : Int) (by omega) (by omega)
  have h0 := hcell 0 (by omega)
  have h1 := hcell 1 (by omega)
  simp only [Int.toNat_natCast] at h0 h1
  rw [(pvs_get ps k hk).2] at h1
  rw [Nat.add_zero, (pvs_get ps k hk).1] at h0
  exact ⟨A, _, hA, h0, h1, Lib.hid rfl⟩
def RetBuild (w : World) (l : List Cl) (e : Ending) (w' : World) : Prop := ∃ v, e = .returned (.tuple #[v, .int .i64 (buildN l)]) ∧ Own w' w.heap.size 5 1 v (buildR l).length (u8s (buildR l)) ∧ Below w.heap.size w w'
set_option maxRecDepth 100000 in
set_option maxHeartbeats 3200000 in
theorem build_any (v : Value) (l : List Cl) (w : World) (h : Sl w 4 v l.length (cls l)) (hp : buildN l = 0 → (payload l).length ≤ 1048576) : Calls Try.prog 11 #[v] w (RetBuild w l) := by
  have hlen := h.run_len Try.underlying22
  have hmx := h.le'
  have hr11 := riseN_small l
  by_cases hb : l.length < 1 ∨ 4096 < l.length
  · have hN : Hid (buildN l = 1) := Lib.hid (by rw [buildN, if_pos hb])
    have hR : Hid (buildR l = []) := Lib.hid (by rw [buildR, if_neg (by rw [hN.out]; decide)])
    rcases hb with hb | hb
    · have g1 : decide ((l.length : Int) < 1) = true := by simp; omega
      go_enter Try.func11, Try.ntmps11
      go_wp2
      go_ret2
      unfold RetBuild
      rw [hN.out, hR.out]
      exact ⟨_, rfl, Own.nil _ _ _ _, Below.refl _ _⟩
    · have g1 : decide ((l.length : Int) < 1) = false := by simp; omega
      have g2 : decide ((4096 : Int) < (l.length : Int)) = true := by simp; omega
      go_enter Try.func11, Try.ntmps11
      go_wp2
      go_ret2
      unfold RetBuild
      rw [hN.out, hR.out]
      exact ⟨_, rfl, Own.nil _ _ _ _, Below.refl _ _⟩
  · have hl1 : 1 ≤ l.length := by omega
    have hl2 : l.length ≤ 4096 := by omega
    have g1 : decide ((l.length : Int) < 1) = false := by simp; omega
    have g2 : decide ((4096 : Int) < (l.length : Int)) = false := by simp; omega
    have hN : Hid (buildN l = riseN l) := Lib.hid (by rw [buildN, if_neg hb])
    clear hb
    go_enter Try.func11, Try.ntmps11
    go_wp2_with fail
    refine (Bl.encode_any v l w h (by omega)).mono ?_
    rintro e w1 ⟨v1, rfl, _, hb1⟩
    by_cases hr : riseN l = 0
    · have hz : ((riseN l : Int) != 0) = false := by simp [hr]
      have hN0 : buildN l = 0 := by rw [hN.out, hr]
      have hpl := hp hN0
      have HN0 := Lib.hid hN0
      have Hall := Lib.hid (riseN_all hr)
      clear hN hN0 hr hp
      have hsz : ∀ c ∈ l, sizeC c ≤ 1000000000 := fun c hc => by
        have := isC_key (Hall.out c hc)
        unfold sizeC; omega
      have Hplm := Lib.hid (payload_le l)
      have H1 := addWr ((Hold.start w).keeps hb1) (b := w1.heap.size) rfl
      obtain ⟨ps, hps⟩ : ∃ ps, ps = parts l := ⟨_, rfl⟩
      have Hin := Lib.hid (parts_in l)
      have hpsl : ps.length ≤ 4096 := by
        have := partsU_len l l.length
        rw [hps]; unfold parts; omega
      have hbl := blocks_any v l _ (h.below' H1.old) (by omega) hsz
      rw [← hps] at hbl Hin
      have HBL := Lib.hid hbl
      have Hps := Lib.hid hps
      clear hbl hps hsz hb1
      go_wp2_with fail
      refine HBL.out.mono ?_
      rintro e w2 ⟨v2, rfl, ho2, hb2⟩
      have H2 := (H1.addRow hb2 ho2).up2
      obtain ⟨bw, hbw⟩ : ∃ bw, bw = w1.heap.size := ⟨_, rfl⟩
      rw [← hbw] at H2 ⊢
      have hlen2 := H2.up2.sl.run_len Try.underlying56
      clear H1 ho2 hb2 HBL hbw
      go_wp2_with fail
      have H3 := (H2.addLits [.int .i64 (ps.length : Int)] 3 (by simp [maxLen]) (b := w2.heap.size) rfl).up2
      refine (nums_any H3 _ [(ps.length : Int)] Reads.row (by intro z hz; simp at hz; subst hz; omega) (by simp)).mono ?_
      rintro e w3 ⟨rfl, H4⟩
      have hcl : clamp (ps.length : Int) = ps.length := by unfold clamp; omega
      rw [show ([] : List UInt8) ++ encs [(ps.length : Int)] = bodyU l 0 from by simp only [encs, List.flatMap_cons, List.flatMap_nil, List.append_nil, List.nil_append, hcl]; rw [Hps.out]; simp [bodyU]] at H4
      have H5 := Lib.hid H4.up2.drop1
      clear H2 H3 H4 hcl
      go_wp2
      go_loopw [37] (fun i wr => ∃ k : Nat, k ≤ ps.length ∧ i = .int .i64 k ∧ Hold w ((Wr bw (bodyU l k)).sep ((Row 60 2 v2 ps.length (pvs ps)).sep Asrt.emp)) wr) (fun i _ => ps.length - (intOf i).toNat)
      case atStart => exact ⟨0, Nat.zero_le _, rfl, H5.out⟩
      case round =>
        clear H5
        obtain ⟨k, hk, rfl, H⟩ := hrel
        have hbk : (bodyU l k).length ≤ 1048576 := Nat.le_trans (Hplm.out k) hpl
        by_cases hlt : k < ps.length
        · obtain ⟨A, p, hA, c0, c1, Hp⟩ := parts_at H.up2.sl k hlt
          have hin := Hin.out p (by rw [Hp.out]; simp [List.getD, hlt])
          obtain ⟨pf, pt⟩ := p
          obtain ⟨hi1, hi2⟩ := hin
          dsimp only at hi1 hi2 c0 c1
          have HB1 := H.addBlk (cs := #[.int .i64 (pf : Int), .int .i64 (pt : Int)]) (t := 60) (b := wr.heap.size) rfl
          obtain ⟨A', c, hA', _, hcells', Hc⟩ := (h.below' HB1.old).atCl (P := Try.prog) Try.underlying22 Try.size39 (pt - 1) ((pt : Int) - 1) (by omega) (by omega)
          obtain ⟨f0, f1, f2, f3⟩ := hcells'
          have hck := isC_key (Hall.out c (by rw [Hc.out, getD_get (show pt - 1 < l.length by omega)]; exact List.getElem_mem _))
          have hsq := isC_seq (Hall.out c (by rw [Hc.out, getD_get (show pt - 1 < l.length by omega)]; exact List.getElem_mem _))
          have d1 := blk_cell HB1.blk 1
          have HB2 := HB1.addBlk (cs := #[.string c.key, .string c.val, .bool c.del, .int .i64 c.seq]) (t := 39) (b := wr.heap.size + 1) (by simp)
          have e0 := blk_cell HB2.up2.blk 0
          have e1 := blk_cell HB2.up2.blk 1
          obtain ⟨v', hr', hs', _⟩ := run_slice_sl (P := Try.prog) h Try.underlying22 Try.size39 (some (.int .i64 (pf : Int))) (some (.int .i64 (pt : Int))) pf pt (.inr ⟨.i64, rfl⟩) (.inr ⟨.i64, rfl⟩) (by omega) hi2
          obtain ⟨sl, hsl⟩ : ∃ sl, sl = sub l (pf, pt) := ⟨_, rfl⟩
          have hsll : sl.length = pt - pf := by rw [hsl]; simp [sub]; omega
          rw [cls_drop, cls_take, show (l.drop pf).take (pt - pf) = sl from hsl.symm, ← hsll] at hs'
          have hwr : IntKind.i64.wrap ((pt : Int) - 1) = (pt : Int) - 1 := IntWalk.i64_in _ (by omega)
          have h01 : (0 : Int) ≤ (pt : Int) - 1 := by omega
          have Hbody : Hid (bodyU l (k + 1) = bodyU l k ++ row (byts c.key) ++ enc (clamp c.seq) ++ row (encR sl)) := Lib.hid (by
            have hk2 : k < (parts l).length := by rw [← Hps.out]; exact hlt
            rw [body_succ hk2, ← Hps.out, ← Hp.out, partB, ← Hc.out, ← hsl]
            simp only [List.append_assoc])
          have hb2k : (bodyU l (k + 1)).length ≤ 1048576 := Nat.le_trans (Hplm.out (k + 1)) hpl
          rw [Hbody.out] at hb2k
          simp only [List.length_append] at hb2k
          have hrk : (row (byts c.key)).length ≤ 1048576 := by omega
          have HENC := Lib.hid (Bl.encode_any v' sl _ (hs'.below' HB2.old) (by omega))
          clear hs' hsl Hp Hc H HB1
          go_wp2_with fail
          refine HENC.out.mono ?_
          rintro e w5 ⟨v5, rfl, ho5, hb5⟩
          obtain ⟨ao5, cap5, rfl⟩ := ho5.shape
          have H5 := HB2.addRow hb5 ho5
          have k0 := blk_cell H5.up2.blk 0
          have k3 := blk_cell H5.up2.blk 3
          clear HB2 ho5 hb5 HENC c0 c1 d1 e0 e1 f0 f1 f2 f3 hr'
          have hcs4 : c.key.size ≤ 140737488355328 := by omega
          go_wp2_with (with_reducible refine wpList_conv H5 rfl _ rfl c.key rfl Try.underlying9 Try.underlying24 Try.underlying5 (by omega) ?_; intro v6 w6 H6; obtain ⟨ao6, cap6, rfl⟩ := H6.own.shape; clear H5)
          have H7 := (H6.addLits [.slice ao6 (byts c.key).length cap6] 24 (by simp [maxLen]) (b := w6.heap.size) rfl).up6
          clear H6
          refine (wbytes_any H7 _ _ [byts c.key] (readsRows_one Reads.row) (by rw [rows_one]; omega)).mono ?_
          rintro e w7 ⟨rfl, H8⟩
          rw [rows_one] at H8
          have H9 := H8.up2.drop1.up2.drop1
          have k3 := blk_cell H9.up3.blk 3
          clear H7 H8 k0
          go_wp2_with fail
          have H10 := (H9.addLits [.int .i64 c.seq] 3 (by simp [maxLen]) (b := w7.heap.size) rfl).up2
          refine (nums_any H10 _ [c.seq] Reads.row (by intro z hz; simp at hz; subst hz; omega) (by simp only [List.length_append, List.length_singleton]; omega)).mono ?_
          rintro e w8 ⟨rfl, H11⟩
          rw [show encs [c.seq] = enc (clamp c.seq) from by simp [encs]] at H11
          have H12 := H11.up2.drop1
          clear H9 H10 H11 k3
          go_wp2_with fail
          have H13 := (H12.addLits [.slice ao5 (encR sl).length cap5] 24 (by simp [maxLen]) (b := w8.heap.size) rfl).up2
          refine (wbytes_any H13 _ _ [encR sl] (readsRows_one Reads.row) (by rw [rows_one]; simp only [List.length_append]; omega)).mono ?_
          rintro e w9 ⟨rfl, H14⟩
          rw [rows_one, ← Hbody.out] at H14
          have H15 := Lib.hid H14.up2.drop1.up2.drop1.up2.drop1.up2.drop1
          clear H12 H13 H14
          go_wp2
          go_roundw
          case rel => exact ⟨k + 1, by omega, by go_num, H15.out⟩
          case measure => simp [intOf]; omega
        · obtain rfl : k = ps.length := by omega
          have hpe : payload l = bodyU l ps.length ++ enc l.length ++ row (BloomP.make (Bloom.keysOf (keys l))) := by rw [payload, ← Hps.out]
          have hpl3 := hpl
          rw [hpe] at hpl3
          simp only [List.length_append] at hpl3
          have HPE := Lib.hid hpe
          clear hpe hlt
          go_wp2_with fail
          have hcl : clamp (l.length : Int) = l.length := by unfold clamp; omega
          have H6 := (H.addLits [.int .i64 (l.length : Int)] 3 (by simp [maxLen]) (b := wr.heap.size) rfl).up2
          refine (nums_any H6 _ [(l.length : Int)] Reads.row (by intro z hz; simp at hz; subst hz; omega) (by simp only [List.length_singleton]; omega)).mono ?_
          rintro e w6 ⟨rfl, H7⟩
          rw [show encs [(l.length : Int)] = enc l.length from by simp [encs, hcl]] at H7
          have H8 := H7.up2.drop1.up2.drop1
          clear H H6 H7 hcl
          go_wp2_with fail
          refine (keys_any v l _ (h.below' H8.old) (by omega)).mono ?_
          rintro e w9 ⟨v9, rfl, ho9, hb9⟩
          have hkl : (keys l).length ≤ 4096 := Nat.le_trans (keysU_len l l.length) hl2
          have hks : ∀ s ∈ keys l, s.size ≤ 9223372036854775807 := fun s hs => by
            obtain ⟨c, hc, rfl⟩ := keysU_mem l l.length (Nat.le_refl _) s hs
            have := isC_key (Hall.out c hc)
            omega
          have H9 := (H8.addRow hb9 ho9).up2
          clear H8 ho9 hb9
          go_wp2_with fail
          refine (Bloom.make_any v9 (keys l).length (keys l) _ H9.up2.sl (by omega) hks).mono ?_
          rintro e w10 ⟨v10, rfl, ho10, hb10⟩
          obtain ⟨M, hM⟩ : ∃ M, M = BloomP.make (Bloom.keysOf (keys l)) := ⟨_, rfl⟩
          rw [← hM] at ho10 hpl3
          have HM := Lib.hid hM
          have ho10b : Own w10 w9.heap.size 5 1 v10 M.length (u8s M) := by
            have h1 := Own.of ho10
            have h2 := h1.1
            rw [u8s_length, Nat.mul_one] at h2
            rw [h2]; exact h1
          have H10 := (H9.addRow hb10 ho10b).up2
          obtain ⟨ao10, cap10, rfl⟩ := ho10b.shape
          clear H9 ho10 ho10b hb10 hks hM
          go_wp2_with fail
          have H11 := (H10.addLits [.slice ao10 M.length cap10] 24 (by simp [maxLen]) (b := w10.heap.size) rfl).up2
          refine (wbytes_any H11 _ _ [M] (readsRows_one Reads.row) (by rw [rows_one]; simp only [List.length_append]; omega)).mono ?_
          rintro e w11 ⟨rfl, H12⟩
          rw [rows_one] at H12
          have H13 : Hold w ((Wr bw (payload l)).sep Asrt.emp) w11 := by
            rw [HPE.out, ← HM.out]
            exact H12.up2.drop1.up2.drop1.up2.drop1
          clear H10 H11 H12
          go_wp2_with fail
          refine (out_any H13 (by omega)).mono ?_
          rintro e w12 ⟨v12, rfl, ho12, hb12⟩
          obtain ⟨ao12, cap12, rfl⟩ := ho12.shape
          have H14 := H13.old.trans (hb12.mono H13.old.size)
          clear H13 hb12
          go_wp2_with fail
          have henc := Fr.encode_any _ [payload l] _ (rowsLit1 24 ho12.sl rfl) (by simp) (by simp; omega)
          rw [show [payload l].flatten = payload l from by simp] at henc
          refine henc.mono ?_
          rintro e w13 ⟨v13, rfl, ho13, hb13⟩
          have hB0 : Below w.heap.size w (w12.alloc (.cells #[.slice ao12 (payload l).length cap12] 24)) := H14.alloc H14.size _
          have HF : Hid (Own w13 w.heap.size 5 1 v13 (rec_ (payload l)).length (u8s (rec_ (payload l)))) := Lib.hid (ho13.from fun k hk => Nat.le_trans hB0.size (ho13.lt k hk).1)
          have HFb := Lib.hid (hB0.trans (hb13.mono hB0.size))
          have hR : Hid (buildR l = rec_ (payload l)) := Lib.hid (by rw [buildR, if_pos HN0.out])
          clear henc ho13 hb13 hB0 ho12 H14
          go_wp2
          go_ret2
          unfold RetBuild
          rw [HN0.out, hR.out]
          exact ⟨_, rfl, HF.out, HFb.out⟩
    · have hz : ((riseN l : Int) != 0) = true := by simp [hr]
      have hR : Hid (buildR l = []) := Lib.hid (by rw [buildR, if_neg (by rw [hN.out]; exact hr)])
      clear hr hp
      go_wp2
      go_ret2
      unfold RetBuild
      rw [hN.out, hR.out]
      exact ⟨_, rfl, Own.nil _ _ _ _, hb1⟩
end Go.Proofs.Ytbepbbjeieafhaa.Tb

/-
  Rows of cells: the outer values, and each row, in memory of their own.
-/

namespace Go.Proofs.Ytbepbbjeieafhaa.L
open Go.RowKit Bl
theorem Hold.merge {W0 w : World} {A B D R : Asrt} (h : Hold W0 (A.sep (B.sep R)) w) (f : ∀ F1 F3, (∀ k, F1 k → ¬ F3 k) → A.at_ F1 w → B.at_ F3 w → ∃ F', D.at_ F' w ∧ ∀ k, F' k → F1 k ∨ F3 k) : Hold W0 (D.sep R) w := by
  obtain ⟨h1, F, hF, F1, F2, h2, h3, h4, F3, F4, h5, h6, h7, h8⟩ := h
  obtain ⟨F', hD, hF'⟩ := f F1 F3 (fun k a b => h3 k a ((h5 k).2 (.inl b))) h4 h7
  refine ⟨h1, fun k => F' k ∨ F4 k, ?_, F', F4, fun k => Iff.rfl, ?_, hD, h8⟩
  · rintro k (hk | hk)
    · rcases hF' k hk with h | h
      · exact hF k ((h2 k).2 (.inl h))
      · exact hF k ((h2 k).2 (.inr ((h5 k).2 (.inl h))))
    · exact hF k ((h2 k).2 (.inr ((h5 k).2 (.inr hk))))
  · intro k a b
    rcases hF' k a with h | h
    · exact h3 k h ((h5 k).2 (.inr b))
    · exact h6 k h b
/-- the rows of cells that some values are, read alone -/
def InnerC (vs : List Value) (ls : List (List Cl)) : Asrt where
  at_ F w := vs.length = ls.length ∧ (∀ i, i < ls.length → Sl w 4 (vs.getD i undef) (ls.getD i []).length (cls (ls.getD i []))) ∧ ∀ k, F k ↔ ∃ i, i < ls.length ∧ (vs.getD i undef).ownBlock = some k ∧ 0 < (ls.getD i []).length
  stay := by
    rintro F w w' ⟨h1, h2, h3⟩ hk
    refine ⟨h1, fun i hi => ?_, h3⟩
    by_cases hl : 0 < (ls.getD i []).length
    · exact (h2 i hi).kept fun b hb => hk b ((h3 b).2 ⟨i, hi, hb, hl⟩)
    · exact (h2 i hi).none (by omega)
  lt := by
    rintro F w ⟨h1, h2, h3⟩ k hk
    obtain ⟨i, hi, hb, hl⟩ := (h3 k).1 hk
    exact (h2 i hi).lt (by omega) k hb
section
variable {W0 w w' : World} {R : Asrt} {vs : List Value} {ls : List (List Cl)} {v : Value} {l : List Cl}
theorem Hold.addInnerCNil (h : Hold W0 R w) : Hold W0 ((InnerC [] []).sep R) w :=
  h.add (Below.refl _ _) (A := InnerC [] []) (F := fun _ => False) ⟨rfl, fun i hi => by simp at hi, fun k => by simp⟩ fun _ h => h.elim
theorem Hold.innerC (h : Hold W0 ((InnerC vs ls).sep R) w) : vs.length = ls.length ∧ ∀ i, i < ls.length → Sl w 4 (vs.getD i undef) (ls.getD i []).length (cls (ls.getD i [])) := by
  obtain ⟨F, ⟨h1, h2, _⟩, _⟩ := h.take
  exact ⟨h1, h2⟩
/-- a row joins the others -/
theorem Hold.joinC (h : Hold W0 ((Row 39 4 v l.length (cls l)).sep ((InnerC vs ls).sep R)) w) : Hold W0 ((InnerC (vs ++ [v]) (ls ++ [l])).sep R) w := by
  refine h.merge fun F1 F3 _ hA hB => ?_
  obtain ⟨ho, hf⟩ := hA
  obtain ⟨h1, h2, h3⟩ := hB
  have hlow : ∀ i, i < ls.length → (vs ++ [v]).getD i undef = vs.getD i undef ∧ (ls ++ [l]).getD i [] = ls.getD i [] := by
    intro i hi
    simp [List.getD, List.getElem?_append_left hi, List.getElem?_append_left (show i < vs.length by omega)]
  have hnew : (vs ++ [v]).getD ls.length undef = v ∧ (ls ++ [l]).getD ls.length [] = l := by
    rw [← h1]
    simp [List.getD, h1]
  refine ⟨fun k => F3 k ∨ (v.ownBlock = some k ∧ 0 < l.length), ⟨by simp [h1], fun i hi => ?_, fun k => ?_⟩, ?_⟩
  · by_cases hi2 : i < ls.length
    · rw [(hlow i hi2).1, (hlow i hi2).2]
      exact h2 i hi2
    · have : i = ls.length := by simp at hi; omega
      subst this
      rw [hnew.1, hnew.2]
      exact ho.sl
  · constructor
    · rintro (hk | ⟨hk, hl⟩)
      · obtain ⟨i, hi, hb2, hl⟩ := (h3 k).1 hk
        exact ⟨i, by simp; omega, by rw [(hlow i hi).1]; exact hb2, by rw [(hlow i hi).2]; exact hl⟩
      · exact ⟨ls.length, by simp, by rw [hnew.1]; exact hk, by rw [hnew.2]; exact hl⟩
    · rintro ⟨i, hi, hb2, hl⟩
      by_cases hi2 : i < ls.length
      · rw [(hlow i hi2).1] at hb2
        rw [(hlow i hi2).2] at hl
        exact .inl ((h3 k).2 ⟨i, hi2, hb2, hl⟩)
      · have : i = ls.length := by simp at hi; omega
        subst this
        rw [hnew.1] at hb2
        rw [hnew.2] at hl
        exact .inr ⟨hb2, hl⟩
  · rintro k (hk | ⟨hk, _⟩)
    · exact .inr hk
    · exact .inl ((hf k).2 hk)
end
theorem elRC : ElemOk Try.prog 46 22 1 24 := elemOk Try.underlying46 Try.info22 rfl (by decide)
end Go.Proofs.Ytbepbbjeieafhaa.L

/-
  Blocks of the reference of chapter 8.
-/


namespace Go.Proofs.Ytbepbbjeieafhaa.Tb
open Go.RowKit L Oct Bl
def rowsU (l : List Cl) (k : Nat) : List (List Cl) := (bl l k).1.map (sub l)
def nowU (l : List Cl) (k : Nat) : List Cl := if k = 0 then [] else sub l ((bl l k).2.1, k)
/-- the blocks' cells -/
def rows (l : List Cl) : List (List Cl) := (parts l).map (sub l)
theorem sub_one {l : List Cl} {k : Nat} (hk : k < l.length) : sub l (k, k + 1) = [l.getD k default] := by
  simp only [sub, Nat.add_sub_cancel_left]
  rw [List.drop_eq_getElem_cons hk, List.take_succ_cons]
  simp [List.getD, hk]
theorem sub_succ {l : List Cl} {f k : Nat} (hf : f ≤ k) (hk : k < l.length) : sub l (f, k + 1) = sub l (f, k) ++ [l.getD k default] := by
  simp only [sub]
  rw [show k + 1 - f = (k - f) + 1 from by omega, List.take_succ_eq_append_getElem (by rw [List.length_drop]; omega)]
  simp [List.getD, hk, show f + (k - f) = k from by omega]
theorem sub_length {l : List Cl} {f t : Nat} (ht : t ≤ l.length) : (sub l (f, t)).length = t - f := by
  simp only [sub, List.length_take, List.length_drop]; omega
theorem now_pos {l : List Cl} {k : Nat} (h0 : k ≠ 0) (hk : k ≤ l.length) : 0 < (nowU l k).length := by
  rw [nowU, if_neg h0, sub_length hk]
  obtain ⟨j, rfl⟩ : ∃ j, k = j + 1 := ⟨k - 1, by omega⟩
  have := bl_from l j
  omega
theorem now_len {l : List Cl} {k : Nat} (hk : k ≤ l.length) : (nowU l k).length ≤ k := by
  unfold nowU
  split
  · simp
  · rw [sub_length hk]; omega
theorem rows_len (l : List Cl) (k : Nat) : (rowsU l k).length ≤ k := by
  have := partsU_len l k
  unfold partsU at this
  split at this
  · rename_i h; subst h; simp [rowsU, bl]
  · rw [List.length_append] at this; simp [rowsU]; simp at this; omega
theorem rows_fresh0 {l : List Cl} (hk : 0 < l.length) : rowsU l 1 = rowsU l 0 ∧ nowU l 1 = nowU l 0 ++ [l.getD 0 default] := by
  refine ⟨by simp [rowsU, bl], ?_⟩
  rw [nowU, if_neg (by omega), nowU, if_pos rfl, show ((bl l 1).2.1, 1) = (0, 0 + 1) from by simp [bl], sub_one hk, List.nil_append]
theorem rows_fresh {l : List Cl} {k : Nat} (h : fresh l k = true) (h0 : k ≠ 0) (hk : k < l.length) : rowsU l (k + 1) = rowsU l k ++ [nowU l k] ∧ nowU l (k + 1) = [l.getD k default] := by
  have h2 : 512 < (bl l k).2.2 + sizeC (l.getD k default) := by simpa [fresh, h0] using h
  have e : bl l (k + 1) = ((bl l k).1 ++ [((bl l k).2.1, k)], k, sizeC (l.getD k default)) := by rw [bl, if_neg h0, if_pos h2]
  refine ⟨?_, ?_⟩
  · rw [rowsU, e, List.map_append, nowU, if_neg h0]; rfl
  · rw [nowU, if_neg (by omega), e, sub_one hk]
theorem rows_old {l : List Cl} {k : Nat} (h : fresh l k = false) (hk : k < l.length) : rowsU l (k + 1) = rowsU l k ∧ nowU l (k + 1) = nowU l k ++ [l.getD k default] := by
  have h0 : k ≠ 0 := by rintro rfl; simp [fresh] at h
  have h2 : ¬ 512 < (bl l k).2.2 + sizeC (l.getD k default) := by simpa [fresh, h0] using h
  have e : bl l (k + 1) = ((bl l k).1, (bl l k).2.1, (bl l k).2.2 + sizeC (l.getD k default)) := by rw [bl, if_neg h0, if_neg h2]
  refine ⟨by rw [rowsU, e, rowsU], ?_⟩
  have hfr : (bl l k).2.1 ≤ k := by
    obtain ⟨j, rfl⟩ : ∃ j, k = j + 1 := ⟨k - 1, by omega⟩
    have := bl_from l j; omega
  rw [nowU, if_neg (by omega), e, nowU, if_neg h0]
  exact sub_succ hfr hk
theorem rows_end {l : List Cl} (h : l ≠ []) : rows l = rowsU l l.length ++ [nowU l l.length] := by
  have h0 : l.length ≠ 0 := by simpa using h
  rw [rows, parts, partsU, if_neg h0, List.map_append, rowsU, nowU, if_neg h0]; rfl
theorem rows_length (l : List Cl) : (rows l).length = (parts l).length := by simp [rows]
theorem rows_get {l : List Cl} {k : Nat} (hk : k < (parts l).length) : (rows l).getD k [] = sub l ((parts l).getD k (0, 0)) := by
  simp [rows, List.getD, hk]
def RetRows (w : World) (ls : List (List Cl)) (e : Ending) (w' : World) : Prop := ∃ v vs, e = .returned v ∧ Hold w ((Row 22 1 v ls.length vs).sep ((InnerC vs ls).sep Asrt.emp)) w'
def XRel (w : World) (l : List Cl) (k : Nat) (x y : Value) (vs : List Value) (wr : World) : Prop :=
  Hold w ((Row 39 4 y (nowU l k).length (cls (nowU l k))).sep ((Row 22 1 x (rowsU l k).length vs).sep ((InnerC vs (rowsU l k)).sep Asrt.emp))) wr
theorem xjoin {w wr : World} {v8 y : Value} {n : Nat} {xs vs : List Value} {N : List Cl} {O : List (List Cl)}
    (H : Hold w ((Row 22 1 v8 n xs).sep ((Row 39 4 y N.length (cls N)).sep ((InnerC vs O).sep Asrt.emp))) wr) :
    Hold w ((Row 22 1 v8 n xs).sep ((InnerC (vs ++ [y]) (O ++ [N])).sep Asrt.emp)) wr :=
  (Hold.joinC (H.perm (B := (Row 39 4 y N.length (cls N)).sep ((InnerC vs O).sep ((Row 22 1 v8 n xs).sep Asrt.emp))) (by ac_rfl))).up2
set_option maxRecDepth 100000 in
set_option maxHeartbeats 1600000 in
theorem xblocks_any (v : Value) (l : List Cl) (w : World) (h : Sl w 4 v l.length (cls l)) (hn : l.length ≤ 100000) (hs : ∀ c ∈ l, sizeC c ≤ 1000000000) : Calls Try.prog 23 #[v] w (RetRows w (rows l)) := by
  have hlen := h.run_len Try.underlying22
  have Hs := Lib.hid (bl_size (M := 1000000000) (by omega) hs)
  have Hc0 := Lib.hid hs
  clear hs
  go_enter Try.func23, Try.ntmps23
  go_wp2
  go_loopw [3, 4, 5, 6] (fun x y n i wr => ∃ (k : Nat) (x' y' : Value) (vs : List Value), x' = x ∧ y' = y ∧ k ≤ l.length ∧ i = .int .i64 k ∧ n = .int .i64 (bl l k).2.2 ∧ XRel w l k x' y' vs wr) (fun _ _ _ i _ => l.length - (intOf i).toNat)
  case atStart => exact ⟨0, _, _, [], rfl, rfl, Nat.zero_le _, rfl, rfl, ((Hold.start w).addInnerCNil.addNil 22 1).addNil 39 4⟩
  case round =>
    obtain ⟨k, x, y, vs, rfl, rfl, hk, rfl, rfl, H⟩ := hrel
    unfold XRel at H
    by_cases hlt : k < l.length
    · obtain ⟨A, c, hA, _, hcells, Hc⟩ := h.atCl (P := Try.prog) Try.underlying22 Try.size39 k _ rfl hlt
      have hcs : sizeC c ≤ 1000000000 := Hc0.out c (by rw [Hc.out, getD_get hlt]; exact List.getElem_mem hlt)
      have hbs := Hs.out k hk
      have hnl := now_len hk
      have hrl := rows_len l k
      obtain ⟨n, hn'⟩ : ∃ n, n = (bl l k).2.2 := ⟨_, rfl⟩
      obtain ⟨s, hs'⟩ : ∃ s, s = sizeC c := ⟨_, rfl⟩
      have hse : Hid (s = c.key.size + c.val.size + 16) := Lib.hid hs'
      have Hfr : Hid (fresh l k = (decide (k = 0) || decide (512 < n + s))) := Lib.hid (by rw [fresh, ← Hc.out, ← hs', hn'])
      have Hn := Lib.hid hn'
      have Hsd : Hid (s = sizeC (l.getD k default)) := Lib.hid (by rw [hs', Hc.out])
      rw [← hn'] at hbs ⊢
      rw [← hs'] at hcs
      have hkv : c.key.size + c.val.size ≤ 1000000000 := by have := hse.out; omega
      obtain ⟨N, hN⟩ : ∃ N, N = nowU l k := ⟨_, rfl⟩
      obtain ⟨O, hO⟩ : ∃ O, O = rowsU l k := ⟨_, rfl⟩
      have HN := Lib.hid hN
      have HO := Lib.hid hO
      have hpos : k ≠ 0 → 0 < N.length := fun h0 => by rw [hN]; exact now_pos h0 hk
      have hzero : k = 0 → N.length = 0 := fun h0 => by rw [hN, h0]; simp [nowU]
      rw [← hN, ← hO] at H
      rw [← hN] at hnl
      rw [← hO] at hrl
      have HH := Lib.hid H
      obtain ⟨ao0, cap0, rfl⟩ := H.own.shape
      have hlN := H.sl.run_len Try.underlying22
      clear hn' hs' hN hO H
      by_cases hf : fresh l k = true ∧ k ≠ 0
      · obtain ⟨hf, h0⟩ := hf
        have hNp := hpos h0
        have h512 : 512 < n + s := by have := Hfr.out; rw [hf] at this; simpa [h0] using this
        have HR : Hid (rowsU l (k + 1) = O ++ [N] ∧ nowU l (k + 1) = [c]) := Lib.hid (by
          have := rows_fresh hf h0 hlt
          rw [this.1, this.2, ← HN.out, ← HO.out, ← Hc.out]; exact ⟨rfl, rfl⟩)
        have HE : Hid ((bl l (k + 1)).2.2 = s) := Lib.hid (by rw [(bl_fresh hf).1, Hsd.out])
        have g1 : decide ((0 : Int) < (N.length : Int)) = true := by simp; omega
        have g2 : decide ((512 : Int) < (n : Int) + (s : Int)) = true := by simp; omega
        obtain ⟨c0, c1, c2, c3⟩ := hcells.below' HH.out.old
        clear hf h0 hpos hzero h512 Hfr
        go_wp2_with (first
          | (go_at_call 55; refine (xsize_any c _ (by omega)).mono ?_; rintro e w2 ⟨rfl, hb2⟩; rw [show ((c.key.size : Int) + c.val.size + 16) = (s : Int) from by have := hse.out; omega])
          | (at_builtin; refine wpList_appLit elRC ((HH.out.keeps hb2).up2) [.slice ao0 N.length cap0] rfl _ _ rfl rfl rfl rfl (by simp [Value.oneCell']) (by simp; omega) (by simp; omega) ?_; intro v8 xs8 w8 X8 H8; rw [X8.out, show O.length + [Value.slice ao0 N.length cap0].length = (O ++ [N]).length from by simp] at H8; have H9 := Lib.hid (xjoin H8); clear H8 hb2; obtain ⟨d0, d1, d2, d3⟩ := hcells.below' H9.out.old)
          | (at_builtin; refine wpList_appC (L := []) ((H9.out.addNil 39 4).keeps (below_one _ (.cells #[.string c.key, .string c.val, .bool c.del, .int .i64 c.seq] 39))) rfl _ _ rfl rfl rfl (sl_builtC w8 [c] 39 (by simp [maxLen]) (b := w8.heap.size) rfl) (by simp) ?_; intro ao10 n10 cap10 w10 N10 H10; have H11 : Hid (XRel w l (k + 1) v8 (.slice ao10 n10 cap10) (vs ++ [.slice ao0 N.length cap0]) w10) := Lib.hid (by unfold XRel; rw [HR.out.1, HR.out.2]; exact H10); clear H9 H10)
          | fail)
        go_roundw
        case rel => exact ⟨k + 1, v8, _, _, rfl, rfl, by omega, by go_num, by rw [HE.out], H11.out⟩
        case measure => simp [intOf]; omega
      · have HR : Hid (rowsU l (k + 1) = O ∧ nowU l (k + 1) = N ++ [c] ∧ (bl l (k + 1)).2.2 = n + s) := Lib.hid (by
          by_cases h0 : k = 0
          · subst h0
            have := rows_fresh0 hlt
            rw [this.1, this.2, ← HN.out, ← HO.out, ← Hc.out, Hn.out, Hsd.out]
            exact ⟨rfl, rfl, by simp [bl]⟩
          · have hf' : fresh l k = false := by simpa [h0] using hf
            have := rows_old hf' hlt
            rw [this.1, this.2, ← HN.out, ← HO.out, ← Hc.out, Hn.out, Hsd.out]
            exact ⟨rfl, rfl, (bl_old hf').2.2.1⟩)
        obtain ⟨c0, c1, c2, c3⟩ := hcells.below' HH.out.old
        have hcase : (N.length = 0) ∨ (0 < N.length ∧ n + s ≤ 512) := by
          by_cases h0 : k = 0
          · exact .inl (hzero h0)
          · refine .inr ⟨hpos h0, ?_⟩
            have hf' : fresh l k = false := by simpa [h0] using hf
            have := Hfr.out; rw [hf'] at this
            simpa [h0] using this
        clear hf hpos hzero Hfr
        rcases hcase with h0 | ⟨h0, h1⟩
        case' inl =>
          have g1 : ¬ 0 < N.length := by omega
          clear h0
        case' inr =>
          have g2 : decide ((512 : Int) < (n : Int) + (s : Int)) = false := by simp; omega
          clear h1
        all_goals
          go_wp2_with (first
            | (go_at_call 55; refine (xsize_any c _ (by omega)).mono ?_; rintro e w2 ⟨rfl, hb2⟩; rw [show ((c.key.size : Int) + c.val.size + 16) = (s : Int) from by have := hse.out; omega]; have H9 := Lib.hid (HH.out.keeps hb2); clear hb2; obtain ⟨d0, d1, d2, d3⟩ := hcells.below' H9.out.old)
            | (at_builtin; refine wpList_appC (H9.out.keeps (below_one _ (.cells #[.string c.key, .string c.val, .bool c.del, .int .i64 c.seq] 39))) rfl _ _ rfl rfl rfl (sl_builtC w2 [c] 39 (by simp [maxLen]) (b := w2.heap.size) rfl) (by simp; omega) ?_; intro ao10 n10 cap10 w10 N10 H10; have H11 : Hid (XRel w l (k + 1) x (.slice ao10 n10 cap10) vs w10) := Lib.hid (by unfold XRel; rw [HR.out.1, HR.out.2.1]; exact H10); clear H9 H10)
            | fail)
          go_roundw
          case rel => exact ⟨k + 1, x, _, _, rfl, rfl, by omega, by go_num, by rw [HR.out.2.2]; go_num, H11.out⟩
          case measure => simp [intOf]; omega
    · obtain rfl : k = l.length := by omega
      have hnl := now_len (l := l) (Nat.le_refl _)
      have hrl := rows_len l l.length
      obtain ⟨N, hN⟩ : ∃ N, N = nowU l l.length := ⟨_, rfl⟩
      obtain ⟨O, hO⟩ : ∃ O, O = rowsU l l.length := ⟨_, rfl⟩
      have hrw : Hid ((N.length = 0 ∧ rows l = O) ∨ (0 < N.length ∧ rows l = O ++ [N])) := Lib.hid (by
        by_cases h0 : l = []
        · subst h0; refine .inl ⟨by rw [hN]; rfl, by rw [hO]; rfl⟩
        · exact .inr ⟨by rw [hN]; exact now_pos (by simpa using h0) (Nat.le_refl _), by rw [hN, hO]; exact rows_end h0⟩)
      rw [← hN, ← hO] at H
      rw [← hN] at hnl
      rw [← hO] at hrl
      have HH := Lib.hid H
      obtain ⟨ao0, cap0, rfl⟩ := H.own.shape
      have hlN := H.sl.run_len Try.underlying22
      clear hN hO H
      rcases hrw.out with ⟨h0, hr⟩ | ⟨h0, hr⟩
      · have g1 : ¬ 0 < N.length := by omega
        have HR := Lib.hid hr
        clear h0 hr hrw
        go_wp2_with fail
        go_ret
        unfold RetRows
        rw [HR.out]
        exact ⟨x, vs, rfl, HH.out.drop1⟩
      · have HR := Lib.hid hr
        clear hr hrw
        go_wp2_with (first
          | (at_builtin; refine wpList_appLit elRC (HH.out.up2) [.slice ao0 N.length cap0] rfl _ _ rfl rfl rfl rfl (by simp [Value.oneCell']) (by simp; omega) (by simp; omega) ?_; intro v8 xs8 w8 X8 H8; rw [X8.out, show O.length + [Value.slice ao0 N.length cap0].length = (O ++ [N]).length from by simp] at H8; have H9 := Lib.hid (xjoin H8); clear H8)
          | fail)
        go_ret
        unfold RetRows
        rw [HR.out]
        exact ⟨v8, _, rfl, H9.out⟩
end Go.Proofs.Ytbepbbjeieafhaa.Tb

/-
  How many bytes a table's payload has, and how much cells weigh that bytes tell.
-/


namespace Go.Proofs.Ytbepbbjeieafhaa.Tb
open L Oct Bl Fr BloomP
theorem weight_append : ∀ a b : List Cl, weight (a ++ b) = weight a + weight b
  | [], b => by simp [weight]
  | c :: r, b => by simp only [List.cons_append, weight, weight_append r b]; omega
theorem weight_mem : ∀ {l : List Cl} {c : Cl}, c ∈ l → c.key.size + c.val.size + 1 ≤ weight l
  | a :: r, c, h => by
    rcases List.mem_cons.1 h with rfl | h
    · simp only [weight]; omega
    · have := weight_mem h; simp only [weight]; omega
theorem take_sub {l : List Cl} {f t : Nat} (h : f ≤ t) : l.take t = l.take f ++ sub l (f, t) := by
  simp only [sub]
  rw [← List.take_add, show f + (t - f) = t from by omega]
theorem encUp_le {l : List Cl} (h : riseN l = 0) : ∀ k, k ≤ l.length → (encUp l k).length ≤ weight (l.take k) + 46 * k
  | 0, _ => by simp [encUp]
  | k + 1, hk => by
    have ih := encUp_le h k (by omega)
    have h1 := isC_key (riseN_all h (l.getD k default) (by rw [getD_get (show k < l.length by omega)]; exact List.getElem_mem _))
    have h2 := nAt_le l k
    have h3 := encC_length (nAt l k) (l.getD k default) (by omega) (by omega) (by omega)
    have h4 := weight_take l k (by omega)
    rw [encUp, List.length_append]
    omega
theorem encR_len (l : List Cl) : (encR l).length ≤ weight l + 46 * l.length := by
  unfold encR
  split
  · rename_i h
    have := encUp_le h l.length (Nat.le_refl _)
    rw [List.take_length] at this
    exact this
  · simp
theorem weight_big : ∀ {l : List Cl}, (∀ c ∈ l, c.key.size ≤ 4096 ∧ c.val.size ≤ 16384) → weight l ≤ 20481 * l.length
  | [], _ => by simp [weight]
  | c :: r, h => by
    have a := h c (by simp)
    have b := weight_big (l := r) fun d hd => h d (by simp [hd])
    simp only [weight, List.length_cons]; omega
theorem partB_le {l : List Cl} (hk : ∀ c ∈ l, c.key.size ≤ 4096 ∧ c.val.size ≤ 16384) {f t : Nat} (h1 : f < t) (h2 : t ≤ l.length) (hl : l.length ≤ 4096) : (partB l (f, t)).length ≤ 2 * weight (sub l (f, t)) + 73 * (t - f) := by
  have hs := sub_length (l := l) (f := f) h2
  have he := encR_len (sub l (f, t))
  have hm : l.getD (t - 1) default ∈ sub l (f, t) := by
    have : (sub l (f, t)).getD (t - f - 1) default = l.getD (t - 1) default := by
      simp only [sub, List.getD, List.getElem?_take, List.getElem?_drop]
      rw [if_pos (by omega), show f + (t - f - 1) = t - 1 from by omega]
    rw [← this, getD_get (by omega)]
    exact List.getElem_mem _
  have hw := weight_mem hm
  have hbig : weight (sub l (f, t)) ≤ 20481 * (sub l (f, t)).length := by
    have : ∀ x : List Cl, (∀ c ∈ x, c.key.size ≤ 4096 ∧ c.val.size ≤ 16384) → weight x ≤ 20481 * x.length := by
      intro x
      induction x with
      | nil => intro _; simp [weight]
      | cons c r ih =>
        intro h
        have a := h c (by simp)
        have b := ih fun d hd => h d (by simp [hd])
        simp only [weight, List.length_cons]; omega
    exact this _ fun c hc => hk c (List.mem_of_mem_drop (List.mem_of_mem_take hc))
  rw [hs] at he hbig
  have e1 : (enc (encR (sub l (f, t))).length).length ≤ 9 := enc_le9 (by omega)
  have e2 : (enc (clamp (l.getD (t - 1) default).seq)).length ≤ 9 := enc_le9 (clamp_le _)
  have e3 : (enc (byts (l.getD (t - 1) default).key).length).length ≤ 9 := enc_le9 (by rw [byts_length]; omega)
  simp only [partB, row, List.length_append, byts_length] at e3 ⊢
  omega
theorem bl_le {l : List Cl} (hk : ∀ c ∈ l, c.key.size ≤ 4096 ∧ c.val.size ≤ 16384) (hl : l.length ≤ 4096) : ∀ k, k ≤ l.length → (bl l k).2.1 ≤ k ∧ ((bl l k).1.flatMap (partB l)).length ≤ 2 * weight (l.take (bl l k).2.1) + 73 * (bl l k).2.1
  | 0, _ => by simp [bl]
  | k + 1, h => by
    have ih := bl_le hk hl k (by omega)
    rw [bl]
    split
    · simp
    · rename_i h0
      split
      · obtain ⟨j, rfl⟩ : ∃ j, k = j + 1 := ⟨k - 1, by omega⟩
        have hf := bl_from l j
        have hp := partB_le hk (f := (bl l (j + 1)).2.1) (t := j + 1) (by omega) (by omega) hl
        have hw := congrArg weight (take_sub (l := l) (f := (bl l (j + 1)).2.1) (t := j + 1) (by omega))
        rw [weight_append] at hw
        refine ⟨by show j + 1 ≤ _; omega, ?_⟩
        show (List.flatMap (partB l) ((bl l (j + 1)).1 ++ [((bl l (j + 1)).2.1, j + 1)])).length ≤ 2 * weight (l.take (j + 1)) + 73 * (j + 1)
        rw [List.flatMap_append, List.length_append, List.flatMap_cons, List.flatMap_nil, List.append_nil]
        omega
      · exact ⟨by show (bl l k).2.1 ≤ k + 1; omega, ih.2⟩
/-- cells that weigh little are a table -/
theorem payload_small {l : List Cl} (hb : buildN l = 0) (hw : weight l ≤ 200000) : (payload l).length ≤ 1048576 := by
  have hl : ¬ (l.length < 1 ∨ 4096 < l.length) := by
    intro h; rw [buildN, if_pos h] at hb; cases hb
  have hr : riseN l = 0 := by rw [buildN, if_neg hl] at hb; exact hb
  have hk : ∀ c ∈ l, c.key.size ≤ 4096 ∧ c.val.size ≤ 16384 := fun c hc => isC_key (riseN_all hr c hc)
  have h4 : l.length ≤ 4096 := by omega
  have h1 := bl_le hk h4 l.length (Nat.le_refl _)
  have hf : (bl l l.length).2.1 < l.length := by
    obtain ⟨j, hj⟩ : ∃ j, l.length = j + 1 := ⟨l.length - 1, by omega⟩
    rw [hj]
    have := bl_from l j; omega
  have h2 := partB_le hk (f := (bl l l.length).2.1) (t := l.length) hf (Nat.le_refl _) h4
  have h3 := congrArg weight (take_sub (l := l) (f := (bl l l.length).2.1) (t := l.length) (by omega))
  rw [weight_append, List.take_length] at h3
  have hpl := partsU_len l l.length
  have e1 : (enc (parts l).length).length ≤ 9 := enc_le9 (by unfold parts; omega)
  have e2 : (enc l.length).length ≤ 9 := enc_le9 (by omega)
  have hkl : (keys l).length ≤ 4096 := Nat.le_trans (keysU_len l l.length) h4
  have e3 : (BloomP.make (Bloom.keysOf (keys l))).length ≤ 6000 := by
    rw [make_length]
    have : (Bloom.keysOf (keys l)).length = (keys l).length := by simp [Bloom.keysOf]
    rw [this]; unfold room; omega
  have e4 : (enc (BloomP.make (Bloom.keysOf (keys l))).length).length ≤ 9 := enc_le9 (by omega)
  have e5 : ((parts l).flatMap (partB l)).length ≤ 2 * weight l + 73 * l.length := by
    rw [parts, partsU, if_neg (by omega), List.flatMap_append, List.length_append, List.flatMap_cons, List.flatMap_nil, List.append_nil]
    omega
  simp only [payload, bodyU, List.take_length, row, List.length_append]
  omega
theorem encC_ge {n : Nat} {c : Cl} (hv : c.del = true → c.val.size = 0) (hn : n ≤ c.key.size) : c.key.size - n + c.val.size + 1 ≤ (encC n c).length := by
  have := enc_pos n
  simp only [encC, row, List.length_append, List.length_drop]
  have hk : c.key.data.toList.length = c.key.size := byts_length c.key
  have hvl : c.val.data.toList.length = c.val.size := byts_length c.val
  cases hd : c.del with
  | true =>
    have := hv hd
    omega
  | false =>
    simp only [Bool.false_eq_true, if_false, List.length_append]
    omega
/-- cells weigh at most five times their bytes -/
theorem weight_enc {l : List Cl} (h : riseN l = 0) : weight l ≤ 5 * (encL l).length := by
  have key : ∀ k, k ≤ l.length → ∃ g, g ≤ (encUp l k).length ∧ weight (l.take k) ≤ 5 * g + (k % 4) * ((encUp l k).length - g) + ((encUp l k).length - g) ∧ (k % 4 ≠ 0 → (l.getD (k - 1) default).key.size ≤ (encUp l k).length - g) := by
    intro k
    induction k with
    | zero => intro _; exact ⟨0, by simp, by simp [weight], by simp⟩
    | succ k ih =>
      intro hk
      obtain ⟨g, h1, h2, h3⟩ := ih (by omega)
      have hc := riseN_all h (l.getD k default) (by rw [getD_get (show k < l.length by omega)]; exact List.getElem_mem _)
      have hn := nAt_le l k
      have hge := encC_ge (c := l.getD k default) (n := nAt l k) (fun hd => by rw [isC_val hc hd]; rfl) hn
      have hw := weight_take l k (by omega)
      have hE : (encUp l (k + 1)).length = (encUp l k).length + (encC (nAt l k) (l.getD k default)).length := by rw [encUp, List.length_append]
      have hnp : k % 4 ≠ 0 → nAt l k ≤ (l.getD (k - 1) default).key.size := fun h4 => by
        have hs := (sharedN_le (byts (l.getD (k - 1) default).key) (byts (l.getD k default).key)).1
        rw [byts_length] at hs
        rw [nAt, if_neg h4]; exact hs
      have hn0 : k % 4 = 0 → nAt l k = 0 := fun h4 => by rw [nAt, if_pos h4]
      obtain ⟨E, hE'⟩ : ∃ E, E = (encUp l k).length := ⟨_, rfl⟩
      obtain ⟨e, he'⟩ : ∃ e, e = (encC (nAt l k) (l.getD k default)).length := ⟨_, rfl⟩
      rw [← hE', ← he'] at hE
      rw [← hE'] at h1 h2 h3
      rw [← he'] at hge
      rw [hE, hw]
      have h4c : k % 4 = 0 ∨ k % 4 = 1 ∨ k % 4 = 2 ∨ k % 4 = 3 := by omega
      rcases h4c with h4 | h4 | h4 | h4
      · have := hn0 h4
        rw [h4] at h2
        refine ⟨E, by omega, ?_, fun _ => by rw [Nat.add_sub_cancel]; omega⟩
        rw [show (k + 1) % 4 = 1 from by omega]; omega
      · have := hnp (by omega); have := h3 (by omega)
        rw [h4] at h2
        refine ⟨g, by omega, ?_, fun _ => by rw [Nat.add_sub_cancel]; omega⟩
        rw [show (k + 1) % 4 = 2 from by omega]; omega
      · have := hnp (by omega); have := h3 (by omega)
        rw [h4] at h2
        refine ⟨g, by omega, ?_, fun _ => by rw [Nat.add_sub_cancel]; omega⟩
        rw [show (k + 1) % 4 = 3 from by omega]; omega
      · have := hnp (by omega); have := h3 (by omega)
        rw [h4] at h2
        refine ⟨E + e, by omega, ?_, fun hx => absurd hx (by omega)⟩
        rw [show (k + 1) % 4 = 0 from by omega]; omega
  obtain ⟨g, h1, h2, _⟩ := key l.length (Nat.le_refl _)
  rw [List.take_length] at h2
  have h4c : l.length % 4 = 0 ∨ l.length % 4 = 1 ∨ l.length % 4 = 2 ∨ l.length % 4 = 3 := by omega
  unfold encL
  rcases h4c with h4 | h4 | h4 | h4 <;> rw [h4] at h2 <;> omega
end Go.Proofs.Ytbepbbjeieafhaa.Tb

/-
  The order of cells is one: plain.
-/

namespace Go.Proofs.Ytbepbbjeieafhaa.Bl
theorem bl_asymm : ∀ a b : List UInt8, Op.bytesLess a b = true → Op.bytesLess b a = false
  | _, [], h => by simp [Op.bytesLess] at h
  | [], _ :: _, _ => rfl
  | a :: x, b :: y, h => by
    simp only [Op.bytesLess, Bool.or_eq_true, Bool.and_eq_true, decide_eq_true_eq, beq_iff_eq] at h
    have ih := bl_asymm x y
    rcases h with h | ⟨rfl, h⟩
    · have h1 : ¬ b < a := fun h2 => by simp only [UInt8.lt_iff_toNat_lt] at h h2; omega
      have h2 : ¬ b = a := fun e => by subst e; simp only [UInt8.lt_iff_toNat_lt] at h; omega
      simp [Op.bytesLess, h1, h2]
    · simp [Op.bytesLess, ih h]
theorem bl_tri : ∀ a b : List UInt8, Op.bytesLess a b = false → Op.bytesLess b a = false → a = b
  | [], [], _, _ => rfl
  | [], _ :: _, h, _ => by simp [Op.bytesLess] at h
  | _ :: _, [], _, h => by simp [Op.bytesLess] at h
  | a :: x, b :: y, h, h' => by
    simp only [Op.bytesLess, Bool.or_eq_false_iff, decide_eq_false_iff_not, UInt8.lt_iff_toNat_lt] at h h'
    have e : a = b := UInt8.toNat_inj.1 (by omega)
    subst e
    have ih := bl_tri x y
    simp only [beq_self_eq_true, Bool.true_and] at h h'
    rw [ih h.2 h'.2]
theorem bl_trans : ∀ a b c : List UInt8, Op.bytesLess a b = true → Op.bytesLess b c = true → Op.bytesLess a c = true
  | _, [], _, h, _ => by simp [Op.bytesLess] at h
  | _, _ :: _, [], _, h => by simp [Op.bytesLess] at h
  | [], _ :: _, _ :: _, _, _ => rfl
  | a :: x, b :: y, c :: z, h, h' => by
    simp only [Op.bytesLess, Bool.or_eq_true, Bool.and_eq_true, decide_eq_true_eq, beq_iff_eq, UInt8.lt_iff_toNat_lt] at h h' ⊢
    have ih := bl_trans x y z
    rcases h with h | ⟨rfl, h⟩ <;> rcases h' with h' | ⟨rfl, h'⟩
    · left; omega
    · left; omega
    · left; omega
    · right; exact ⟨rfl, ih h h'⟩
theorem strEq_iff {a b : ByteArray} : strEq a b = true ↔ a.toList = b.toList := by simp [strEq]
theorem lessC_one {a b : Cl} (h1 : a.key.toList = b.key.toList) (h2 : a.seq = b.seq) : lessC a b = false := by
  have h3 : decide (b.seq < a.seq) = false := by simp; omega
  simp [lessC, strLt, h1, bytesLess_irrefl, h3]
theorem lessC_two {a b : Cl} (h : ¬ (a.key.toList = b.key.toList ∧ a.seq = b.seq)) : lessC a b = !lessC b a := by
  by_cases hk : a.key.toList = b.key.toList
  · have hs : a.seq ≠ b.seq := fun e => h ⟨hk, e⟩
    have e1 : strEq a.key b.key = true := strEq_iff.2 hk
    have e2 : strEq b.key a.key = true := strEq_iff.2 hk.symm
    have l1 : strLt a.key b.key = false := by rw [strLt, hk]; exact bytesLess_irrefl _
    have l2 : strLt b.key a.key = false := by rw [strLt, hk]; exact bytesLess_irrefl _
    rw [lessC, lessC, e1, e2, l1, l2]
    simp only [Bool.false_or, Bool.true_and]
    by_cases h3 : b.seq < a.seq
    · have : ¬ a.seq < b.seq := by omega
      simp [h3, this]
    · have : a.seq < b.seq := by omega
      simp [h3, this]
  · have e1 : strEq a.key b.key = false := by rw [Bool.eq_false_iff]; exact fun e => hk (strEq_iff.1 e)
    have e2 : strEq b.key a.key = false := by rw [Bool.eq_false_iff]; exact fun e => hk (strEq_iff.1 e).symm
    rw [lessC, lessC, e1, e2]
    simp only [Bool.false_and, Bool.or_false]
    cases h1 : strLt a.key b.key with
    | true => rw [strLt, bl_asymm _ _ h1]; rfl
    | false =>
      cases h2 : strLt b.key a.key with
      | true => rfl
      | false => exact (hk (bl_tri _ _ h1 h2)).elim
theorem lessC_trans {a b c : Cl} (h1 : lessC a b = true) (h2 : lessC b c = true) : lessC a c = true := by
  simp only [lessC, Bool.or_eq_true, Bool.and_eq_true, decide_eq_true_eq, strLt, strEq_iff] at h1 h2 ⊢
  rcases h1 with h1 | ⟨h1, h3⟩ <;> rcases h2 with h2 | ⟨h2, h4⟩
  · exact .inl (bl_trans _ _ _ h1 h2)
  · exact .inl (by rw [← h2]; exact h1)
  · exact .inl (by rw [h1]; exact h2)
  · exact .inr ⟨h1.trans h2, by omega⟩
end Go.Proofs.Ytbepbbjeieafhaa.Bl

/-
  A row that rises, place by place; plain.
-/


namespace Go.Proofs.Ytbepbbjeieafhaa.Bl
open L
theorem rises_at : ∀ (l : List Cl) (k : Nat), risesB l = true → k + 1 < l.length → lessC (l.getD k default) (l.getD (k + 1) default) = true
  | a :: b :: r, 0, h, _ => by
    simp only [risesB, Bool.and_eq_true] at h
    exact h.1
  | a :: b :: r, k + 1, h, hk => by
    simp only [risesB, Bool.and_eq_true] at h
    have := rises_at (b :: r) k h.2 (by simpa using hk)
    simpa using this
  | [a], k, _, hk => by simp at hk
  | [], k, _, hk => by simp at hk
theorem rises_far (l : List Cl) (h : risesB l = true) (j : Nat) : ∀ d, j + d + 1 < l.length → lessC (l.getD j default) (l.getD (j + d + 1) default) = true
  | 0, hk => rises_at l j h hk
  | d + 1, hk => lessC_trans (rises_far l h j d (by omega)) (rises_at l (j + d + 1) h hk)
theorem riseN_rises {l : List Cl} (h : riseN l = 0) : risesB l = true := by
  unfold riseN at h
  split at h
  · split at h
    · assumption
    · cases h
  · cases h
end Go.Proofs.Ytbepbbjeieafhaa.Bl
