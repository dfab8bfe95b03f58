/-
  Texts that the proofs of this seat stand on, one behind the other: contracts of functions and plain lemmas. Conditions: those that each theorem states.
-/
import Derived.Test.YtkbfjgmgckbogaaGreatF13
/-
  The walks of the reference of chapter 2: Decode, One.
-/

namespace Go.Proofs.YtkbfjgmgckbogaaGreat.Fr
open Go.RowKit L Oct
set_option maxRecDepth 100000 in
set_option maxHeartbeats 3200000 in
theorem rdecode_any (v : Value) (l : List UInt8) (w : World) (hv : Sl w 1 v l.length (u8s l)) (hl : l.length ≤ 1000000000000) :
    Calls Tryz.prog 91 #[v] w (Ret3 (New w (unrec l).1) (unrec l).2.1 (unrec l).2.2) := by
  have hlen := hv.run_len Tryz.underlying22
  obtain ⟨N, hN⟩ : ∃ N, N = from4 l := ⟨_, rfl⟩
  have hNl : N < 4294967296 := by rw [hN]; exact from4_lt l
  by_cases h1 : l.length < 8
  · have e : Hid (unrec l = ([], 0, 2)) := Lib.hid (by unfold unrec; rw [if_pos h1])
    clear hN hNl
    go_enter Tryz.func91, Tryz.ntmps91
    go_wp2
    go_ret3
    rw [e.out]
    exact ⟨_, rfl, new_nil _ _ (Below.refl _ _)⟩
  obtain ⟨v10, hr10, hs10⟩ := cut8 hv (some (.int .i64 4)) none 4 l.length (.inr ⟨.i64, rfl⟩) (.inl ⟨rfl, rfl⟩) (by omega) (Nat.le_refl _)
  obtain ⟨v13, hr13, hs13⟩ := cut8 hv none (some (.int .i64 4)) 0 4 (.inl ⟨rfl, rfl⟩) (.inr ⟨.i64, rfl⟩) (by omega) (by omega)
  obtain ⟨T4, hT4⟩ : ∃ T, T = l.drop 4 := ⟨_, rfl⟩
  obtain ⟨B4, hB4⟩ : ∃ B, B = l.take 4 := ⟨_, rfl⟩
  rw [← hT4, List.take_of_length_le (by rw [hT4, List.length_drop]; omega)] at hs10
  rw [List.drop_zero, show 4 - 0 = 4 from rfl, ← hB4] at hs13
  have hT4l : 4 ≤ T4.length := by rw [hT4, List.length_drop]; omega
  obtain ⟨M1, hM1⟩ : ∃ M, M = from4 T4 := ⟨_, rfl⟩
  obtain ⟨C1, hC1⟩ : ∃ C, C = crc B4 := ⟨_, rfl⟩
  have hiff := head_iff l (by omega)
  rw [← hT4, ← hB4, ← hM1, ← hC1, ← hN] at hiff
  have HN := Lib.hid hN
  have HM1 := Lib.hid hM1
  have HC1 := Lib.hid hC1
  have Hs10 : Hid (Sl w.drew 1 v10 T4.length (u8s T4)) := Lib.hid hs10.drew
  have Hs13 : Hid (Sl w.drew 1 v13 B4.length (u8s B4)) := Lib.hid hs13.drew
  clear hN hM1 hC1 hs10 hs13 hT4 hB4
  by_cases h2 : M1 = C1
  case neg =>
    have e : Hid (unrec l = ([], 0, 4)) := Lib.hid (by unfold unrec; rw [if_neg h1, ← HN.out, if_pos (fun x => h2 (hiff.1 x))])
    have e1 : ((M1 : Int) != (C1 : Int)) = true := by simp; omega
    clear h2 hiff
    go_enter Tryz.func91, Tryz.ntmps91
    go_wp2_with fail
    go_region_with (first
      | (go_at_call 98; refine (rfromFour_any v10 T4 T4.length _ hT4l rfl Hs10.out).mono ?_; rintro ee w2 ⟨he, hb2⟩; rw [← HM1.out] at he; subst he)
      | (go_at_call 99; refine (rsum_any v13 B4 _ (Hs13.out.below' hb2)).mono ?_; rintro ee w3 ⟨he, hw3⟩; rw [show (Crc.sum B4).toNat = C1 from HC1.out.symm] at he; subst he; subst hw3))
    all_goals
      have hbw := ((Below.refl w.heap.size w).drew).trans hb2
      have Hb := Lib.hid hbw
      clear hbw hb2
      go_wp2
      go_ret3
      rw [e.out]
      exact ⟨_, rfl, new_nil _ _ Hb.out⟩
  have e1 : ((M1 : Int) != (C1 : Int)) = false := by simp [h2]
  have H2 := Lib.hid (hiff.2 h2)
  clear h2 hiff
  by_cases h3 : 1048576 < N
  · have e : Hid (unrec l = ([], 0, 5)) := Lib.hid (by unfold unrec; rw [if_neg h1, ← HN.out, if_neg (by simp [H2.out]), if_pos h3])
    go_enter Tryz.func91, Tryz.ntmps91
    go_wp2_with fail
    go_region_with (first
      | (go_at_call 98; refine (rfromFour_any v10 T4 T4.length _ hT4l rfl Hs10.out).mono ?_; rintro ee w2 ⟨he, hb2⟩; rw [← HM1.out] at he; subst he)
      | (go_at_call 99; refine (rsum_any v13 B4 _ (Hs13.out.below' hb2)).mono ?_; rintro ee w3 ⟨he, hw3⟩; rw [show (Crc.sum B4).toNat = C1 from HC1.out.symm] at he; subst he; subst hw3))
    all_goals
      have hbw := ((Below.refl w.heap.size w).drew).trans hb2
      go_wp2_with fail
      refine (rfromFour_any v l l.length _ (by omega) rfl (hv.below' hbw)).mono ?_
      rintro ee w4 ⟨he, hb4⟩
      rw [← HN.out] at he
      subst he
      have hb4 := hbw.trans (hb4.mono hbw.size)
      clear hbw hb2
      have Hb := Lib.hid hb4
      clear hb4
      go_wp2
      go_ret3
      rw [e.out]
      exact ⟨_, rfl, new_nil _ _ Hb.out⟩
  by_cases h4 : l.length < 12 + N
  · have e : Hid (unrec l = ([], 0, 2)) := Lib.hid (by unfold unrec; rw [if_neg h1, ← HN.out, if_neg (by simp [H2.out]), if_neg h3, if_pos h4])
    have h4' : (l.length : Int) < 12 + (N : Int) := by omega
    go_enter Tryz.func91, Tryz.ntmps91
    go_wp2_with fail
    go_region_with (first
      | (go_at_call 98; refine (rfromFour_any v10 T4 T4.length _ hT4l rfl Hs10.out).mono ?_; rintro ee w2 ⟨he, hb2⟩; rw [← HM1.out] at he; subst he)
      | (go_at_call 99; refine (rsum_any v13 B4 _ (Hs13.out.below' hb2)).mono ?_; rintro ee w3 ⟨he, hw3⟩; rw [show (Crc.sum B4).toNat = C1 from HC1.out.symm] at he; subst he; subst hw3))
    all_goals
      have hbw := ((Below.refl w.heap.size w).drew).trans hb2
      go_wp2_with fail
      refine (rfromFour_any v l l.length _ (by omega) rfl (hv.below' hbw)).mono ?_
      rintro ee w4 ⟨he, hb4⟩
      rw [← HN.out] at he
      subst he
      have hb4 := hbw.trans (hb4.mono hbw.size)
      clear hbw hb2
      have Hb := Lib.hid hb4
      clear hb4
      go_wp2
      go_ret3
      rw [e.out]
      exact ⟨_, rfl, new_nil _ _ Hb.out⟩
  have h4' : ¬ ((l.length : Int) < 12 + (N : Int)) := by omega
  obtain ⟨v29, hr29, hs29⟩ := cut8 hv (some (.int .i64 (8 + (N : Int)))) none (8 + N) l.length (.inr ⟨.i64, by rw [Int.natCast_add]; rfl⟩) (.inl ⟨rfl, rfl⟩) (by omega) (Nat.le_refl _)
  obtain ⟨v34, hr34, hs34⟩ := cut8 hv none (some (.int .i64 (8 + (N : Int)))) 0 (8 + N) (.inl ⟨rfl, rfl⟩) (.inr ⟨.i64, by rw [Int.natCast_add]; rfl⟩) (by omega) (by omega)
  obtain ⟨v41, hr41, hs41⟩ := cut8 hv (some (.int .i64 8)) (some (.int .i64 (8 + (N : Int)))) 8 (8 + N) (.inr ⟨.i64, rfl⟩) (.inr ⟨.i64, by rw [Int.natCast_add]; rfl⟩) (by omega) (by omega)
  rw [show 8 + N - 8 = N from by omega] at hs41
  obtain ⟨T, hT⟩ : ∃ T, T = l.drop (8 + N) := ⟨_, rfl⟩
  obtain ⟨W, hW⟩ : ∃ W, W = l.take (8 + N) := ⟨_, rfl⟩
  rw [← hT, List.take_of_length_le (by rw [hT, List.length_drop]; omega)] at hs29
  rw [List.drop_zero, Nat.sub_zero, ← hW] at hs34
  have hTl : 4 ≤ T.length := by rw [hT, List.length_drop]; omega
  obtain ⟨C, hC⟩ : ∃ C, C = crc W := ⟨_, rfl⟩
  obtain ⟨M, hM⟩ : ∃ M, M = from4 T := ⟨_, rfl⟩
  obtain ⟨p, hp⟩ : ∃ p, p = (l.drop 8).take N := ⟨_, rfl⟩
  rw [← hp] at hs41
  have hpl : p.length = N := by rw [hp, List.length_take, List.length_drop]; omega
  have e : Hid (unrec l = if M ≠ C then ([], 0, 4) else (p, 12 + N, 0)) := Lib.hid (by
    unfold unrec
    rw [if_neg h1, ← HN.out, if_neg (by simp [H2.out]), if_neg h3, if_neg h4, hM, hC, hT, hW, hp])
  have HC := Lib.hid hC
  have HM := Lib.hid hM
  have Hs29 := Lib.hid hs29
  have Hs34 := Lib.hid hs34
  have Hs41 := Lib.hid hs41
  have Hpl := Lib.hid hpl
  clear hT hW hC hM hp hs29 hs34 hs41 hpl
  by_cases h5 : M = C
  · have e5 : ((M : Int) != (C : Int)) = false := by simp [h5]
    rw [if_neg (by simpa using h5)] at e
    clear h5
    go_enter Tryz.func91, Tryz.ntmps91
    go_wp2_with fail
    go_region_with (first
      | (go_at_call 98; refine (rfromFour_any v10 T4 T4.length _ hT4l rfl Hs10.out).mono ?_; rintro ee w2 ⟨he, hb2⟩; rw [← HM1.out] at he; subst he)
      | (go_at_call 99; refine (rsum_any v13 B4 _ (Hs13.out.below' hb2)).mono ?_; rintro ee w3 ⟨he, hw3⟩; rw [show (Crc.sum B4).toNat = C1 from HC1.out.symm] at he; subst he; subst hw3))
    all_goals
      have hbw := ((Below.refl w.heap.size w).drew).trans hb2
      go_wp2_with fail
      refine (rfromFour_any v l l.length _ (by omega) rfl (hv.below' hbw)).mono ?_
      rintro ee w4 ⟨he, hb4⟩
      rw [← HN.out] at he
      subst he
      have hb4 := hbw.trans (hb4.mono hbw.size)
      clear hbw hb2
      go_wp2_with fail
      have hb4d := hb4.drew
      have hwr : IntKind.i64.wrap (8 + (N : Int)) = 8 + (N : Int) := IntWalk.i64_in _ (by omega)
      go_region_with (first
        | (go_at_call 98; refine (rfromFour_any v29 T T.length _ hTl rfl (Hs29.out.below' hb4d)).mono ?_; rintro ee w5 ⟨he, hb5⟩; rw [← HM.out] at he; subst he; have hb45 := hb4d.trans (hb5.mono hb4d.size))
        | (go_at_call 99; refine (rsum_any v34 W _ (Hs34.out.below' hb45)).mono ?_; rintro ee w6 ⟨he, hw6⟩; rw [show (Crc.sum W).toNat = C from HC.out.symm] at he; subst he; subst hw6))
      all_goals
        clear hwr
        have H0 := ((Hold.start w).keeps hb45).addEmpty 5
        have hs := (Hs41.out.below' H0.old)
        go_wp2_with (at_builtin; refine wpList_app el8 H0 rfl _ _ rfl rfl rfl hs (u8s_one _) (by have := Hpl.out; omega) (by have := Hpl.out; omega) ?_; intro v7 xs7 w7 X7 H7)
        have Hf : Hid (New w p v7 w7) := Lib.hid (by
          rw [X7.out, List.nil_append, Nat.zero_add] at H7
          exact H7.fin)
        clear H0 H7 hs hb45 hb4d
        go_ret3
        rw [e.out]
        exact ⟨_, rfl, Hf.out⟩
  · have e5 : ((M : Int) != (C : Int)) = true := by simp; omega
    rw [if_pos (by simpa using h5)] at e
    clear h5
    go_enter Tryz.func91, Tryz.ntmps91
    go_wp2_with fail
    go_region_with (first
      | (go_at_call 98; refine (rfromFour_any v10 T4 T4.length _ hT4l rfl Hs10.out).mono ?_; rintro ee w2 ⟨he, hb2⟩; rw [← HM1.out] at he; subst he)
      | (go_at_call 99; refine (rsum_any v13 B4 _ (Hs13.out.below' hb2)).mono ?_; rintro ee w3 ⟨he, hw3⟩; rw [show (Crc.sum B4).toNat = C1 from HC1.out.symm] at he; subst he; subst hw3))
    all_goals
      have hbw := ((Below.refl w.heap.size w).drew).trans hb2
      go_wp2_with fail
      refine (rfromFour_any v l l.length _ (by omega) rfl (hv.below' hbw)).mono ?_
      rintro ee w4 ⟨he, hb4⟩
      rw [← HN.out] at he
      subst he
      have hb4 := hbw.trans (hb4.mono hbw.size)
      clear hbw hb2
      go_wp2_with fail
      have hb4d := hb4.drew
      have hwr : IntKind.i64.wrap (8 + (N : Int)) = 8 + (N : Int) := IntWalk.i64_in _ (by omega)
      go_region_with (first
        | (go_at_call 98; refine (rfromFour_any v29 T T.length _ hTl rfl (Hs29.out.below' hb4d)).mono ?_; rintro ee w5 ⟨he, hb5⟩; rw [← HM.out] at he; subst he; have hb45 := hb4d.trans (hb5.mono hb4d.size))
        | (go_at_call 99; refine (rsum_any v34 W _ (Hs34.out.below' hb45)).mono ?_; rintro ee w6 ⟨he, hw6⟩; rw [show (Crc.sum W).toNat = C from HC.out.symm] at he; subst he; subst hw6))
      all_goals
        clear hwr
        have Hb := Lib.hid hb45
        clear hb45 hb5 hb4 hb4d
        go_wp2
        go_ret3
        rw [e.out]
        exact ⟨_, rfl, new_nil _ _ Hb.out⟩
set_option maxRecDepth 100000 in
set_option maxHeartbeats 800000 in
theorem rone_any (v : Value) (l : List UInt8) (w : World) (hv : Sl w 1 v l.length (u8s l)) (hl : l.length ≤ 1000000000000) :
    Calls Tryz.prog 88 #[v] w (RetE (New w (unone l).1) (unone l).2) := by
  have hlen := hv.run_len Tryz.underlying22
  have hd := rdecode_any v l w hv hl
  have hbad : (unrec l).2.2 ≠ 0 → (unrec l).1 = [] := fun h => (unrec_bad l h).1
  obtain ⟨p, hp⟩ : ∃ p, p = (unrec l).1 := ⟨_, rfl⟩
  obtain ⟨n, hn⟩ : ∃ n, n = (unrec l).2.1 := ⟨_, rfl⟩
  obtain ⟨e, he⟩ : ∃ e, e = (unrec l).2.2 := ⟨_, rfl⟩
  have hu : unone l = if e = 0 ∧ n ≠ l.length then ([], 3) else (p, e) := by unfold unone; rw [hp, hn, he]
  rw [← hp, ← hn, ← he] at hd
  rw [← hp, ← he] at hbad
  rw [hu]
  have Hd := Lib.hid hd
  have Hbad := Lib.hid hbad
  clear hd hp hn he hu hv hbad
  by_cases h0 : e = 0
  · subst h0
    by_cases h1 : n = l.length
    · rw [if_neg (by simp [h1])]
      subst h1
      have hq : ((l.length : Int) != (l.length : Int)) = false := by simp
      go_enter Tryz.func88, Tryz.ntmps88
      go_wp2_with fail
      refine Hd.out.mono ?_
      rintro ee w1 ⟨v1, rfl, h1⟩
      have H1 := Lib.hid h1
      clear h1
      go_wp2
      go_ret2
      exact ⟨v1, rfl, H1.out⟩
    · rw [if_pos ⟨rfl, h1⟩]
      have hq : ((n : Int) != (l.length : Int)) = true := by simp; omega
      clear h1
      go_enter Tryz.func88, Tryz.ntmps88
      go_wp2_with fail
      refine Hd.out.mono ?_
      rintro ee w1 ⟨v1, rfl, h1⟩
      have H1 := Lib.hid h1.2
      clear h1
      go_wp2
      go_ret2
      exact ⟨_, rfl, new_nil _ _ H1.out⟩
  · rw [if_neg (by simp [h0]), Hbad.out h0]
    have hq : ((e : Int) == 0) = false := by simp; omega
    have hq2 : ((e : Int) != 0) = true := by simp; omega
    clear h0
    go_enter Tryz.func88, Tryz.ntmps88
    go_wp2_with fail
    refine Hd.out.mono ?_
    rintro ee w1 ⟨v1, rfl, h1⟩
    have H1 := Lib.hid h1.2
    clear h1
    go_wp2
    go_ret2
    exact ⟨_, rfl, new_nil _ _ H1.out⟩
end Go.Proofs.YtkbfjgmgckbogaaGreat.Fr

/-
  The walks of the reference of chapter 2: Decode, One, Scan.
-/


namespace Go.Proofs.YtkbfjgmgckbogaaGreat.Fr
open Go.RowKit L Oct
set_option maxRecDepth 100000 in
set_option maxHeartbeats 1600000 in
theorem rscan_own (v : Value) (l : List UInt8) (w : World) (hv : Sl w 1 v l.length (u8s l)) (hl : l.length ≤ 1000000000) :
    Calls Tryz.prog 70 #[v] w (RetE (NewOwn w (scan l).1) (scan l).2) := by
  have hlen := hv.run_len Tryz.underlying22
  go_enter Tryz.func70, Tryz.ntmps70
  go_wp2
  go_loopw [4, 5] (fun y i wr => ∃ (a : Nat) (vs : List Value) (ls : List (List UInt8)), a ≤ l.length ∧ i = .int .i64 a ∧ ls.length ≤ a ∧ Hid (scan l = (ls ++ (scan (l.drop a)).1, a + (scan (l.drop a)).2)) ∧
    Hold w ((Row 22 1 y ls.length vs).sep ((Inner vs ls).sep Asrt.emp)) wr) (fun _ i _ => l.length - (intOf i).toNat)
  case atStart => exact ⟨0, [], [], Nat.zero_le _, rfl, Nat.le_refl _, Lib.hid (by simp), (Hold.start w).addInnerNil.addNil _ _⟩
  case round =>
    obtain ⟨a, vs, ls, ha, rfl, hla, HS, H⟩ := hrel
    by_cases hlt : a < l.length
    · obtain ⟨v14, hr14, hs14⟩ := cut8 hv (some (.int .i64 (a : Int))) none a l.length (.inr ⟨.i64, rfl⟩) (.inl ⟨rfl, rfl⟩) ha (Nat.le_refl _)
      obtain ⟨T, hT⟩ : ∃ T, T = l.drop a := ⟨_, rfl⟩
      have hTl : T.length = l.length - a := by rw [hT, List.length_drop]
      rw [← hT, List.take_of_length_le (by omega)] at hs14
      have hd := rdecode_any v14 T wr (hs14.below' H.old) (by omega)
      rw [← hT] at HS
      obtain ⟨p, hp⟩ : ∃ p, p = (unrec T).1 := ⟨_, rfl⟩
      obtain ⟨n, hn⟩ : ∃ n, n = (unrec T).2.1 := ⟨_, rfl⟩
      obtain ⟨e, he⟩ : ∃ e, e = (unrec T).2.2 := ⟨_, rfl⟩
      rw [← hp, ← hn, ← he] at hd
      have Hd := Lib.hid hd
      have HT := Lib.hid hT
      have Hp := Lib.hid hp
      have Hn := Lib.hid hn
      have He := Lib.hid he
      have HTl := Lib.hid hTl
      clear hs14 hd hT hp hn he hTl
      by_cases h0 : e = 0
      · subst h0
        have h0' : (unrec T).2.2 = 0 := He.out.symm
        obtain ⟨u1, u2, u3⟩ := unrec_step T h0'
        rw [← Hn.out] at u1 u2
        rw [← Hp.out] at u3
        have hst := scan_ok T (by intro e; have := HTl.out; rw [e] at this; simp at this; omega) h0'
        rw [← Hn.out, ← Hp.out] at hst
        have Hst := Lib.hid hst
        have hll := HTl.out
        have U3 := Lib.hid u3
        have hpl : p.length ≤ 1000000000 := by omega
        have han : a + n ≤ l.length := by omega
        have h12 : ls.length + 1 ≤ a + n := by omega
        clear hst h0' u3 hll
        go_wp2_with fail
        refine Hd.out.mono ?_
        rintro ee w1 ⟨v1, rfl, h1⟩
        obtain ⟨p1, c1, rfl⟩ := h1.1.shape
        have H1 := (Hold.addInner H.up2 h1.2 h1.1).up2
        clear h1
        go_wp2_with (at_builtin; refine wpList_appLit elR H1 [.slice p1 p.length c1] rfl _ _ rfl rfl rfl rfl (by simp [Value.oneCell']) (by simp; omega) (by simp; omega) ?_; intro v8 xs8 w8 X8 H8)
        have H9 : Hid (Hold w ((Row 22 1 v8 (ls ++ [p]).length (vs ++ [.slice p1 p.length c1])).sep ((Inner (vs ++ [.slice p1 p.length c1]) (ls ++ [p])).sep Asrt.emp)) w8) := Lib.hid (by
          rw [X8.out, show ls.length + [Value.slice p1 p.length c1].length = (ls ++ [p]).length from by simp] at H8
          exact H8)
        clear H8 H1 H
        go_roundw
        case rel => exact ⟨a + n, vs ++ [.slice p1 p.length c1], ls ++ [p], han, by go_num, by simp; omega, Lib.hid (by rw [HS.out, Hst.out, HT.out, List.drop_drop]; simp only [List.append_assoc, List.cons_append, List.nil_append, Prod.mk.injEq, true_and]; omega), H9.out⟩
        case measure => simp [intOf]; omega
      · have hq : ((e : Int) != 0) = true := by simp; omega
        have hst := scan_bad T (by rw [← He.out]; exact h0)
        rw [hst, List.append_nil] at HS
        clear h0 hst
        go_wp2_with fail
        refine Hd.out.mono ?_
        rintro ee w1 ⟨v1, rfl, h1⟩
        have Hf : Hid (NewOwn w ls u4 w1) := Lib.hid ⟨vs, H.keeps h1.2⟩
        clear h1 H
        go_wp2
        go_ret2
        rw [HS.out]
        exact ⟨_, rfl, Hf.out⟩
    · obtain rfl : a = l.length := by omega
      rw [List.drop_length, scan_nil, List.append_nil] at HS
      have Hf : Hid (NewOwn w ls u4 wr) := Lib.hid ⟨vs, H⟩
      clear H
      go_wp2
      go_ret2
      rw [HS.out]
      exact ⟨_, rfl, Hf.out⟩
theorem rscan_any (v : Value) (l : List UInt8) (w : World) (hv : Sl w 1 v l.length (u8s l)) (hl : l.length ≤ 1000000000) :
    Calls Tryz.prog 70 #[v] w (RetE (NewRows w (scan l).1) (scan l).2) := by
  refine (rscan_own v l w hv hl).mono ?_
  rintro e w' ⟨v', rfl, vs, h⟩
  exact ⟨v', rfl, h.rowsAt rfl, h.old⟩
end Go.Proofs.YtkbfjgmgckbogaaGreat.Fr
