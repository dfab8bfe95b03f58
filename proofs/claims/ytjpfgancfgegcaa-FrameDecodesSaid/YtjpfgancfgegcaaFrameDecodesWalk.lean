/-
  The walk of the law FrameDecodes: it answers true.
-/
import Derived.Test.YtjpfgancfgegcaaFrameKnown
import Derived.Test.YtjpfgancfgegcaaFrameRefDec
namespace Go.Proofs.Ytjpfgancfgegcaa.frameDecodes
open Go.RowKit L Oct Fr
set_option maxRecDepth 100000 in
set_option maxHeartbeats 3200000 in
theorem walk {w : World} (v0 : Value) (l0 : List UInt8) (h0 : Sl w 1 v0 l0.length (u8s l0)) (_b0 : l0.length ≤ 140737488351232) :
    Calls Try.prog 7 #[v0] w fun e w' => e = .returned (.bool true) ∧ Below w.heap.size w w' := by
  have hlen0 := h0.run_len Try.underlying22
  by_cases hbig : 4000 < l0.length
  · go_enter Try.func7, Try.ntmps7
    go_wp2
    go_ret
    exact ⟨rfl, Below.refl _ _⟩
  have hl4 : l0.length ≤ 4000 := by omega
  obtain ⟨p, hp⟩ : ∃ p, p = (unrec l0).1 := ⟨_, rfl⟩
  obtain ⟨n, hn⟩ : ∃ n, n = (unrec l0).2.1 := ⟨_, rfl⟩
  obtain ⟨ee, hee⟩ : ∃ e, e = (unrec l0).2.2 := ⟨_, rfl⟩
  obtain ⟨p1, hp1⟩ : ∃ p, p = (unone l0).1 := ⟨_, rfl⟩
  obtain ⟨e1, he1⟩ : ∃ e, e = (unone l0).2 := ⟨_, rfl⟩
  obtain ⟨rs, hrs⟩ : ∃ e, e = (scan l0).1 := ⟨_, rfl⟩
  obtain ⟨k1, hk1⟩ : ∃ e, e = (scan l0).2 := ⟨_, rfl⟩
  have hpl : p.length ≤ 4000 := by
    rw [hp]
    by_cases h : (unrec l0).2.2 = 0
    · have := (unrec_step l0 h).2.2; omega
    · rw [(unrec_bad l0 h).1]; simp
  have Hp := Lib.hid hp
  have Hn := Lib.hid hn
  have Hee := Lib.hid hee
  have Hp1 := Lib.hid hp1
  have He1 := Lib.hid he1
  have Hrs := Lib.hid hrs
  have Hk1 := Lib.hid hk1
  have q1 : ((n : Int) != (n : Int)) = false := by simp
  have q2 : ((ee : Int) != (ee : Int)) = false := by simp
  have q3 : ((k1 : Int) != (k1 : Int)) = false := by simp
  have q4 : ((e1 : Int) != (e1 : Int)) = false := by simp
  clear hp hn hee hp1 he1 hrs hk1 hbig
  go_enter Try.func7, Try.ntmps7
  go_wp2_with fail
  refine (roomy_any v0 l0 w h0 (by omega)).mono ?_
  rintro e w1 ⟨v1, rfl, ho1, hb1⟩
  obtain ⟨q, c, rfl⟩ := ho1.shape
  have hr2 := run_slice_lit (P := Try.prog) ho1 Try.underlying22 Try.size5 l0.length (by omega) (.int .i64 (l0.length : Int)) ⟨_, rfl⟩
  have s1 : Sl w1 1 (.slice q (l0.length + 1) c) (l0 ++ [171]).length (u8s (l0 ++ [171])) := by
    have := ho1.sl
    rw [show (l0 ++ [(171 : UInt8)]).length = l0.length + 1 from by simp]
    exact this
  have s2 : Sl w1 1 (.slice q l0.length c) l0.length (u8s l0) := by
    have := (ho1.take (m := l0.length) (by omega) rfl).sl
    rw [u8s_append, Nat.mul_one, ← u8s_length l0, List.take_left, u8s_length] at this
    exact this
  have s0 := h0.below' hb1
  have S1 := Lib.hid s1
  clear ho1 s1
  go_wp2_with fail
  refine (decode_any _ l0 w1 s2 (by omega)).mono ?_
  rintro e w2 ⟨v2, he, h2⟩
  rw [← Hn.out, ← Hee.out] at he
  rw [← Hp.out] at h2
  subst he
  have H2 := Hold.of_own h2.1 h2.2
  have hb12 := h2.2
  have sp := h2.1.sl
  clear h2
  go_wp2_with fail
  refine (rdecode_any _ l0 w2 (s0.below' hb12) (by omega)).mono ?_
  rintro e w3 ⟨v3, he, h3⟩
  rw [← Hn.out, ← Hee.out] at he
  rw [← Hp.out] at h3
  subst he
  have hb13 := hb12.trans (h3.2.mono hb12.size)
  have H3 := H2.keeps h3.2
  have sp := sp.below' h3.2
  have sq := h3.1.sl
  clear h3 H2 hb12
  go_wp2_with fail
  refine (one_any _ l0 w3 (s2.below' hb13) (by omega)).mono ?_
  rintro e w4 ⟨v4, he, h4⟩
  rw [← He1.out] at he
  rw [← Hp1.out] at h4
  subst he
  have hb14 := hb13.trans (h4.2.mono hb13.size)
  have H4 := H3.keeps h4.2
  have sp := sp.below' h4.2
  have sq := sq.below' h4.2
  have sx := h4.1.sl
  clear h4 H3 hb13
  go_wp2_with fail
  refine (rone_any _ l0 w4 (s0.below' hb14) (by omega)).mono ?_
  rintro e w5 ⟨v5, he, h5⟩
  rw [← He1.out] at he
  rw [← Hp1.out] at h5
  subst he
  have hb15 := hb14.trans (h5.2.mono hb14.size)
  have H5 := H4.keeps h5.2
  have sp := sp.below' h5.2
  have sq := sq.below' h5.2
  have sx := sx.below' h5.2
  have sy := h5.1.sl
  clear h5 H4 hb14
  go_wp2_with fail
  refine (scan_any _ l0 w5 (s2.below' hb15) (by omega)).mono ?_
  rintro e w6 ⟨v6, he, h6⟩
  rw [← Hk1.out] at he
  rw [← Hrs.out] at h6
  subst he
  have hb16 := hb15.trans (h6.2.mono hb15.size)
  have H6 := H5.keeps h6.2
  have sp := sp.below' h6.2
  have sq := sq.below' h6.2
  have sx := sx.below' h6.2
  have sy := sy.below' h6.2
  have sl := h6.1
  clear h6 H5 hb15
  go_wp2_with fail
  refine (rscan_any _ l0 w6 (s0.below' hb16) (by omega)).mono ?_
  rintro e w7 ⟨v7, he, h7⟩
  rw [← Hk1.out] at he
  rw [← Hrs.out] at h7
  subst he
  have H7 := H6.keeps h7.2
  have sp := sp.below' h7.2
  have sq := sq.below' h7.2
  have sx := sx.below' h7.2
  have sy := sy.below' h7.2
  have sl := sl.below' h7.2
  have so := h7.1
  clear h7 H6 hb16
  go_wp2_with fail
  refine (same_any _ _ p p _ sp sq).mono ?_
  rintro e w8 ⟨rfl, hb8⟩
  rw [show decide (p = p) = true from by simp]
  have H8 := H7.keeps hb8
  have sx := sx.below' hb8
  have sy := sy.below' hb8
  have sl := sl.below' hb8
  have so := so.below' hb8
  clear hb8 H7 sp sq
  go_wp2_with fail
  refine (rows_eq _ _ rs _ sl so).mono ?_
  rintro e w9 ⟨rfl, hb9⟩
  have H9 := H8.keeps hb9
  have sx := sx.below' hb9
  have sy := sy.below' hb9
  clear hb9 H8 sl so
  go_wp2_with fail
  refine (same_any _ _ p1 p1 _ sx sy).mono ?_
  rintro e w10 ⟨rfl, hb10⟩
  rw [show decide (p1 = p1) = true from by simp]
  have H10 := H9.keeps hb10
  clear hb10 H9 sx sy
  go_wp2_with fail
  refine (spoil_any H10 (by omega)).mono ?_
  rintro e w11 ⟨rfl, H11⟩
  have hb11 := H11.old
  clear H10 H11
  go_wp2_with fail
  refine (stands_any _ v0 l0 w11 (S1.out.below' hb11) (s0.below' hb11)).mono ?_
  rintro e w12 ⟨rfl, hb12⟩
  have hbw := hb1.trans ((hb11.trans (hb12.mono hb11.size)).mono hb1.size)
  clear hb12 hb11 hb1 s0 s2
  go_wp2_with fail
  refine (known_any _).mono ?_
  rintro e w13 ⟨rfl, hb13⟩
  have Hf := Lib.hid (hbw.trans (hb13.mono hbw.size))
  clear hb13 hbw
  go_wp2
  go_ret
  exact ⟨rfl, Hf.out⟩
end Go.Proofs.Ytjpfgancfgegcaa.frameDecodes
