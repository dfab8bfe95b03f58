/-
  The reference of chapter 4: has, Whole, Save, Load, over the reference's disk.
-/
import Derived.Test.YtfkingloapohjaaKeepLike
import Derived.Test.YtfkingloapohjaaRefPut
import Derived.Test.YtfkingloapohjaaRefGone
import Derived.Test.YtfkingloapohjaaRefRename
import Derived.Test.YtfkingloapohjaaFrameRefOne
import Derived.Test.YtfkingloapohjaaF10
namespace Go.Proofs.Ytfkingloapohjaa.Kp
open Go.RowKit L Oct Dsk Fr
section
variable {W0 w : World} {R : Asrt} {b n : Nat} {d : D} {r : RD}
theorem xhas_any (H : Hold W0 ((RefA b r).sep R) w) (hu : used r.fs ≤ 140737488355328) (s : ByteArray) : Calls Try.prog 66 #[ptr b, .string s] w (RetThere w (isAt r.fs s)) := by
  have hr := xread_any H hu s
  unfold ptr at hr ⊢
  cases ha : isAt r.fs s with
  | false =>
    have Hr : Hid (r.read s = none) := Lib.hid (by rw [RD.read, ha]; rfl)
    have HR := Lib.hid hr
    clear hr ha
    go_enter Try.func66, Try.ntmps66
    go_wp2_with fail
    refine HR.out.mono ?_
    intro e w6 h6
    rw [Hr.out] at h6
    rcases h6 with ⟨_, rfl, hb6⟩ | ⟨x, v6, hx, _⟩
    case inr => cases hx
    go_wp2
    go_ret
    exact ⟨rfl, hb6⟩
  | true =>
    have Hr : Hid (∃ x, r.read s = some x) := Lib.hid ⟨_, by rw [RD.read, ha, if_pos rfl]⟩
    have HR := Lib.hid hr
    clear hr ha
    go_enter Try.func66, Try.ntmps66
    go_wp2_with fail
    refine HR.out.mono ?_
    intro e w6 h6
    obtain ⟨y, hy⟩ := Hr.out
    rw [hy] at h6
    rcases h6 with ⟨h6, _⟩ | ⟨x, v6, _, rfl, _, hb6⟩
    · cases h6
    clear hy
    go_wp2
    go_ret
    exact ⟨rfl, hb6⟩
set_option maxHeartbeats 800000 in
theorem rload_any (H : Hold W0 ((RefA b r).sep R) w) (hu : used r.fs ≤ 1073741824) (s : ByteArray) : Calls Try.prog 20 #[ptr b, .string s] w (RetLoad w (rload r s)) := by
  have hr := xread_any H (by omega) s
  unfold ptr at hr ⊢
  cases ha : isAt r.fs s with
  | false =>
    have Hr : Hid (r.read s = none) := Lib.hid (by rw [RD.read, ha]; rfl)
    have HR := Lib.hid hr
    have he : Hid (rload r s = ([], 7)) := Lib.hid (by rw [rload, Hr.out])
    clear hr ha
    go_enter Try.func20, Try.ntmps20
    go_wp2_with fail
    refine HR.out.mono ?_
    intro e w6 h6
    rw [Hr.out] at h6
    rcases h6 with ⟨_, rfl, hb6⟩ | ⟨x, v6, hx, _⟩
    case inr => cases hx
    have Hb := Lib.hid hb6
    clear hb6
    go_wp2
    go_ret2
    rw [he.out]
    exact ⟨_, rfl, Own.nil _ _ _ _, Hb.out⟩
  | true =>
    obtain ⟨y, hy⟩ : ∃ y, y = (r.fs.getD (spotN r.fs s) default).data := ⟨_, rfl⟩
    have hyl : y.length ≤ 1073741824 := by
      have hlt := isAt_lt ha
      have := used_get hlt
      rw [← hy] at this; omega
    have Hr : Hid (r.read s = some y) := Lib.hid (by rw [RD.read, ha, if_pos rfl, ← hy])
    have HR := Lib.hid hr
    clear hr ha hy
    go_enter Try.func20, Try.ntmps20
    go_wp2_with fail
    refine HR.out.mono ?_
    intro e w6 h6
    rw [Hr.out] at h6
    rcases h6 with ⟨h6, _⟩ | ⟨x, v6, hx, rfl, ho6, hb6⟩
    · cases h6
    obtain rfl : y = x := by simpa using hx
    clear hx
    by_cases h0 : (unone y).2 = 0
    · have he : Hid (rload r s = ((unone y).1, 0)) := Lib.hid (by rw [rload, Hr.out]; show (if (unone y).2 = 0 then _ else _) = _; rw [if_pos h0])
      go_wp2_with fail
      refine (rone_any v6 y _ ho6.sl (by omega)).mono ?_
      rintro e w3 ⟨v3, rfl, ho3, hb3⟩
      have Ho := Lib.hid (ho3.from (B' := w.heap.size) fun k hk => Nat.le_trans hb6.size (ho3.lt k hk).1)
      have Hb := Lib.hid (hb6.trans (hb3.mono hb6.size))
      rw [h0]
      clear h0 ho6 hb6 ho3 hb3
      go_wp2
      go_ret2
      rw [he.out]
      exact ⟨_, rfl, Ho.out, Hb.out⟩
    · have he : Hid (rload r s = ([], 3)) := Lib.hid (by rw [rload, Hr.out]; show (if (unone y).2 = 0 then _ else _) = _; rw [if_neg h0])
      obtain ⟨m, hm⟩ : ∃ m : Nat, m = (unone y).2 := ⟨_, rfl⟩
      have hm0 : ((m : Int) == 0) = false := by rw [beq_eq_false_iff_ne]; omega
      have hm1 : ((m : Int) != 0) = true := by simp; omega
      have Hm := Lib.hid hm
      clear h0 hm
      go_wp2_with fail
      refine (rone_any v6 y _ ho6.sl (by omega)).mono ?_
      rintro e w3 ⟨v3, rfl, ho3, hb3⟩
      rw [← Hm.out]
      have Hb := Lib.hid (hb6.trans (hb3.mono hb6.size))
      clear ho6 hb6 ho3 hb3
      go_wp2
      go_ret2
      rw [he.out]
      exact ⟨_, rfl, Own.nil _ _ _ _, Hb.out⟩
set_option maxRecDepth 100000 in
set_option maxHeartbeats 1600000 in
theorem whole_any (H : Hold W0 ((RefA b r).sep R) w) (hl : Like d r) (hi : DInv d n) (hn : n ≤ 4000) (s : ByteArray) (hss : s.size ≤ 2000000) (v : Value) (x : List UInt8) (hv : Reads W0 R 1 v (rec_ x).length (u8s (rec_ x))) (hx : (rec_ x).length ≤ 1073741824) :
    Calls Try.prog 40 #[ptr b, .string s, v] w (RetX W0 R b (rwhole r s x)) := by
  have hrun := fun w' : World => run_string_add_sum (P := Try.prog) (w := w') s ⟨#[126]⟩ (by show s.size + 1 ≤ _; omega)
  have HL := Lib.hid hl
  have HI := Lib.hid hi
  have HH := Lib.hid H
  have HV := Lib.hid hv
  clear hl hi H hv hss
  unfold ptr
  go_enter Try.func40, Try.ntmps40
  go_wp2_with fail
  have hc : isAt r.fs (sh s) = false ∨ (isAt r.fs (sh s) = true ∧ (r.remove (sh s)).2 = 0) ∨ (isAt r.fs (sh s) = true ∧ ¬ (r.remove (sh s)).2 = 0) := by
    cases isAt r.fs (sh s) with
    | false => exact .inl rfl
    | true =>
      by_cases h0 : (r.remove (sh s)).2 = 0
      · exact .inr (.inl ⟨rfl, h0⟩)
      · exact .inr (.inr ⟨rfl, h0⟩)
  refine (xhas_any HH.out (by have := HL.out.usedr HI.out; omega) (sh s)).mono ?_
  rintro e w2 ⟨rfl, hb2⟩
  have H2 := HH.out.keeps hb2
  clear HH hb2
  rcases hc with hg | ⟨hg, h0⟩ | ⟨hg, h0⟩
  case' inl =>
    rw [hg]
    obtain ⟨d1, hd1⟩ : ∃ d1, d1 = d := ⟨_, rfl⟩
    obtain ⟨r1, hr1⟩ : ∃ r1, r1 = r := ⟨_, rfl⟩
    have hS : Hid (rwhole r s x = rtail r1 s x) := Lib.hid (by rw [hr1, rwhole, hg]; rfl)
    rw [← hd1, ← hr1] at HL
    rw [← hd1] at HI
    rw [← hr1] at H2
    have H4 := Lib.hid H2
    clear H2 hg hd1 hr1
  case' inr.inl =>
    rw [hg]
    have hS : Hid (rwhole r s x = rtail (r.remove (sh s)).1 s x) := Lib.hid (by rw [rwhole, hg, if_pos rfl, if_pos h0])
    have H0 := Lib.hid h0
    clear hg h0
    go_wp2_with fail
    refine (xRemove_any H2 (HL.out.ok HI.out (by omega)) (sh s)).mono ?_
    rintro e w3 ⟨rfl, H3⟩
    rw [H0.out]
    have HL1 := Lib.hid (like_remove HL.out (sh s)).2
    have HI1 := Lib.hid (HI.out.remove (sh s))
    clear HL HI
    obtain ⟨d1, hd1⟩ : ∃ d1, d1 = (d.remove [sh s]).1 := ⟨_, rfl⟩
    obtain ⟨r1, hr1⟩ : ∃ r1, r1 = (r.remove (sh s)).1 := ⟨_, rfl⟩
    rw [← hd1, ← hr1] at HL1
    rw [← hd1] at HI1
    rw [← hr1] at H3 hS
    have H4 := Lib.hid H3
    have HL := HL1
    have HI := HI1
    clear H2 H3 hd1 hr1 HL1 HI1 H0
  case inr.inr =>
    rw [hg]
    have hS : Hid (rwhole r s x = r.remove (sh s)) := Lib.hid (by rw [rwhole, hg, if_pos rfl, if_neg h0])
    obtain ⟨m, hm⟩ : ∃ m : Nat, m = (r.remove (sh s)).2 := ⟨_, rfl⟩
    have hm0 : ((m : Int) == 0) = false := by rw [beq_eq_false_iff_ne]; omega
    have hm1 : ((m : Int) != 0) = true := by simp; omega
    have Hm := Lib.hid hm
    clear hg h0 hm
    go_wp2_with fail
    refine (xRemove_any H2 (HL.out.ok HI.out (by omega)) (sh s)).mono ?_
    rintro e w3 ⟨rfl, H3⟩
    rw [← Hm.out]
    have H4 := Lib.hid H3
    clear H2 H3
    go_wp2
    go_ret
    rw [hS.out]
    exact ⟨ret_int (by rw [Hm.out]), H4.out⟩
  all_goals
    have HA := Lib.hid (like_append HL.out (sh s) (rec_ x)).2
    have HAi := Lib.hid (HI.out.append (sh s) (rec_ x))
    have HB := Lib.hid (like_sync HA.out (sh s)).2
    have HBi := Lib.hid (HAi.out.sync (sh s))
    go_wp2_with fail
    refine (xappend_any H4.out (HL.out.ok HI.out (by omega)) (HL.out.usedr HI.out) (sh s) v (rec_ x) HV.out hx).mono ?_
    rintro e w5 ⟨rfl, H5⟩
    by_cases h2 : (r1.append (sh s) (rec_ x)).2 = 0
    · have H2h := Lib.hid h2
      rw [h2]
      clear h2 H4
      go_wp2_with fail
      refine (xsync_any H5 (HA.out.ok HAi.out (by omega)) (sh s)).mono ?_
      rintro e w6 ⟨rfl, H6⟩
      clear H5
      by_cases h3 : ((r1.append (sh s) (rec_ x)).1.sync (sh s)).2 = 0
      · have hS2 : Hid (rwhole r s x = ((r1.append (sh s) (rec_ x)).1.sync (sh s)).1.rename (sh s) s) := Lib.hid (by rw [hS.out, rtail, if_pos H2h.out, if_pos h3])
        rw [h3]
        clear h3
        go_wp2_with fail
        refine (xrename_any H6 (HB.out.ok HBi.out (by omega)) (sh s) s).mono ?_
        rintro e w7 ⟨rfl, H7⟩
        have H8 := Lib.hid H7
        clear H6 H7
        go_wp2
        go_ret
        rw [hS2.out]
        exact ⟨rfl, H8.out⟩
      · have hS2 : Hid (rwhole r s x = (r1.append (sh s) (rec_ x)).1.sync (sh s)) := Lib.hid (by rw [hS.out, rtail, if_pos H2h.out, if_neg h3])
        obtain ⟨m, hm⟩ : ∃ m : Nat, m = ((r1.append (sh s) (rec_ x)).1.sync (sh s)).2 := ⟨_, rfl⟩
        have hm0 : ((m : Int) == 0) = false := by rw [beq_eq_false_iff_ne]; omega
        rw [← hm]
        have Hm := Lib.hid hm
        have H8 := Lib.hid H6
        clear H6 h3 hm
        go_wp2
        go_ret
        rw [hS2.out]
        exact ⟨ret_int (by rw [Hm.out]), H8.out⟩
    · have hS2 : Hid (rwhole r s x = r1.append (sh s) (rec_ x)) := Lib.hid (by rw [hS.out, rtail, if_neg h2])
      obtain ⟨m, hm⟩ : ∃ m : Nat, m = (r1.append (sh s) (rec_ x)).2 := ⟨_, rfl⟩
      have hm0 : ((m : Int) == 0) = false := by rw [beq_eq_false_iff_ne]; omega
      rw [← hm]
      have Hm := Lib.hid hm
      have H8 := Lib.hid H5
      clear H5 h2 hm H4
      go_wp2
      go_ret
      rw [hS2.out]
      exact ⟨ret_int (by rw [Hm.out]), H8.out⟩
set_option maxRecDepth 100000 in
set_option maxHeartbeats 1600000 in
theorem rsave_any (H : Hold W0 ((RefA b r).sep R) w) (hl : Like d r) (hi : DInv d n) (hn : n ≤ 4000) (s : ByteArray) (hss : s.size ≤ 2000000) (v : Value) (x : List UInt8) (hv : Reads W0 R 1 v x.length (u8s x)) (hx : x.length ≤ 1048576) :
    Calls Try.prog 19 #[ptr b, .string s, v] w (RetX W0 R b (rsave r s x)) := by
  have HL := Lib.hid hl
  have HI := Lib.hid hi
  have HH := Lib.hid H
  have Hr : (rec_ x).length ≤ 2000000 := by rw [rec_length]; omega
  have HR := Lib.hid Hr
  have hsv := hv _ H.drop1
  have HS := Lib.hid hsv
  clear hl hi H hv Hr hsv
  unfold ptr
  by_cases hs : 1 ≤ s.size ∧ s.size ≤ 60
  · have hS : Hid (rsave r s x = rwhole r s x) := Lib.hid (by rw [rsave, if_pos hs])
    obtain ⟨hs1, hs2⟩ := hs
    have g1 : decide ((s.size : Int) < 1) = false := by simp; omega
    have g2 : decide ((60 : Int) < (s.size : Int)) = false := by simp; omega
    go_enter Try.func19, Try.ntmps19
    go_wp2_with fail
    refine (rencode_any v x _ HS.out hx).mono ?_
    rintro e w2 ⟨v2, rfl, ho2, hb2⟩
    have H2 := Lib.hid (HH.out.addRow hb2 ho2).up2
    clear HH ho2 hb2
    go_wp2_with fail
    refine (whole_any H2.out HL.out HI.out hn s hss v2 x Reads.row (by have := HR.out; omega)).mono ?_
    rintro e w3 ⟨rfl, H3⟩
    have H4 := Lib.hid H3.up2.drop1
    clear H2 H3
    go_wp2
    go_ret
    rw [hS.out]
    exact ⟨rfl, H4.out⟩
  · have hS : Hid (rsave r s x = (r, 1)) := Lib.hid (by rw [rsave, if_neg hs])
    by_cases hs1 : s.size < 1
    · have g1 : decide ((s.size : Int) < 1) = true := by simp; omega
      clear hs
      go_enter Try.func19, Try.ntmps19
      go_wp2
      go_ret
      rw [hS.out]
      exact ⟨rfl, HH.out⟩
    · have g1 : decide ((s.size : Int) < 1) = false := by simp; omega
      have g2 : decide ((60 : Int) < (s.size : Int)) = true := by simp; omega
      clear hs
      go_enter Try.func19, Try.ntmps19
      go_wp2
      go_ret
      rw [hS.out]
      exact ⟨rfl, HH.out⟩
end
end Go.Proofs.Ytfkingloapohjaa.Kp
