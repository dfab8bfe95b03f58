/-
  The reference of chapter 4: Clear, over the reference's disk.
-/
import Derived.Test.YtfkingloapohjaaRKeep
import Derived.Test.YtfkingloapohjaaF13
import Derived.Deep.QuietTactic
import Derived.BigQuiet
namespace Go.Proofs.Ytfkingloapohjaa.Kp
open Go.RowKit L Oct Dsk Fr
section
variable {W0 w : World} {R : Asrt} {b n : Nat} {d : D} {r : RD}
theorem hasN_snoc {l : List ByteArray} {k : Nat} (hk : k < l.length) (s : ByteArray) : hasN (l.take (k + 1)) s = (hasN (l.take k) s || ((l.getD k ByteArray.empty).toList == s.toList)) := by
  rw [List.take_succ_eq_append_getElem hk, hasN, List.any_append]
  have e : (decide (l[k] = s)) = ((l.getD k ByteArray.empty).toList == s.toList) := by
    have e1 : l.getD k ByteArray.empty = l[k] := by simp [List.getD, hk]
    rw [e1]
    by_cases h : l[k] = s
    · rw [h]; simp
    · have h2 : (l[k].toList == s.toList) = false := by
        cases hq : (l[k].toList == s.toList) with
        | false => rfl
        | true => exact absurd (str_eq hq) h
      rw [h2]; simpa using h
  simp [hasN, e]
def RCRel (W0 : World) (R : Asrt) (b n : Nat) (pre : ByteArray) (stay names : List ByteArray) (r : RD) (v : Value) (i : Value) (wr : World) : Prop :=
  ∃ (k : Nat) (d' : D) (r' : RD), k ≤ names.length ∧ i = .int .i64 k ∧ rclearL pre stay r' (names.drop k) = rclearL pre stay r names ∧ Like d' r' ∧ DInv d' n ∧ Hold W0 ((RefA b r').sep ((Row 9 1 v names.length (strs names)).sep R)) wr
def RCIn (W0 : World) (R : Asrt) (b : Nat) (stay names : List ByteArray) (r : RD) (v : Value) (s : ByteArray) (s9 s10 : Value) (wr : World) : Prop :=
  ∃ j : Nat, j ≤ stay.length ∧ s10 = .int .i64 j ∧ s9 = .bool (hasN (stay.take j) s) ∧ Hold W0 ((RefA b r).sep ((Row 9 1 v names.length (strs names)).sep R)) wr
set_option maxRecDepth 100000 in
set_option maxHeartbeats 3200000 in
theorem rclear_any (H : Hold W0 ((RefA b r).sep R) w) (hl : Like d r) (hi : DInv d n) (hn : n ≤ 4000) (pre : ByteArray) (_hpre : pre.size ≤ 140737488355328) (vs : Value) (stay : List ByteArray) (hst : Reads W0 R 1 vs stay.length (strs stay)) :
    Calls Try.prog 21 #[ptr b, .string pre, vs] w (RetX W0 R b (rclear r pre stay)) := by
  have hnm := xlist_any H (hl.ok hi (by omega)).2.2
  obtain ⟨names, hnames⟩ : ∃ names, names = nms r.fs := ⟨_, rfl⟩
  have HC : Hid (rclear r pre stay = rclearL pre stay r names) := Lib.hid (by rw [hnames]; rfl)
  have hns : ∀ s ∈ names, s.size ≤ 64 := fun s h => by
    rw [hnames] at h
    obtain ⟨f, hf, rfl⟩ := List.mem_map.1 h
    exact hi.names f (hl.perm.mem_iff.2 hf)
  rw [← hnames] at hnm
  have HNm := Lib.hid hnm
  have HNs := Lib.hid hns
  have HL := Lib.hid hl
  have HI := Lib.hid hi
  have HH := Lib.hid H
  have Hst := Lib.hid hst
  have hsl := (hst _ H.drop1).run_len Try.underlying38
  have hsm := (hst _ H.drop1).le'
  clear hnm hns hl hi H hst hnames
  unfold ptr at HNm ⊢
  go_enter Try.func21, Try.ntmps21
  go_wp2_with fail
  refine HNm.out.mono ?_
  rintro e w2 ⟨v, rfl, ho2, hb2⟩
  have H2 := HH.out.addRow hb2 ho2
  have hlen := H2.sl.run_len Try.underlying38
  have hmx := H2.sl.le'
  have HR : Hid (RCRel W0 R b n pre stay names r v (.int .i64 0) w2) := Lib.hid ⟨0, d, r, Nat.zero_le _, rfl, by simp, HL.out, HI.out, H2.up2⟩
  clear H2 ho2 hb2 HH HL HI HNm
  go_wp2
  go_loopw [8] (fun i wr => RCRel W0 R b n pre stay names r v i wr) (fun i _ => names.length - (intOf i).toNat)
  case atStart => exact HR.out
  case round =>
    clear HR
    obtain ⟨k, d', r', hk, rfl, heq, hl', hi', hH⟩ := hrel
    have Heq := Lib.hid heq
    have HL := Lib.hid hl'
    have HI := Lib.hid hi'
    have HW := Lib.hid hH
    clear heq hl' hi' hH
    by_cases hlt : k < names.length
    · obtain ⟨A, u, hA, hblk, hc, Hu⟩ := (HW.out.up2.sl).at1 (P := Try.prog) Try.underlying38 Try.size9 k hlt
      rw [Hu.out, strs_get names k hlt] at hc
      obtain ⟨s, hs⟩ : ∃ s, s = names.getD k ByteArray.empty := ⟨_, rfl⟩
      rw [← hs] at hc
      have hss : s.size ≤ 64 := HNs.out s (by rw [hs]; simp [List.getD, hlt])
      have hdrop : Hid (rclearL pre stay r' (names.drop k) = if hasPre s pre = false ∨ hasN stay s = true then rclearL pre stay r' (names.drop (k + 1)) else if (r'.remove s).2 = 0 then rclearL pre stay (r'.remove s).1 (names.drop (k + 1)) else r'.remove s) := Lib.hid (by
        rw [List.drop_eq_getElem_cons hlt, rclearL, show names[k] = s from by rw [hs]; simp [List.getD, hlt]])
      have Hs := Lib.hid hs
      clear hs hblk Hu
      have h01 : (0 : Int) ≤ (k : Int) := by omega
      have h02 : (k : Int) < (names.length : Int) := by omega
      by_cases hp : hasPre s pre = true
      · have hp2 := hp
        unfold hasPre at hp2
        rw [Bool.and_eq_true, decide_eq_true_eq] at hp2
        obtain ⟨hp3, hp4⟩ := hp2
        have g1 : decide (s.size < pre.size) = false := by simp; omega
        have g2 : (!((s.extract 0 pre.size).toList == pre.toList)) = false := by rw [hp4]; rfl
        have HP := Lib.hid hp
        have HIn : Hid (RCIn W0 R b stay names r' v s (.bool false) (.int .i64 0) wr) := Lib.hid ⟨0, Nat.zero_le _, rfl, rfl, HW.out⟩
        clear hp hp4
        go_wp2_with fail
        go_loopw [9, 10] (fun s9 s10 wi => RCIn W0 R b stay names r' v s s9 s10 wi) (fun _ s10 _ => stay.length - (intOf s10).toNat)
        case atStart => exact HIn.out
        case round =>
          clear HIn hc hA
          obtain ⟨j, hj, rfl, rfl, hH⟩ := hrel
          have HW2 := Lib.hid hH
          clear hH
          obtain ⟨A, u, hA, _, hc, Hu⟩ := (HW2.out.up2.sl).at1 (P := Try.prog) Try.underlying38 Try.size9 k hlt
          rw [Hu.out, strs_get names k hlt, ← Hs.out] at hc
          by_cases hjl : j < stay.length
          · obtain ⟨A2, u2, hA2, _, hc2, Hu2⟩ := (Hst.out _ HW2.out.drop1.drop1).at1 (P := Try.prog) Try.underlying38 Try.size9 j hjl
            rw [Hu2.out, strs_get stay j hjl] at hc2
            have hsn := hasN_snoc hjl s
            obtain ⟨t, ht⟩ : ∃ t, t = stay.getD j ByteArray.empty := ⟨_, rfl⟩
            rw [← ht] at hc2 hsn
            obtain ⟨x, hx⟩ : ∃ x, x = hasN (stay.take j) s := ⟨_, rfl⟩
            rw [← hx] at hsn ⊢
            have HSn := Lib.hid hsn
            have j01 : (0 : Int) ≤ (j : Int) := by omega
            have j02 : (j : Int) < (stay.length : Int) := by omega
            clear ht hx hsn Hu Hu2
            cases x with
            | true =>
              go_wp2_with fail
              go_quiet (fail)
              all_goals
                go_wp2
                go_roundw
                case rel => exact ⟨j + 1, by omega, by go_num, by rw [HSn.out]; rfl, HW2.out.keeps (below_drewN (Below.refl _ _) _)⟩
                case measure => simp [intOf]; omega
            | false =>
              go_wp2_with fail
              go_quiet (fail)
              all_goals
                go_wp2
                go_roundw
                case rel => exact ⟨j + 1, by omega, by go_num, by rw [HSn.out]; rfl, HW2.out.keeps (below_drewN (Below.refl _ _) _)⟩
                case measure => simp [intOf]; omega
          · have e : stay.take j = stay := List.take_of_length_le (by omega)
            rw [e]
            obtain ⟨x, hx⟩ : ∃ x, x = hasN stay s := ⟨_, rfl⟩
            rw [← hx]
            have HX := Lib.hid hx
            clear hx e Hu
            cases x with
            | true =>
              have he := Lib.hid (hdrop.out.trans (if_pos (.inr HX.out.symm)))
              go_wp2
              go_roundw
              case rel => exact ⟨k + 1, d', r', by omega, by go_num, by rw [← he.out, Heq.out], HL.out, HI.out, HW2.out⟩
              case measure => simp [intOf]; omega
            | false =>
              have hnot : ¬ (hasPre s pre = false ∨ hasN stay s = true) := fun h => h.elim (fun h => by rw [HP.out] at h; cases h) (fun h => by rw [← HX.out] at h; cases h)
              by_cases h3 : (r'.remove s).2 = 0
              · have he := Lib.hid ((hdrop.out.trans (if_neg hnot)).trans (if_pos h3))
                have H3h := Lib.hid h3
                clear hnot h3
                go_wp2_with fail
                refine (xRemove_any HW2.out (HL.out.ok HI.out (by omega)) s).mono ?_
                rintro e w5 ⟨rfl, H5⟩
                rw [H3h.out]
                have H5h := Lib.hid H5
                clear H5 hc hA
                go_wp2
                go_roundw
                case rel => exact ⟨k + 1, _, _, by omega, by go_num, by rw [← he.out, Heq.out], (like_remove HL.out s).2, HI.out.remove s, H5h.out⟩
                case measure => simp [intOf]; omega
              · have he := Lib.hid ((hdrop.out.trans (if_neg hnot)).trans (if_neg h3))
                obtain ⟨m, hm⟩ : ∃ m : Nat, m = (r'.remove s).2 := ⟨_, rfl⟩
                have hm0 : ((m : Int) == 0) = false := by rw [beq_eq_false_iff_ne]; omega
                have hm1 : ((m : Int) != 0) = true := by simp; omega
                have Hm := Lib.hid hm
                clear hnot h3 hm
                go_wp2_with fail
                refine (xRemove_any HW2.out (HL.out.ok HI.out (by omega)) s).mono ?_
                rintro e w5 ⟨rfl, H5⟩
                rw [← Hm.out]
                have H5h := Lib.hid H5.up2.drop1
                clear H5 hc hA
                go_wp2
                go_ret
                rw [HC.out, ← Heq.out, he.out]
                exact ⟨ret_int (by rw [Hm.out]), H5h.out⟩
      · have hp1 : hasPre s pre = false := by simpa using hp
        have he := Lib.hid (hdrop.out.trans (if_pos (.inl hp1)))
        unfold hasPre at hp1
        clear hp
        by_cases hz : pre.size ≤ s.size
        · have hp4 : ((s.extract 0 pre.size).toList == pre.toList) = false := by
            have e1 : decide (pre.size ≤ s.size) = true := by simpa using hz
            rw [e1, Bool.true_and] at hp1; exact hp1
          have g1 : decide (s.size < pre.size) = false := by simp; omega
          have g2 : (!((s.extract 0 pre.size).toList == pre.toList)) = true := by rw [hp4]; rfl
          clear hp1
          go_wp2
          go_roundw
          case rel => exact ⟨k + 1, d', r', by omega, by go_num, by rw [← he.out, Heq.out], HL.out, HI.out, HW.out⟩
          case measure => simp [intOf]; omega
        · have g1 : decide (s.size < pre.size) = true := by simp; omega
          clear hp1
          go_wp2
          go_roundw
          case rel => exact ⟨k + 1, d', r', by omega, by go_num, by rw [← he.out, Heq.out], HL.out, HI.out, HW.out⟩
          case measure => simp [intOf]; omega
    · have hend : Hid (rclearL pre stay r names = (r', 0)) := Lib.hid (by rw [← Heq.out, List.drop_eq_nil_of_le (by omega)]; rfl)
      have H5h := Lib.hid HW.out.up2.drop1
      go_wp2
      go_ret
      rw [HC.out, hend.out]
      exact ⟨rfl, H5h.out⟩
end
end Go.Proofs.Ytfkingloapohjaa.Kp
