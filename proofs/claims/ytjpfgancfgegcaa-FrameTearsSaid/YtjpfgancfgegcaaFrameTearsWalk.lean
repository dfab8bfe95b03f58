/-
  The walk of the law FrameTears: it answers true.
-/
import Derived.Test.YtjpfgancfgegcaaFrameKnown
import Derived.Test.YtjpfgancfgegcaaMask
namespace Go.Proofs.Ytjpfgancfgegcaa.frameTears
open Go.RowKit L Oct Fr
theorem elI : ElemOk Try.prog 36 3 1 8 := elemOk Try.underlying36 Try.info3 rfl (by decide)
theorem ints_one (zs : List Int) : ∀ u ∈ ints zs, u.oneCell' = true := by
  intro u hu
  obtain ⟨c, _, rfl⟩ := List.mem_map.1 hu
  rfl
/-- each of the first k rows is small -/
def Small (ls : List (List UInt8)) (k : Nat) : Prop := ∀ j, j < k → (ls.getD j []).length ≤ 4000
theorem small_all {ls : List (List UInt8)} (h : Small ls ls.length) : ∀ p ∈ ls, p.length ≤ 1048576 := by
  intro p hp
  obtain ⟨i, hi, rfl⟩ := List.getElem_of_mem hp
  have := h i hi
  simp only [List.getD, List.getElem?_eq_getElem hi, Option.getD_some] at this
  omega
set_option maxRecDepth 100000 in
set_option maxHeartbeats 3200000 in
theorem walk {w : World} (v0 : Value) (l0 : List (List UInt8)) (h0 : SlRows w v0 l0) (_b0 : l0.length * 24 ≤ 140737488351232) (_c0 : ∀ x ∈ l0, x.length ≤ 140737488351232) (a1 : Int) (_w1 : (Lit.int .i64 a1).wf = true) :
    Calls Try.prog 5 #[v0, .int .i64 a1] w fun e w' => e = .returned (.bool true) ∧ Below w.heap.size w w' := by
  have hlen0 := h0.run_len Try.underlying30
  have hmx0 := h0.le
  clear _c0 _w1 _b0
  go_enter Try.func5, Try.ntmps5
  go_wp2
  go_loopw [5, 6, 7] (fun y z i wr => ∃ (k : Nat) (L : List UInt8), k ≤ l0.length ∧ i = .int .i64 k ∧ k ≤ L.length ∧ Hid (L = recs (l0.take k)) ∧ L.length ≤ 4000 ∧ Hid (Small l0 k) ∧ Hold w ((Row 5 1 y L.length (u8s L)).sep ((Row 3 1 z k (ints (rends l0 k))).sep Asrt.emp)) wr) (fun _ _ i _ => l0.length - (intOf i).toNat)
  case atStart => exact ⟨0, [], Nat.zero_le _, rfl, Nat.zero_le _, Lib.hid rfl, by simp, Lib.hid (fun j hj => by omega), ((Hold.start w).addNil _ _).addNil _ _⟩
  case round =>
    obtain ⟨k, L, hk, rfl, hkL, HL, hLl, HS, H⟩ := hrel
    by_cases hlt : k < l0.length
    · obtain ⟨A, u, l, hA, hblk, hc, Hl, hul⟩ := (h0.below' H.old).at (P := Try.prog) Try.underlying30 Try.size22 k hlt
      have hlenl := hul.run_len Try.underlying22
      have hmxl := hul.le'
      obtain ⟨pu, cu, rfl⟩ := hul.shape
      by_cases hl4 : l.length ≤ 4000
      · have hst := recs_take_succ hlt
        rw [← HL.out, ← Hl.out] at hst
        obtain ⟨M, hM⟩ : ∃ M, M = L ++ rec_ l := ⟨_, rfl⟩
        have hMl : M.length = L.length + (12 + l.length) := by rw [hM, List.length_append, rec_length]
        have hS2 : Small l0 (k + 1) := fun j hj => by
          by_cases hjk : j < k
          · exact HS.out j hjk
          · have : j = k := by omega
            subst this
            rw [← Hl.out]; exact hl4
        have Hst := Lib.hid hst
        have HM := Lib.hid hM
        have HMl := Lib.hid hMl
        have HS2 := Lib.hid hS2
        have hMb : M.length ≤ 9000 := by omega
        clear hst hM hMl hS2
        go_wp2_with fail
        refine (encode_any _ [l] _ (rowsLit1 22 hul rfl) (by simp) (by simp; omega)).mono ?_
        rintro e w2 ⟨v2, rfl, h2, hb2⟩
        rw [show [l].flatten = l from by simp] at h2
        have H2 := H.keeps (((Below.refl wr.heap.size wr).alloc (Nat.le_refl _) (.cells #[.slice pu l.length cu] 22)).trans (hb2.mono (by simp)))
        have s2 := h2.sl
        have hrl : (rec_ l).length ≤ 5000 := by rw [rec_length]; omega
        clear h2 hb2 H hul
        by_cases hM4 : M.length ≤ 4000
        · go_wp2_with (first
            | (at_builtin; refine wpList_app (sx := .tmp 38) el8 H2 rfl _ rfl rfl rfl s2 (u8s_one _) (by omega) (by omega) ?_; intro v3 xs3 w3 X3 H3; rw [X3.out, ← u8s_append, ← List.length_append, ← HM.out] at H3; have hlv := H3.sl.run_len Try.underlying22; have H3' := H3.up2; clear H2 H3 s2 hrl)
            | (at_builtin; refine wpList_appLit (sx := .tmp 44) elI H3' (ints [(M.length : Int)]) rfl _ rfl rfl rfl rfl (ints_one _) (by simp [ints]; omega) (by simp [ints]; omega) ?_; intro v9 xs9 w9 X9 H9))
          have H10 : Hid (Hold w ((Row 5 1 v3 M.length (u8s M)).sep ((Row 3 1 v9 (k + 1) (ints (rends l0 (k + 1)))).sep Asrt.emp)) w9) := by
            refine Lib.hid ?_
            have e : xs9 = ints (rends l0 (k + 1)) := by
              rw [X9.out, rends_succ, show (rend l0 (k + 1) : Int) = (M.length : Int) from by unfold rend; rw [Hst.out, HM.out]]
              simp [ints]
            rw [e] at H9
            exact H9.up2
          clear H3' H9
          go_roundw
          case rel => exact ⟨k + 1, M, by omega, by go_num, by have := HMl.out; omega, Lib.hid (by rw [HM.out, Hst.out]), hM4, HS2, H10.out⟩
          case measure => simp [intOf]; omega
        · go_wp2_with (at_builtin; refine wpList_app (sx := .tmp 38) el8 H2 rfl _ rfl rfl rfl s2 (u8s_one _) (by omega) (by omega) ?_; intro v3 xs3 w3 X3 H3; rw [X3.out, ← u8s_append, ← List.length_append, ← HM.out] at H3; have hlv := H3.sl.run_len Try.underlying22; have Hf := Lib.hid H3.old; clear H2 H3 s2 hrl)
          go_ret
          exact ⟨rfl, Hf.out⟩
      · have Hf := Lib.hid H.old
        clear H hul
        go_wp2
        go_ret
        exact ⟨rfl, Hf.out⟩
    · obtain rfl : k = l0.length := by omega
      obtain ⟨wo, rfl⟩ : ∃ wo : World, wo = wr := ⟨_, rfl⟩
      rw [List.take_length] at HL
      have hL1 : 0 < L.length + 1 := by omega
      obtain ⟨j, m, hj, hj2, hjm, hm⟩ := place30 a1 (L.length + 1) hL1
      have hjm' : (j : Int) % ((L.length : Int) + 1) = (m : Int) := by rw [← hjm]; rfl
      have hown := H.own
      obtain ⟨py, cy, rfl⟩ := hown.shape
      have hsE := H.up2.sl
      have hlenE := hsE.run_len Try.underlying36
      have hsL := (hown.take (m := m) (by omega) rfl).sl
      rw [show (u8s L).take (m * 1) = u8s (L.take m) from by simp [u8s]] at hsL
      have hlm : (L.take m).length = m := by rw [List.length_take]; omega
      have hr3 := run_slice_lit (P := Try.prog) hown Try.underlying22 Try.size5 m (by omega) (.int .i64 (m : Int)) ⟨_, rfl⟩
      have hlenL := H.sl.run_len Try.underlying22
      have hb1 := H.old
      have h0r := h0.below' hb1
      have hl0' : (0 : Int) < (L.length : Int) + 1 := by omega
      have hL4 : (L.length : Int) ≤ 4000 := by omega
      have Hbig := Lib.hid (small_all HS.out)
      have Hlm := Lib.hid hlm
      have HsL : Hid (Sl wo 1 (.slice py m cy) (L.take m).length (u8s (L.take m))) := Lib.hid (by rw [hlm]; exact hsL)
      have Hjm := Lib.hid hjm
      have HsE := Lib.hid hsE
      clear hjm hown H h0 hlm HS hsL hsE
      go_wp2
      go_loop [11] (fun i => ∃ n : Nat, n ≤ l0.length ∧ i = .int .i64 n ∧ Hid (rend l0 n ≤ m)) (fun i => l0.length - (intOf i).toNat)
      case atStart => exact ⟨0, Nat.zero_le _, rfl, Lib.hid (by simp [rend, recs])⟩
      case round =>
        obtain ⟨n, hn, rfl, Hn⟩ := hrel
        have hm4 : m ≤ 4000 := by omega
        by_cases hgo : n < l0.length ∧ rend l0 (n + 1) ≤ m
        · obtain ⟨hlt, hle⟩ := hgo
          obtain ⟨A2, z, hA2, hblk2, hc2, Hz⟩ := Sl.atI (zs := rends l0 l0.length) (P := Try.prog) (by rw [rends_length]; exact HsE.out) Try.underlying36 Try.size3 n (by rw [rends_length]; exact hlt)
          obtain ⟨E, hE⟩ : ∃ E, E = rend l0 (n + 1) := ⟨_, rfl⟩
          have hz : z = (E : Int) := by rw [Hz.out, rends_get hlt, hE]
          subst hz
          rw [← hE] at hle
          have HE := Lib.hid hE
          clear hE
          go_wp2
          go_round
          case rel => exact ⟨n + 1, by omega, by go_num, Lib.hid (by rw [← HE.out]; exact hle)⟩
          case measure => simp [intOf]; omega
        · have hend : n < l0.length → m < rend l0 (n + 1) := fun h => by
            by_cases hh : rend l0 (n + 1) ≤ m
            · exact absurd ⟨h, hh⟩ hgo
            · omega
          have hsc : scan (L.take m) = (l0.take n, rend l0 n) := by
            rw [HL.out]
            exact scan_cut Hbig.out hn Hn.out hend (by rw [← HL.out]; omega)
          have hsd := scan_any _ (L.take m) wo HsL.out (by have := Hlm.out; omega)
          rw [hsc] at hsd
          obtain ⟨T, hT⟩ : ∃ T, T = rend l0 n := ⟨_, rfl⟩
          rw [← hT] at hsd
          have HT := Lib.hid hT
          have Hsd := Lib.hid hsd
          have Hend := Lib.hid hend
          have hq : ((T : Int) == (T : Int)) = true := by simp
          clear hsc hsd hT hgo hend
          by_cases hlt : n < l0.length
          · rcases n with _ | n'
            · obtain ⟨A2, z, hA2, hblk2, hc2, Hz⟩ := Sl.atI0 (zs := rends l0 l0.length) (P := Try.prog) (by rw [rends_length]; exact HsE.out) Try.underlying36 Try.size3 (by rw [rends_length]; omega)
              obtain ⟨E, hE⟩ : ∃ E, E = rend l0 (0 + 1) := ⟨_, rfl⟩
              have hz : z = (E : Int) := by rw [Hz.out, rends_get (by omega), hE]
              subst hz
              have hEm : m < E := by rw [hE]; exact Hend.out (by omega)
              clear hE
              go_wp2_with fail
              refine Hsd.out.mono ?_
              rintro e w2 ⟨v2, rfl, h2⟩
              have hbw := hb1.trans (h2.2.mono hb1.size)
              have sg := h2.1
              have hb2 := h2.2
              clear h2
              have ht0 : T = 0 := by rw [HT.out]; simp [rend, recs]
              subst ht0
              obtain ⟨vp, hrp, hsp⟩ := (h0r.below' hb2).ahead (P := Try.prog) Try.underlying30 Try.size22 0 (Nat.zero_le _) (.int .i64 0) ⟨.i64, rfl⟩
              have Hsp := Lib.hid hsp
              have Hsg := Lib.hid sg
              clear hsp sg
              go_wp2_with fail
              refine (rows_eq _ vp _ _ Hsg.out Hsp.out).mono ?_
              rintro e w3 ⟨rfl, hb3⟩
              have hbw := hbw.trans (hb3.mono hbw.size)
              clear hb3 hb2
              go_wp2_with fail
              refine (known_any _).mono ?_
              rintro e w4 ⟨rfl, hb4⟩
              have Hf := Lib.hid (hbw.trans (hb4.mono hbw.size))
              clear hb4 hbw hb1
              go_wp2
              go_ret
              exact ⟨rfl, Hf.out⟩
            · obtain ⟨A2, z, hA2, hblk2, hc2, Hz⟩ := Sl.atI1 (zs := rends l0 l0.length) (P := Try.prog) (by rw [rends_length]; exact HsE.out) Try.underlying36 Try.size3 n' (by rw [rends_length]; omega)
              obtain ⟨E, hE⟩ : ∃ E, E = rend l0 ((n' + 1) + 1) := ⟨_, rfl⟩
              have hz : z = (E : Int) := by rw [Hz.out, rends_get (by omega), hE]
              subst hz
              have hEm : m < E := by rw [hE]; exact Hend.out (by omega)
              clear hE
              go_wp2_with fail
              refine Hsd.out.mono ?_
              rintro e w2 ⟨v2, rfl, h2⟩
              have hbw := hb1.trans (h2.2.mono hb1.size)
              have sg := h2.1
              have hb2 := h2.2
              clear h2
              obtain ⟨vp, hrp, hsp⟩ := (h0r.below' hb2).ahead (P := Try.prog) Try.underlying30 Try.size22 (n' + 1) hn (.int .i64 ((n' : Int) + 1)) ⟨.i64, rfl⟩
              obtain ⟨A3, z3, hA3, hblk3, hc3, Hz3⟩ := Sl.atI (zs := rends l0 l0.length) (P := Try.prog) (by rw [rends_length]; exact HsE.out.below' hb2) Try.underlying36 Try.size3 n' (by rw [rends_length]; omega)
              have hz3 : z3 = (T : Int) := by rw [Hz3.out, rends_get (by omega), HT.out]
              subst hz3
              have Hsp := Lib.hid hsp
              have Hsg := Lib.hid sg
              clear hsp sg
              go_wp2_with fail
              refine (rows_eq _ vp _ _ Hsg.out Hsp.out).mono ?_
              rintro e w3 ⟨rfl, hb3⟩
              have hbw := hbw.trans (hb3.mono hbw.size)
              clear hb3 hb2
              go_wp2_with fail
              refine (known_any _).mono ?_
              rintro e w4 ⟨rfl, hb4⟩
              have Hf := Lib.hid (hbw.trans (hb4.mono hbw.size))
              clear hb4 hbw hb1
              go_wp2
              go_ret
              exact ⟨rfl, Hf.out⟩
          · rcases n with _ | n'
            · skip
              go_wp2_with fail
              refine Hsd.out.mono ?_
              rintro e w2 ⟨v2, rfl, h2⟩
              have hbw := hb1.trans (h2.2.mono hb1.size)
              have sg := h2.1
              have hb2 := h2.2
              clear h2
              have ht0 : T = 0 := by rw [HT.out]; simp [rend, recs]
              subst ht0
              obtain ⟨vp, hrp, hsp⟩ := (h0r.below' hb2).ahead (P := Try.prog) Try.underlying30 Try.size22 0 (Nat.zero_le _) (.int .i64 0) ⟨.i64, rfl⟩
              have Hsp := Lib.hid hsp
              have Hsg := Lib.hid sg
              clear hsp sg
              go_wp2_with fail
              refine (rows_eq _ vp _ _ Hsg.out Hsp.out).mono ?_
              rintro e w3 ⟨rfl, hb3⟩
              have hbw := hbw.trans (hb3.mono hbw.size)
              clear hb3 hb2
              go_wp2_with fail
              refine (known_any _).mono ?_
              rintro e w4 ⟨rfl, hb4⟩
              have Hf := Lib.hid (hbw.trans (hb4.mono hbw.size))
              clear hb4 hbw hb1
              go_wp2
              go_ret
              exact ⟨rfl, Hf.out⟩
            · skip
              go_wp2_with fail
              refine Hsd.out.mono ?_
              rintro e w2 ⟨v2, rfl, h2⟩
              have hbw := hb1.trans (h2.2.mono hb1.size)
              have sg := h2.1
              have hb2 := h2.2
              clear h2
              obtain ⟨vp, hrp, hsp⟩ := (h0r.below' hb2).ahead (P := Try.prog) Try.underlying30 Try.size22 (n' + 1) hn (.int .i64 ((n' : Int) + 1)) ⟨.i64, rfl⟩
              obtain ⟨A3, z3, hA3, hblk3, hc3, Hz3⟩ := Sl.atI (zs := rends l0 l0.length) (P := Try.prog) (by rw [rends_length]; exact HsE.out.below' hb2) Try.underlying36 Try.size3 n' (by rw [rends_length]; omega)
              have hz3 : z3 = (T : Int) := by rw [Hz3.out, rends_get (by omega), HT.out]
              subst hz3
              have Hsp := Lib.hid hsp
              have Hsg := Lib.hid sg
              clear hsp sg
              go_wp2_with fail
              refine (rows_eq _ vp _ _ Hsg.out Hsp.out).mono ?_
              rintro e w3 ⟨rfl, hb3⟩
              have hbw := hbw.trans (hb3.mono hbw.size)
              clear hb3 hb2
              go_wp2_with fail
              refine (known_any _).mono ?_
              rintro e w4 ⟨rfl, hb4⟩
              have Hf := Lib.hid (hbw.trans (hb4.mono hbw.size))
              clear hb4 hbw hb1
              go_wp2
              go_ret
              exact ⟨rfl, Hf.out⟩
end Go.Proofs.Ytjpfgancfgegcaa.frameTears
