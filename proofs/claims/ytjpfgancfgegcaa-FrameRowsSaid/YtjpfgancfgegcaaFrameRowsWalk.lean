/-
  The walk of the law FrameRows: it answers true.
-/
import Derived.Test.YtjpfgancfgegcaaFrameKnown
namespace Go.Proofs.Ytjpfgancfgegcaa.frameRows
open Go.RowKit L Oct Fr
/-- each of the first k rows is small -/
def Small (ls : List (List UInt8)) (k : Nat) : Prop := ∀ j, j < k → (ls.getD j []).length ≤ 4000
theorem small_all {ls : List (List UInt8)} (h : Small ls ls.length) : ∀ p ∈ ls, p.length ≤ 1048576 := by
  intro p hp
  obtain ⟨i, hi, rfl⟩ := List.getElem_of_mem hp
  have := h i hi
  simp only [List.getD, List.getElem?_eq_getElem hi, Option.getD_some] at this
  omega
set_option maxRecDepth 100000 in
set_option maxHeartbeats 3200000 in
theorem walk {w : World} (v0 : Value) (l0 : List (List UInt8)) (h0 : SlRows w v0 l0) (_b0 : l0.length * 24 ≤ 140737488351232) (_c0 : ∀ x ∈ l0, x.length ≤ 140737488351232) (v1 : Value) (l1 : List UInt8) (h1 : Sl w 1 v1 l1.length (u8s l1)) (_b1 : l1.length ≤ 140737488351232) :
    Calls Try.prog 6 #[v0, v1] w fun e w' => e = .returned (.bool true) ∧ Below w.heap.size w w' := by
  have hlen0 := h0.run_len Try.underlying30
  have hlen1 := h1.run_len Try.underlying22
  have hmx0 := h0.le
  have hmx1 := h1.le'
  clear _c0 _b0
  go_enter Try.func6, Try.ntmps6
  go_wp2
  go_loopw [5, 6] (fun y i wr => ∃ (k : Nat) (L : List UInt8), k ≤ l0.length ∧ i = .int .i64 k ∧ k ≤ L.length ∧ Hid (L = recs (l0.take k)) ∧ L.length ≤ 4000 ∧ Hid (Small l0 k) ∧ Hold w ((Row 5 1 y L.length (u8s L)).sep Asrt.emp) wr) (fun _ i _ => l0.length - (intOf i).toNat)
  case atStart => exact ⟨0, [], Nat.zero_le _, rfl, Nat.zero_le _, Lib.hid rfl, by simp, Lib.hid (fun j hj => by omega), (Hold.start w).addNil _ _⟩
  case round =>
    obtain ⟨k, L, hk, rfl, hkL, HL, hLl, HS, H⟩ := hrel
    by_cases hlt : k < l0.length
    · obtain ⟨A, u, l, hA, hblk, hc, Hl, hul⟩ := (h0.below' H.old).at (P := Try.prog) Try.underlying30 Try.size22 k hlt
      have hlenl := hul.run_len Try.underlying22
      have hmxl := hul.le'
      obtain ⟨pu, cu, rfl⟩ := hul.shape
      by_cases hl4 : l.length ≤ 4000
      · have hst := recs_take_succ hlt
        rw [← HL.out, ← Hl.out] at hst
        obtain ⟨M, hM⟩ : ∃ M, M = L ++ rec_ l := ⟨_, rfl⟩
        have hMl : M.length = L.length + (12 + l.length) := by rw [hM, List.length_append, rec_length]
        have hS2 : Small l0 (k + 1) := fun j hj => by
          by_cases hjk : j < k
          · exact HS.out j hjk
          · have : j = k := by omega
            subst this
            rw [← Hl.out]; exact hl4
        have Hst := Lib.hid hst
        have HM := Lib.hid hM
        have HMl := Lib.hid hMl
        have HS2 := Lib.hid hS2
        have hMb : M.length ≤ 9000 := by omega
        clear hst hM hMl hS2
        go_wp2_with fail
        refine (encode_any _ [l] _ (rowsLit1 22 hul rfl) (by simp) (by simp; omega)).mono ?_
        rintro e w2 ⟨v2, rfl, h2, hb2⟩
        rw [show [l].flatten = l from by simp] at h2
        have H2 := H.keeps (((Below.refl wr.heap.size wr).alloc (Nat.le_refl _) (.cells #[.slice pu l.length cu] 22)).trans (hb2.mono (by simp)))
        have s2 := h2.sl
        have hrl : (rec_ l).length ≤ 5000 := by rw [rec_length]; omega
        clear h2 hb2 H hul
        by_cases hM4 : M.length ≤ 4000
        · go_wp2_with (at_builtin; refine wpList_app (sx := .tmp 36) el8 H2 rfl _ rfl rfl rfl s2 (u8s_one _) (by omega) (by omega) ?_; intro v3 xs3 w3 X3 H3; rw [X3.out, ← u8s_append, ← List.length_append, ← HM.out] at H3; have hlv := H3.sl.run_len Try.underlying22; have H10 := Lib.hid H3; clear H2 H3 s2 hrl)
          go_roundw
          case rel => exact ⟨k + 1, M, by omega, by go_num, by have := HMl.out; omega, Lib.hid (by rw [HM.out, Hst.out]), hM4, HS2, H10.out⟩
          case measure => simp [intOf]; omega
        · go_wp2_with (at_builtin; refine wpList_app (sx := .tmp 36) el8 H2 rfl _ rfl rfl rfl s2 (u8s_one _) (by omega) (by omega) ?_; intro v3 xs3 w3 X3 H3; rw [X3.out, ← u8s_append, ← List.length_append, ← HM.out] at H3; have hlv := H3.sl.run_len Try.underlying22; have Hf := Lib.hid H3.old; clear H2 H3 s2 hrl)
          go_ret
          exact ⟨rfl, Hf.out⟩
      · have Hf := Lib.hid H.old
        clear H hul
        go_wp2
        go_ret
        exact ⟨rfl, Hf.out⟩
    · obtain rfl : k = l0.length := by omega
      rw [List.take_length] at HL
      by_cases hl1 : 4000 < l1.length
      · have Hf := Lib.hid H.old
        clear H
        go_wp2
        go_ret
        exact ⟨rfl, Hf.out⟩
      have Hbig := Lib.hid (small_all HS.out)
      obtain ⟨D, hD⟩ : ∃ D, D = L ++ l1 := ⟨_, rfl⟩
      have hDl : D.length = L.length + l1.length := by rw [hD, List.length_append]
      have hs1 : scan L = (l0, L.length) := by
        have := scan_all (ls := l0) [] Hbig.out
        rw [scan_nil, List.append_nil, List.append_nil, ← HL.out] at this
        simpa using this
      have hs2 : scan D = (l0 ++ (scan l1).1, L.length + (scan l1).2) := by
        rw [hD]
        have := scan_all (ls := l0) l1 Hbig.out
        rw [← HL.out] at this
        exact this
      obtain ⟨R2, hR2⟩ : ∃ R, R = l0 ++ (scan l1).1 := ⟨_, rfl⟩
      obtain ⟨m2, hm2⟩ : ∃ m, m = L.length + (scan l1).2 := ⟨_, rfl⟩
      rw [← hR2, ← hm2] at hs2
      have hml : L.length ≤ m2 := by omega
      have hRl : l0.length ≤ R2.length := by rw [hR2, List.length_append]; omega
      have hRt : R2.take l0.length = l0 := by rw [hR2]; exact List.take_left
      have Hs1 := Lib.hid hs1
      have Hs2 := Lib.hid hs2
      have HD := Lib.hid hD
      have HDl := Lib.hid hDl
      have HRt := Lib.hid hRt
      have hq : ((L.length : Int) != (L.length : Int)) = false := by simp
      have hlL := H.sl.run_len Try.underlying22
      have sL := H.sl
      have hbw := H.old
      have hd := scan_any _ L _ sL (by omega)
      rw [Hs1.out] at hd
      have Hd := Lib.hid hd
      clear hs1 hs2 hD hDl hRt hR2 hm2 H hd HS
      go_wp2_with fail
      refine Hd.out.mono ?_
      rintro e w2 ⟨v2, rfl, h2⟩
      have sL := sL.below' h2.2
      have hbw := hbw.trans (h2.2.mono hbw.size)
      have sg := h2.1
      clear h2 Hd
      go_wp2_with fail
      refine (rows_eq _ _ _ _ sg (h0.below' hbw)).mono ?_
      rintro e w3 ⟨rfl, hb3⟩
      have sL := sL.below' hb3
      have hbw := hbw.trans (hb3.mono hbw.size)
      have h13 := h1.below' hbw
      have H5 := (Hold.start w3).addEmpty 5
      have s2' := sl_alloc sL (.cells #[] 5)
      clear sg hb3
      go_wp2_with (first
        | (at_builtin; refine wpList_app (sx := .tmp 61) el8 H5 rfl _ rfl rfl rfl s2' (u8s_one _) (by omega) (by omega) ?_; intro v6 xs6 w6 X6 H6; have s6 := h13.below' H6.old; clear H5 s2')
        | (at_builtin; refine wpList_app (sx := .tmp 63) el8 H6 rfl _ rfl rfl rfl s6 (u8s_one _) (by have := HDl.out; omega) (by have := HDl.out; omega) ?_; intro v7 xs7 w7 X7 H7))
      have s7 : Sl w7 1 v7 D.length (u8s D) := by
        have := H7.sl
        rw [X7.out, X6.out, List.nil_append, ← u8s_append, ← HD.out, show 0 + L.length + l1.length = D.length from by rw [HDl.out]; omega] at this
        exact this
      have hd := scan_any v7 D w7 s7 (by have := HDl.out; omega)
      rw [Hs2.out] at hd
      have hbw := hbw.trans (H7.old.mono hbw.size)
      have Hd := Lib.hid hd
      clear hd s7 H6 H7 s6 h13
      refine Hd.out.mono ?_
      rintro e w8 ⟨v8, rfl, h8⟩
      have hbw := hbw.trans (h8.2.mono hbw.size)
      have hlR := h8.1.run_len Try.underlying30
      have hmR := h8.1.le
      obtain ⟨vp, hrp, hsp⟩ := h8.1.ahead (P := Try.prog) Try.underlying30 Try.size22 l0.length hRl (.int .i64 (l0.length : Int)) ⟨.i64, rfl⟩
      rw [HRt.out] at hsp
      have Hsp := Lib.hid hsp
      clear hsp h8 Hd
      go_wp2_with fail
      refine (rows_eq vp _ _ _ Hsp.out (h0.below' hbw)).mono ?_
      rintro e w9 ⟨rfl, hb9⟩
      have hbw := hbw.trans (hb9.mono hbw.size)
      clear hb9
      go_wp2_with fail
      refine (known_any _).mono ?_
      rintro e w13 ⟨rfl, hb13⟩
      have Hf := Lib.hid (hbw.trans (hb13.mono hbw.size))
      clear hb13 hbw
      go_wp2
      go_ret
      exact ⟨rfl, Hf.out⟩
end Go.Proofs.Ytjpfgancfgegcaa.frameRows
