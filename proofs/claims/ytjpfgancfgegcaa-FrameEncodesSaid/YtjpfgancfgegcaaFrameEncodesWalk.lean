/-
  The walk of the law FrameEncodes: it answers true.
-/
import Derived.Test.YtjpfgancfgegcaaFrameKnown
import Derived.Test.YtjpfgancfgegcaaFrameRefDec
namespace Go.Proofs.Ytjpfgancfgegcaa.frameEncodes
open Go.RowKit L Oct Fr
set_option maxRecDepth 100000 in
set_option maxHeartbeats 3200000 in
theorem walk {w : World} (v0 : Value) (l0 : List (List UInt8)) (h0 : SlRows w v0 l0) (b0 : l0.length * 24 ≤ 140737488351232) (_c0 : ∀ x ∈ l0, x.length ≤ 140737488351232) (v1 : Value) (l1 : List UInt8) (h1 : Sl w 1 v1 l1.length (u8s l1)) (_b1 : l1.length ≤ 140737488351232) :
    Calls Try.prog 4 #[v0, v1] w fun e w' => e = .returned (.bool true) ∧ Below w.heap.size w w' := by
  have hlen0 := h0.run_len Try.underlying30
  have hlen1 := h1.run_len Try.underlying22
  have hmx0 := h0.le
  have hn0 : l0.length ≤ 100000000000000 := by omega
  clear _c0 b0
  go_enter Try.func4, Try.ntmps4
  go_wp2
  go_loopw [5, 6] (fun y i wr => ∃ (k : Nat) (L : List UInt8), k ≤ l0.length ∧ i = .int .i64 k ∧ Hid (L = (l0.take k).flatten) ∧ L.length ≤ 8000 ∧ Hold w ((Row 5 1 y L.length (u8s L)).sep Asrt.emp) wr) (fun _ i _ => l0.length - (intOf i).toNat)
  case atStart => exact ⟨0, [], Nat.zero_le _, rfl, Lib.hid rfl, by simp, (Hold.start w).addNil _ _⟩
  case round =>
    obtain ⟨k, L, hk, rfl, HL, hLl, H⟩ := hrel
    have hlenL := H.sl.run_len Try.underlying22
    by_cases hlt : k < l0.length
    · obtain ⟨A, u, l, hA, hblk, hc, Hl, hul⟩ := (h0.below' H.old).at (P := Try.prog) Try.underlying30 Try.size22 k hlt
      have hlenl := hul.run_len Try.underlying22
      have hmxl := hul.le'
      by_cases hl4 : l.length ≤ 4000
      · by_cases hL4 : L.length ≤ 4000
        · go_wp2_with (at_builtin; refine wpList_app el8 H rfl _ _ rfl rfl rfl hul (u8s_one _) (by omega) (by omega) ?_; intro v2 xs2 w2 X2 H2)
          have H3 : Hid (Hold w ((Row 5 1 v2 (L ++ l).length (u8s (L ++ l))).sep Asrt.emp) w2) := Lib.hid (by rw [X2.out, ← u8s_append, ← List.length_append] at H2; exact H2)
          clear H H2
          go_roundw
          case rel => exact ⟨k + 1, L ++ l, by omega, by go_num, Lib.hid (by rw [List.take_succ_eq_append_getElem hlt, List.flatten_append, HL.out, Hl.out]; simp [List.getD, hlt]), by simp; omega, H3.out⟩
          case measure => simp [intOf]; omega
        · have Hf := Lib.hid H.old
          clear H hul
          go_wp2
          go_ret
          exact ⟨rfl, Hf.out⟩
      · have Hf := Lib.hid H.old
        clear H hul
        go_wp2
        go_ret
        exact ⟨rfl, Hf.out⟩
    · obtain rfl : k = l0.length := by omega
      rw [List.take_length] at HL
      by_cases hbig : 4000 < (L.length : Int) + (l1.length : Int)
      · have Hf := Lib.hid H.old
        have hmx1 := h1.le'
        clear H
        go_wp2
        go_ret
        exact ⟨rfl, Hf.out⟩
      have hbig' : L.length + l1.length ≤ 4000 := by omega
      obtain ⟨B, hB⟩ : ∃ B, B = rec_ L := ⟨_, rfl⟩
      have hBl : B.length = 12 + L.length := by rw [hB, rec_length]
      obtain ⟨D, hD⟩ : ∃ D, D = B ++ l1 := ⟨_, rfl⟩
      have hDl : D.length = B.length + l1.length := by rw [hD, List.length_append]
      obtain ⟨E, hE⟩ : ∃ E, E = B ++ [1] := ⟨_, rfl⟩
      have hEl : E.length = B.length + 1 := by rw [hE, List.length_append]; rfl
      have hu1 : unrec D = (L, B.length, 0) := by rw [hD, hBl, hB]; exact unrec_rec L l1 (by omega)
      have hu2 : unone B = (L, 0) := by rw [hB]; exact unone_rec L (by omega)
      have hu3 : unone E = ([], 3) := by rw [hE, hB]; exact unone_more L [1] (by omega) (by decide)
      have HB := Lib.hid hB
      have HBl := Lib.hid hBl
      have HD := Lib.hid hD
      have HDl := Lib.hid hDl
      have HE := Lib.hid hE
      have HEl := Lib.hid hEl
      have Hu1 := Lib.hid hu1
      have Hu2 := Lib.hid hu2
      have Hu3 := Lib.hid hu3
      have hBm : B.length ≤ 5000 := by omega
      clear hB hBl hD hDl hE hEl hu1 hu2 hu3
      go_wp2_with fail
      refine (encode_any v0 l0 _ (h0.below' H.old) hn0 (by rw [← HL.out]; omega)).mono ?_
      rintro e w2 ⟨v2, rfl, h2, hb2⟩
      rw [← HL.out, ← HB.out] at h2
      have H2 := H.keeps hb2
      have s2 := h2.sl
      have hlen2 := s2.run_len Try.underlying22
      clear h2 hb2 H
      go_wp2_with fail
      refine (rencode_any _ L _ H2.sl (by omega)).mono ?_
      rintro e w3 ⟨v3, rfl, h3⟩
      rw [← HB.out] at h3
      have H3 := H2.keeps h3.2
      have s2 := s2.below' h3.2
      have s3 := h3.1.sl
      have hlen3 := s3.run_len Try.underlying22
      clear h3 H2
      go_wp2_with fail
      refine (same_any v2 v3 B B _ s2 s3).mono ?_
      rintro e w4 ⟨rfl, hb4⟩
      rw [show decide (B = B) = true from by simp]
      have H4 := H3.keeps hb4
      have s2 := s2.below' hb4
      have sL := H4.sl
      have hbw := H4.old
      have h14 := h1.below' hbw
      clear s3 H3 hb4 H4
      have H5 := (Hold.start w4).addEmpty 5
      have s2' := sl_alloc s2 (.cells #[] 5)
      go_wp2_with (first
        | (at_builtin; refine wpList_app (sx := .tmp 67) el8 H5 rfl _ rfl rfl rfl s2' (u8s_one _) (by omega) (by omega) ?_; intro v6 xs6 w6 X6 H6; have s6 := h14.below' H6.old; clear H5 s2')
        | (at_builtin; refine wpList_app (sx := .tmp 69) el8 H6 rfl _ rfl rfl rfl s6 (u8s_one _) (by omega) (by omega) ?_; intro v7 xs7 w7 X7 H7))
      have s7 : Sl w7 1 v7 D.length (u8s D) := by
        have := H7.sl
        rw [X7.out, X6.out, List.nil_append, ← u8s_append, ← HD.out, show 0 + B.length + l1.length = D.length from by rw [HDl.out]; omega] at this
        exact this
      have hd := decode_any v7 D w7 s7 (by have := HDl.out; omega)
      rw [Hu1.out] at hd
      have hb7 := H7.old
      have Hd := Lib.hid hd
      clear hd s7 H6 H7 s6 h14
      refine Hd.out.mono ?_
      rintro e w8 ⟨v8, rfl, h8⟩
      have hb8 := hb7.trans (h8.2.mono hb7.size)
      have s2 := s2.below' hb8
      have sL := sL.below' hb8
      have s8 := h8.1.sl
      have hbw := hbw.trans (hb8.mono hbw.size)
      clear h8 hb8 hb7 Hd
      have hd := one_any v2 B w8 s2 (by omega)
      rw [Hu2.out] at hd
      have Hd := Lib.hid hd
      clear hd
      go_wp2_with fail
      refine Hd.out.mono ?_
      rintro e w9 ⟨v9, rfl, h9⟩
      have s2 := s2.below' h9.2
      have sL := sL.below' h9.2
      have s8 := s8.below' h9.2
      have s9 := h9.1.sl
      have hbw := hbw.trans (h9.2.mono hbw.size)
      clear h9 Hd
      have H5 := (Hold.start w9).addEmpty 5
      have s2' := sl_alloc s2 (.cells #[] 5)
      go_wp2_with (first
        | (at_builtin; refine wpList_app (sx := .tmp 82) el8 H5 rfl _ rfl rfl rfl s2' (u8s_one _) (by omega) (by omega) ?_; intro v6 xs6 w6 X6 H6; clear H5 s2')
        | (at_builtin; refine wpList_appLit (sx := .tmp 84) el8 H6 (u8s [1]) rfl _ rfl rfl rfl rfl (u8s_one _) (by simp [u8s]; omega) (by simp [u8s]; omega) ?_; intro v7 xs7 w7 X7 H7))
      have s7 : Sl w7 1 v7 E.length (u8s E) := by
        have := H7.sl
        rw [X7.out, X6.out, List.nil_append, ← u8s_append, ← HE.out, show 0 + B.length + (u8s [1]).length = E.length from by rw [HEl.out, u8s_length]; simp] at this
        exact this
      have hd := one_any v7 E w7 s7 (by have := HEl.out; omega)
      rw [Hu3.out] at hd
      have hb7 := H7.old
      have Hd := Lib.hid hd
      clear hd s7 H6 H7
      refine Hd.out.mono ?_
      rintro e w10 ⟨v10, rfl, h10⟩
      have hb10 := hb7.trans (h10.2.mono hb7.size)
      have sL := sL.below' hb10
      have s8 := s8.below' hb10
      have s9 := s9.below' hb10
      have hbw := hbw.trans (hb10.mono hbw.size)
      clear h10 hb10 hb7 Hd s2
      go_wp2_with fail
      refine (same_any v8 _ L L _ s8 sL).mono ?_
      rintro e w11 ⟨rfl, hb11⟩
      rw [show decide (L = L) = true from by simp]
      have sL := sL.below' hb11
      have s9 := s9.below' hb11
      have hbw := hbw.trans (hb11.mono hbw.size)
      clear hb11 s8
      go_wp2_with fail
      refine (same_any v9 _ L L _ s9 sL).mono ?_
      rintro e w12 ⟨rfl, hb12⟩
      rw [show decide (L = L) = true from by simp]
      have hbw := hbw.trans (hb12.mono hbw.size)
      clear hb12 s9 sL
      go_wp2_with fail
      refine (known_any _).mono ?_
      rintro e w13 ⟨rfl, hb13⟩
      have Hf := Lib.hid (hbw.trans (hb13.mono hbw.size))
      clear hb13 hbw
      go_wp2
      go_ret
      exact ⟨rfl, Hf.out⟩
end Go.Proofs.Ytjpfgancfgegcaa.frameEncodes
