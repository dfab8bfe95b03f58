/-
  DiskKeeps: what was synced is the beginning of what is there behind any crash.
-/
import Derived.Test.YtnaggipeliifgaaDiskLoop
namespace Go.Proofs.Ytnaggipeliifgaa.diskKeeps
open Go.RowKit L Oct Dsk
/-- the one file behind k rows -/
def kf (S : Nat) (l : List (List UInt8)) (k : Nat) : List AF := if k = 0 then [] else [⟨sF, (l.take k).flatten, (l.take (min k S)).flatten.length⟩]
def kd (fs : List AF) : D := ⟨1048576, fs, false, 0⟩
theorem take_mono (l : List (List UInt8)) {a b : Nat} (h : a ≤ b) : (l.take a).flatten.length ≤ (l.take b).flatten.length := by
  have e : l.take b = l.take a ++ (l.take b).drop a := by
    conv => lhs; rw [← List.take_append_drop a (l.take b)]
    rw [List.take_take, Nat.min_eq_left h]
  rw [e, List.flatten_append, List.length_append]; omega
theorem kf_used (S : Nat) (l : List (List UInt8)) (k : Nat) : used (kf S l k) ≤ wt l := by
  unfold kf
  split
  · exact Nat.zero_le _
  · have := flat_le l k
    show _ + 0 ≤ _
    omega
theorem kd_ok {S : Nat} {l : List (List UInt8)} {k : Nat} (h : wt l ≤ 8000) : (kd (kf S l k)).Ok := by
  refine ⟨by show 1048576 ≤ 1073741824; omega, ?_, by show 0 ≤ _; omega, ?_⟩
  · have := kf_used S l k
    show used (kf S l k) ≤ 1048576; omega
  · intro f hf
    unfold kd kf at hf
    dsimp only at hf
    split at hf
    · cases hf
    · have : f = ⟨sF, (l.take k).flatten, (l.take (min k S)).flatten.length⟩ := by simpa using hf
      subst this
      exact take_mono l (Nat.min_le_left _ _)
theorem kd_append {S : Nat} {l : List (List UInt8)} {k : Nat} (h : wt l ≤ 8000) (hk : k < l.length) :
    (kd (kf S l k)).append sF (l.getD k []) = (kd [⟨sF, (l.take (k + 1)).flatten, (l.take (min k S)).flatten.length⟩], 0) := by
  have hu := kf_used S l k
  have hx : (l.getD k []).length ≤ wt l := by
    have := wt_take hk
    have := wt_le l (k + 1)
    omega
  have hlen : (kf S l k).length ≤ 1 := by unfold kf; split <;> simp
  rw [append_ok (by rfl) (by show used (kf S l k) + _ ≤ 1048576; omega) (by show (kf S l k).length < 4096; omega)]
  unfold kf
  split
  · rename_i e
    subst e
    simp only [Nat.zero_add, flat_snoc hk]
    simp [kd, putF, getF, D.done]
  · simp [kd, putF, getF, updF, D.done, flat_snoc hk]
theorem kd_sync (x : List UInt8) (m : Nat) : (kd [⟨sF, x, m⟩]).sync [sF] = (kd [⟨sF, x, x.length⟩], 0) := by rfl
theorem kd_next1 {S : Nat} {l : List (List UInt8)} {k : Nat} (h : k < S) : kf S l (k + 1) = [⟨sF, (l.take (k + 1)).flatten, (l.take (k + 1)).flatten.length⟩] := by
  unfold kf
  rw [if_neg (by omega), Nat.min_eq_left (by omega)]
theorem kd_next2 {S : Nat} {l : List (List UInt8)} {k : Nat} (h : ¬ k < S) : kf S l (k + 1) = [⟨sF, (l.take (k + 1)).flatten, (l.take (min k S)).flatten.length⟩] := by
  unfold kf
  rw [if_neg (by omega), Nat.min_eq_right (by omega), Nat.min_eq_right (by omega)]
def KeepRel (w : World) (b S : Nat) (l : List (List UInt8)) (k : Nat) (va vs : Value) (wr : World) : Prop :=
  Hold w ((Row 5 1 va (l.take k).flatten.length (u8s (l.take k).flatten)).sep ((Row 5 1 vs (l.take (min k S)).flatten.length (u8s (l.take (min k S)).flatten)).sep ((DiskA b (kd (kf S l k))).sep Asrt.emp))) wr
set_option maxRecDepth 1000000 in
set_option maxHeartbeats 3200000 in
theorem walk {w : World} (v0 : Value) (l0 : List (List UInt8)) (h0 : SlRows w v0 l0) (_b0 : l0.length * 24 ≤ 140737488351232) (c0 : ∀ x ∈ l0, x.length ≤ 140737488351232) (a1 : Int) (_w1 : (Lit.int .i64 a1).wf = true) (a2 : Int) (w2 : (Lit.int .i64 a2).wf = true) :
    Calls Try.prog 3 #[v0, .int .i64 a1, .int .i64 a2] w fun e w' => e = .returned (.bool true) ∧ Below w.heap.size w w' := by
  have ha2 : a2 ≤ 9223372036854775807 := by
    have : -9223372036854775808 ≤ a2 ∧ a2 ≤ 9223372036854775807 := by simpa [Lit.wf, IntKind.min, IntKind.max, IntKind.signed, IntKind.bits] using w2
    exact this.2
  have hlen := h0.run_len Try.underlying22
  have H0 := Lib.hid h0
  have C0 := Lib.hid c0
  have hmx := h0.le
  have HA2 := Lib.hid ha2
  clear h0 c0 w2 ha2
  obtain ⟨S, hS⟩ : ∃ S, S = a1.toNat := ⟨_, rfl⟩
  have HS := Lib.hid hS
  clear hS
  go_enter Try.func3, Try.ntmps3
  go_wp2
  go_loop [7, 8] (fun n i => ∃ k : Nat, k ≤ l0.length ∧ i = .int .i64 k ∧ n = .int .i64 (wt (l0.take k)) ∧ wt (l0.take k) ≤ 150000000000000) (fun _ i => l0.length - (intOf i).toNat)
  case atStart => exact ⟨0, Nat.zero_le _, rfl, rfl, by simp [wt]⟩
  case round =>
    obtain ⟨k, hk, rfl, rfl, hb⟩ := hrel
    obtain ⟨n, hn⟩ : ∃ n, n = wt (l0.take k) := ⟨_, rfl⟩
    rw [← hn] at hb ⊢
    have Hn := Lib.hid hn
    clear hn
    by_cases hbig : 8000 < n
    · have g1 : decide ((n : Int) ≤ 8000) = false := by simp; omega
      by_cases hlt : k < l0.length
      all_goals
        go_wp2_with (go_at_call 10; refine (known_any _).mono ?_; rintro e w2 ⟨rfl, hb2⟩; have Hb := Lib.hid hb2; clear hb2)
        go_ret
        exact ⟨rfl, Hb.out⟩
    · have g1 : decide ((n : Int) ≤ 8000) = true := by simp; omega
      have hn8 : n ≤ 8000 := by omega
      clear hbig
      by_cases hlt : k < l0.length
      · obtain ⟨A, u, l, hA, hblk, hc, Hl', hsl⟩ := (H0.out).at (P := Try.prog) Try.underlying22 Try.size23 k hlt
        have hl2 := hsl.run_len Try.underlying23
        have hle : l.length ≤ 140737488351232 := by rw [Hl'.out]; exact C0.out _ (by simp [List.getD, hlt])
        have hw := Lib.hid (wt_take hlt)
        rw [← Hn.out, ← Hl'.out] at hw
        clear hblk hsl Hl'
        go_wp2
        go_round
        case rel => exact ⟨k + 1, by omega, by go_num, by rw [hw.out]; go_num, by rw [hw.out]; omega⟩
        case measure => simp [intOf]; omega
      · have hwt : Hid (wt l0 ≤ 8000) := Lib.hid (by
          have := Hn.out
          rw [List.take_of_length_le (by omega)] at this; omega)
        go_wp2_with (go_at_call 11; refine (new_ok (Hold.start w) 1048576 (by omega)).mono ?_; rintro e w2 ⟨_, rfl, b, rfl, h2⟩; unfold ptr; have H2 := Lib.hid h2; clear h2)
        have HR : Hid (KeepRel w b S l0 0 (.slice none 0 0) (.slice none 0 0) w2) := Lib.hid ((H2.out.addNil 5 1).addNil 5 1)
        clear H2
        go_loopw [11, 12, 13] (fun ya ys i wr => ∃ (k : Nat) (va vs : Value), va = ya ∧ vs = ys ∧ k ≤ l0.length ∧ i = .int .i64 k ∧ KeepRel w b S l0 k va vs wr) (fun _ _ i _ => l0.length - (intOf i).toNat)
        case atStart => exact ⟨0, _, _, rfl, rfl, Nat.zero_le _, rfl, HR.out⟩
        case round =>
          clear HR
          obtain ⟨j, va, vs, rfl, rfl, hj, rfl, hR⟩ := hrel
          have HRd : Hid (Hold w ((DiskA b (kd (kf S l0 j))).sep ((Row 5 1 va (l0.take j).flatten.length (u8s (l0.take j).flatten)).sep ((Row 5 1 vs (l0.take (min j S)).flatten.length (u8s (l0.take (min j S)).flatten)).sep Asrt.emp))) wr) := Lib.hid (Hold.up3 hR)
          clear hR
          by_cases hlj : j < l0.length
          · obtain ⟨A, u, l, hA, hblk, hc0, Hl', hsl⟩ := (H0.out).at (P := Try.prog) Try.underlying22 Try.size23 j hlj
            obtain ⟨ao, cap, rfl⟩ : ∃ ao cap, u = .slice ao l.length cap := by
              obtain ⟨_, ao, cap, e, _⟩ := hsl
              exact ⟨ao, cap, e⟩
            have hcr := cell_old HRd.out.old hc0
            have Hsl := Lib.hid hsl
            have hll : l.length ≤ 8000 := by
              have e1 := wt_take hlj
              have e2 := wt_le l0 (j + 1)
              have := hwt.out
              rw [Hl'.out]; omega
            obtain ⟨N, hN⟩ : ∃ N, N = (l0.take j).flatten.length := ⟨_, rfl⟩
            have hN8 : N ≤ 8000 := by
              have := flat_le l0 j
              have := hwt.out
              omega
            have hNl : Hid (N + l.length = (l0.take (j + 1)).flatten.length) := Lib.hid (by rw [flat_snoc hlj, List.length_append, ← Hl'.out, hN])
            have hNl2 : N + l.length ≤ 8000 := by
              rw [hNl.out]
              have := flat_le l0 (j + 1)
              have := hwt.out
              omega
            have hap : Hid ((kd (kf S l0 j)).append sF l = (kd [⟨sF, (l0.take (j + 1)).flatten, (l0.take (min j S)).flatten.length⟩], 0)) := Lib.hid (by rw [Hl'.out]; exact kd_append hwt.out hlj)
            have hcall := append_lit HRd.out (bk := wr.heap.size) rfl (kd_ok hwt.out) sF _ l (Reads.old hsl) (by omega)
            rw [hap.out] at hcall
            have HC := Lib.hid hcall
            have HF : Hid (u8s (l0.take (j + 1)).flatten = u8s (l0.take j).flatten ++ u8s l) := Lib.hid (by rw [flat_snoc hlj, u8s_append, ← Hl'.out])
            rw [← hN] at HC
            clear hcall hap hblk Hl' hsl HRd hN
            by_cases hjS : j < S
            · have hjN : (j : Int) < a1 := by have := HS.out; omega
              have HT : Hid (∀ v2 v3 w', Hold w ((Row 5 1 v2 (l0.take (j + 1)).flatten.length (u8s (l0.take (j + 1)).flatten)).sep ((Row 5 1 v3 (l0.take (j + 1)).flatten.length (u8s (l0.take (j + 1)).flatten)).sep ((DiskA b (kd [⟨sF, (l0.take (j + 1)).flatten, (l0.take (j + 1)).flatten.length⟩])).sep Asrt.emp))) w' → KeepRel w b S l0 (j + 1) v2 v3 w') := Lib.hid (by
                intro v2 v3 w' h
                unfold KeepRel
                rw [kd_next1 hjS, Nat.min_eq_left (show j + 1 ≤ S by omega)]; exact h)
              clear hjS
              go_wp2_with (first
                | (go_at_call 12; go_loud (refine HC.out.mono ?_; rintro e w4 ⟨rfl, h4⟩); have H4 := h4.up2; have hc4 := cell_old H4.old hc0; have hs4 := Hsl.out.below' H4.old; clear h4 HC)
                | (at_builtin; refine wpList_app (sx := .tmp 61) el8 H4 rfl _ rfl rfl rfl hs4 (u8s_one _) (by omega) (by omega) ?_; intro v5 ys w5 hys H5; rw [hys.out, ← HF.out, hNl.out] at H5; clear H4 hs4 hys)
                | (go_at_call 13; refine (sync_lit H5.up2 (bk := w5.heap.size) rfl (show (0 : Nat) ≤ _ by omega) sF).mono ?_; rintro e w6 ⟨rfl, h6⟩; rw [kd_sync] at h6 ⊢; have H6 := h6.addEmpty 5; have hs6 := H6.up3.sl; clear H5 h6)
                | (at_builtin; refine wpList_app (sx := .tmp 74) el8 H6 rfl _ rfl rfl rfl hs6 (u8s_one _) (by rw [← hNl.out]; omega) (by rw [← hNl.out]; omega) ?_; intro v7 ys w7 hys H7; rw [hys.out, List.nil_append, Nat.zero_add] at H7; have H8 := Lib.hid (HT.out _ _ _ H7.up4.drop1.up3); clear H6 hs6 hys H7))
              go_roundw
              case rel => exact ⟨j + 1, _, _, rfl, rfl, by omega, by go_num, H8.out⟩
              case measure => simp [intOf]; omega
            · have hjN : ¬ (j : Int) < a1 := by have := HS.out; omega
              have HT : Hid (∀ v2 w', Hold w ((Row 5 1 v2 (l0.take (j + 1)).flatten.length (u8s (l0.take (j + 1)).flatten)).sep ((Row 5 1 vs (l0.take (min j S)).flatten.length (u8s (l0.take (min j S)).flatten)).sep ((DiskA b (kd [⟨sF, (l0.take (j + 1)).flatten, (l0.take (min j S)).flatten.length⟩])).sep Asrt.emp))) w' → KeepRel w b S l0 (j + 1) v2 vs w') := Lib.hid (by
                intro v2 w' h
                unfold KeepRel
                rw [kd_next2 hjS, Nat.min_eq_right (show S ≤ j + 1 by omega)]
                rw [Nat.min_eq_right (show S ≤ j by omega)] at h ⊢
                exact h)
              clear hjS
              go_wp2_with (first
                | (go_at_call 12; go_loud (refine HC.out.mono ?_; rintro e w4 ⟨rfl, h4⟩); have H4 := h4.up2; have hc4 := cell_old H4.old hc0; have hs4 := Hsl.out.below' H4.old; clear h4 HC)
                | (at_builtin; refine wpList_app (sx := .tmp 61) el8 H4 rfl _ rfl rfl rfl hs4 (u8s_one _) (by omega) (by omega) ?_; intro v5 ys w5 hys H5; rw [hys.out, ← HF.out, hNl.out] at H5; have H8 := Lib.hid (HT.out _ _ (Hold.under H5 fun _ h => up2_at h)); clear H4 hs4 hys H5))
              go_roundw
              case rel => exact ⟨j + 1, _, _, rfl, rfl, by omega, by go_num, H8.out⟩
              case measure => simp [intOf]; omega
          · have hjl : j = l0.length := by omega
            have hwf : Hid (∀ f ∈ (kd (kf S l0 j)).fs, f.lasts ≤ f.data.length ∧ f.data.length ≤ 4611686018427387904) := Lib.hid fun f hf => ⟨(kd_ok hwt.out).lasts f hf, Nat.le_trans ((kd_ok hwt.out).len hf) (by omega)⟩
            have HC := Lib.hid (crash_any HRd.out a2 HA2.out hwf.out)
            by_cases hz : l0.length = 0
            · have g5 : ((l0.length : Int) == 0) = true := by simp [hz]
              have hg : Hid (getF ((kd (kf S l0 j)).crash a2.toNat).fs sF = none) := Lib.hid (by
                have : j = 0 := by omega
                subst this; rfl)
              clear hjl hz hwf HRd
              go_wp2_with (first
                | (go_at_call 14; refine HC.out.mono ?_; rintro e w4 ⟨rfl, h4⟩; have H4 := Lib.hid h4; clear h4 HC)
                | (go_at_call 15; refine (read_no H4.out sF hg.out).mono ?_; rintro e w5 ⟨rfl, rfl⟩)
                | (go_at_call 10; refine (known_any _).mono ?_; rintro e w7 ⟨rfl, hb7⟩; have Hb := Lib.hid (H4.out.old.trans (hb7.mono H4.out.old.size)); clear hb7))
              go_ret
              exact ⟨rfl, Hb.out⟩
            · have g5 : ((l0.length : Int) == 0) = false := by rw [beq_eq_false_iff_ne]; omega
              obtain ⟨all, hall⟩ : ∃ all, all = (l0.take j).flatten := ⟨_, rfl⟩
              obtain ⟨sure, hsure⟩ : ∃ sure, sure = (l0.take (min j S)).flatten := ⟨_, rfl⟩
              have hsa : sure.length ≤ all.length := by rw [hall, hsure]; exact take_mono l0 (Nat.min_le_left _ _)
              have hal : all.length ≤ 8000 := by
                have := flat_le l0 j
                have := hwt.out
                rw [hall]; omega
              obtain ⟨T, n, hcr, hT1, hT2, hT3⟩ : ∃ T n, (kd (kf S l0 j)).crash a2.toNat = kd [⟨sF, T, n⟩] ∧ sure.length ≤ T.length ∧ T.length ≤ all.length ∧ all.take T.length = T := by
                have hl := Nat.mod_lt a2.toNat (show 0 < all.length - sure.length + 1 by omega)
                refine ⟨all.take (sure.length + a2.toNat % (all.length - sure.length + 1)), sure.length + a2.toNat % (all.length - sure.length + 1), ?_, ?_, ?_, ?_⟩
                · rw [kf, if_neg (by omega), ← hall, ← hsure]; rfl
                · rw [List.length_take]; omega
                · rw [List.length_take]; omega
                · rw [List.length_take, Nat.min_eq_left (by omega)]
              rw [hcr, ← hall, ← hsure] at HC
              have HT3 := Lib.hid hT3
              clear hjl hz hwf HRd hall hsure hcr hT3
              go_wp2_with (first
                | (go_at_call 14; refine HC.out.mono ?_; rintro e w4 ⟨rfl, h4⟩; have H4 := Lib.hid h4; clear h4 HC)
                | (go_at_call 15; refine (read_yes H4.out sF (f := ⟨sF, T, n⟩) rfl (show T.length ≤ _ by omega)).mono ?_; rintro e w5 ⟨v5, rfl, ho5, hb5⟩; have H5 := H4.out.keeps hb5; have hs5 := Own.sl ho5; have hl5 := hs5.run_len Try.underlying23; have hla := H5.up2.sl.run_len Try.underlying23; have hls := H5.up3.sl.run_len Try.underlying23; obtain ⟨v6, hr6, ho6, _⟩ := run_slice_own (P := Try.prog) H5.up2.own Try.underlying23 Try.size5 T.length (by omega) (.int .i64 T.length) ⟨_, rfl⟩; rw [Nat.mul_one, u8s_take, HT3.out] at ho6; have hs6 := Lib.hid ho6.sl; have Hs5 := Lib.hid hs5; have Ho5 := Lib.hid H5.old; clear ho5 hb5 H5 hs5 ho6 H4)
                | (go_at_call 16; refine (same_any v5 v6 T T _ Hs5.out hs6.out).mono ?_; rintro e w6 ⟨rfl, hb6⟩; rw [show decide (T = T) = true from by simp]; have Hb6 := Lib.hid (Ho5.out.trans (hb6.mono Ho5.out.size)); clear hb6)
                | (go_at_call 10; refine (known_any _).mono ?_; rintro e w7 ⟨rfl, hb7⟩; have Hb := Lib.hid (Hb6.out.trans (hb7.mono Hb6.out.size)); clear hb7))
              go_ret
              exact ⟨rfl, Hb.out⟩
end Go.Proofs.Ytnaggipeliifgaa.diskKeeps
