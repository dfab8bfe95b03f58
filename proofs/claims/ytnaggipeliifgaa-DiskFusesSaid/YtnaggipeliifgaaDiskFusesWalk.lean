/-
  DiskFuses: behind a burnt fuse nothing is done any more.
-/
import Derived.Test.YtnaggipeliifgaaDiskPlain
import Derived.Test.YtnaggipeliifgaaDiskKnown
namespace Go.Proofs.Ytnaggipeliifgaa.diskFuses
open Go.RowKit L Oct Dsk
def wt (l : List (List UInt8)) : Nat := (l.map fun x => 1 + x.length).sum
theorem wt_take {l : List (List UInt8)} {k : Nat} (hk : k < l.length) : wt (l.take (k + 1)) = wt (l.take k) + 1 + (l.getD k []).length := by
  unfold wt
  rw [List.take_succ_eq_append_getElem hk, List.map_append, List.sum_append]
  simp [List.getD, hk]; omega
theorem wt_flat (l : List (List UInt8)) : l.flatten.length + l.length = wt l := by
  unfold wt
  induction l with
  | nil => rfl
  | cons x r ih => simp at ih ⊢; omega
def sF : ByteArray := ⟨#[102]⟩
def sZ : ByteArray := ⟨#[122]⟩
def sNone : ByteArray := ⟨#[110, 111, 110, 101]⟩
/-- nothing yet, or the one file -/
def One (fs : List AF) (m : Nat) : Prop := (fs = [] ∨ ∃ dat k, fs = [⟨sF, dat, k⟩] ∧ k ≤ dat.length) ∧ used fs ≤ m
theorem one_put {fs : List AF} {m : Nat} (h : One fs m) (x : List UInt8) : One (putF fs sF x) (m + 1 + x.length) := by
  obtain ⟨rfl | ⟨dat, k, rfl, hk⟩, hu⟩ := h
  · refine ⟨.inr ⟨x, 0, rfl, Nat.zero_le _⟩, ?_⟩
    show x.length + 0 ≤ _; omega
  · refine ⟨.inr ⟨dat ++ x, k, ?_, by simp; omega⟩, ?_⟩
    · simp [putF, getF, updF]
    · have hu : dat.length + 0 ≤ m := hu
      simp [putF, getF, updF, used]; omega
theorem one_ok {fs : List AF} {m : Nat} (h : One fs m) (hm : m ≤ 1048576) (f : Bool) (n : Nat) (hn : n ≤ 9223372036854775807) : (⟨1048576, fs, f, n⟩ : D).Ok := by
  refine ⟨by show 1048576 ≤ 1073741824; omega, Nat.le_trans h.2 hm, hn, ?_⟩
  obtain ⟨rfl | ⟨dat, k, rfl, hk⟩, hu⟩ := h
  · intro f hf; cases hf
  · intro f hf
    have : f = ⟨sF, dat, k⟩ := by simpa using hf
    subst this; exact hk
theorem one_length {fs : List AF} {m : Nat} (h : One fs m) : fs.length ≤ 1 := by
  obtain ⟨rfl | ⟨dat, k, rfl, hk⟩, hu⟩ := h <;> simp
theorem fuse_app {fs : List AF} {m n : Nat} (h : One fs m) (x : List UInt8) (hm : m + x.length ≤ 1048576) :
    (⟨1048576, fs, true, n⟩ : D).append sF x = if 0 < n then (⟨1048576, putF fs sF x, true, n - 1⟩, 0) else (⟨1048576, fs, true, n⟩, 9) := by
  by_cases hn : 0 < n
  · have hmay : D.may ⟨1048576, fs, true, n⟩ [sF] = 0 := by
      have : decide (n = 0) = false := by simp; omega
      simp only [D.may, this]; rfl
    rw [append_ok hmay (Nat.le_trans (Nat.add_le_add_right h.2 _) hm) (Nat.lt_of_le_of_lt (one_length h) (by omega)), if_pos hn]
    rfl
  · obtain rfl : n = 0 := by omega
    have hmay : D.may ⟨1048576, fs, true, 0⟩ [sF] = 9 := rfl
    rw [if_neg hn, D.append, if_neg (by rw [hmay]; omega), hmay]
theorem fuse_remove {fs : List AF} {m n : Nat} (h : One fs m) : (⟨1048576, fs, true, n⟩ : D).remove [sNone] = (⟨1048576, fs, true, n⟩, if 0 < n then 7 else 9) := by
  by_cases hn : 0 < n
  · have hmay : D.may ⟨1048576, fs, true, n⟩ [sNone] = 0 := by
      have : decide (n = 0) = false := by simp; omega
      simp only [D.may, this]; rfl
    have hg : getF fs sNone = none := by
      obtain ⟨rfl | ⟨dat, k, rfl, hk⟩, hu⟩ := h <;> rfl
    rw [if_pos hn, D.remove, eachF, if_pos hmay]
    simp only [hg]
  · obtain rfl : n = 0 := by omega
    have hmay : D.may ⟨1048576, fs, true, 0⟩ [sNone] = 9 := rfl
    rw [if_neg hn, D.remove, eachF, if_neg (by rw [hmay]; omega), hmay]
theorem fuse_crash {fs : List AF} {m n : Nat} (h : One fs m) (hm : m ≤ 1048576) : (((⟨1048576, fs, true, n⟩ : D).crash 0).append sZ []).2 = 0 := by
  have hu : ((⟨1048576, fs, true, n⟩ : D).crash 0).used + ([] : List UInt8).length ≤ 1048576 := by
    have h1 : Dsk.used (fs.map (crashF 0)) ≤ Dsk.used fs := used_map fun f _ => crash_len 0 f
    have := h.2
    show Dsk.used (fs.map (crashF 0)) + 0 ≤ 1048576
    omega
  have hl : ((⟨1048576, fs, true, n⟩ : D).crash 0).fs.length < 4096 := by
    show (fs.map (crashF 0)).length < 4096
    have := one_length h
    rw [List.length_map]; omega
  have hmay : ((⟨1048576, fs, true, n⟩ : D).crash 0).may [sZ] = 0 := rfl
  rw [append_ok hmay hu hl]
theorem cell_old {w w' : World} {A : Addr} {u : Value} (hb : Below w.heap.size w w') (h : w.cell? A = some u) : w'.cell? A = some u := by
  have hlt : A.block < w.heap.size := by
    unfold World.cell? at h
    cases ho : w.heap[A.block]? with
    | none => simp [ho] at h
    | some o => exact (Array.getElem?_eq_some_iff.1 ho).1
  rw [World.cell?_of_block (w := w) (hb.block A.block hlt)]; exact h
def FuseRel (w : World) (b N : Nat) (l1 : List (List UInt8)) (k : Nat) (wr : World) : Prop :=
  ∃ fs, One fs (wt (l1.take k)) ∧ Hold w ((DiskA b ⟨1048576, fs, true, N - k⟩).sep Asrt.emp) wr
theorem wt_le (l : List (List UInt8)) (k : Nat) : wt (l.take k) ≤ wt l := by
  unfold wt
  conv => rhs; rw [← List.take_append_drop k l]
  rw [List.map_append, List.sum_append]; omega
set_option maxRecDepth 1000000 in
set_option maxHeartbeats 3200000 in
theorem walk {w : World} (a0 : Int) (_w0 : (Lit.int .i64 a0).wf = true) (v1 : Value) (l1 : List (List UInt8)) (h1 : SlRows w v1 l1) (_b1 : l1.length * 24 ≤ 140737488351232) (c1 : ∀ x ∈ l1, x.length ≤ 140737488351232) :
    Calls Try.prog 5 #[.int .i64 a0, v1] w fun e w' => e = .returned (.bool true) ∧ Below w.heap.size w w' := by
  have hlen := h1.run_len Try.underlying22
  have H1 := Lib.hid h1
  have C1 := Lib.hid c1
  have hmx := h1.le
  clear h1 c1
  go_enter Try.func5, Try.ntmps5
  go_wp2
  go_loop [5, 6] (fun n i => ∃ k : Nat, k ≤ l1.length ∧ i = .int .i64 k ∧ n = .int .i64 (wt (l1.take k)) ∧ wt (l1.take k) ≤ 150000000000000) (fun _ i => l1.length - (intOf i).toNat)
  case atStart => exact ⟨0, Nat.zero_le _, rfl, rfl, by simp [wt]⟩
  case round =>
    obtain ⟨k, hk, rfl, rfl, hb⟩ := hrel
    obtain ⟨n, hn⟩ : ∃ n, n = wt (l1.take k) := ⟨_, rfl⟩
    rw [← hn] at hb ⊢
    have Hn := Lib.hid hn
    clear hn
    by_cases hbig : 8000 < n
    · have g1 : decide ((n : Int) ≤ 8000) = false := by simp; omega
      by_cases hlt : k < l1.length
      · go_wp2_with (go_at_call 10; refine (known_any _).mono ?_; rintro e w2 ⟨rfl, hb2⟩; have Hb := Lib.hid hb2; clear hb2)
        go_ret
        exact ⟨rfl, Hb.out⟩
      · go_wp2_with (go_at_call 10; refine (known_any _).mono ?_; rintro e w2 ⟨rfl, hb2⟩; have Hb := Lib.hid hb2; clear hb2)
        go_ret
        exact ⟨rfl, Hb.out⟩
    · have g1 : decide ((n : Int) ≤ 8000) = true := by simp; omega
      have hn8 : n ≤ 8000 := by omega
      clear hbig
      by_cases hlt : k < l1.length
      · obtain ⟨A, u, l, hA, hblk, hc, Hl', hsl⟩ := (H1.out).at (P := Try.prog) Try.underlying22 Try.size23 k hlt
        have hl2 := hsl.run_len Try.underlying23
        have hle : l.length ≤ 140737488351232 := by rw [Hl'.out]; exact C1.out _ (by simp [List.getD, hlt])
        have hw := Lib.hid (wt_take hlt)
        rw [← Hn.out, ← Hl'.out] at hw
        clear hblk hsl Hl'
        go_wp2
        go_round
        case rel => exact ⟨k + 1, by omega, by go_num, by rw [hw.out]; go_num, by rw [hw.out]; omega⟩
        case measure => simp [intOf]; omega
      · have hwt : Hid (wt l1 = n) := Lib.hid (by rw [Hn.out, List.take_of_length_le (by omega)])
        by_cases ha : a0 < 0 ∨ 1000 < a0
        · rcases ha with ha | ha
          · have g2 : decide (a0 < 0) = true := by simpa using ha
            go_wp2_with (go_at_call 10; refine (known_any _).mono ?_; rintro e w2 ⟨rfl, hb2⟩; have Hb := Lib.hid hb2; clear hb2)
            go_ret
            exact ⟨rfl, Hb.out⟩
          · have g2 : decide (a0 < 0) = false := by simp; omega
            have g3 : decide (1000 < a0) = true := by simpa using ha
            go_wp2_with (go_at_call 10; refine (known_any _).mono ?_; rintro e w2 ⟨rfl, hb2⟩; have Hb := Lib.hid hb2; clear hb2)
            go_ret
            exact ⟨rfl, Hb.out⟩
        · obtain ⟨N, rfl⟩ : ∃ N : Nat, a0 = N := ⟨a0.toNat, by omega⟩
          have hN : N ≤ 1000 := by omega
          have g2 : decide ((N : Int) < 0) = false := by simp
          have g3 : decide ((1000 : Int) < (N : Int)) = false := by simp; omega
          clear ha
          go_wp2_with (first
            | (go_at_call 11; refine (new_ok (Hold.start w) 1048576 (by omega)).mono ?_; rintro e w2 ⟨_, rfl, b, rfl, h2⟩; unfold ptr; have H2 := Lib.hid h2; clear h2)
            | (go_at_call 18; refine (fuse_any H2.out (N : Int)).mono ?_; rintro e w3 ⟨rfl, h3⟩; have H3 := Lib.hid h3; clear h3))
          have HR : Hid (FuseRel w b N l1 0 w3) := Lib.hid ⟨[], ⟨.inl rfl, Nat.zero_le _⟩, by
            have h := H3.out
            rw [show decide (0 ≤ (N : Int)) = true from by simp, Int.toNat_natCast] at h
            exact h⟩
          clear H2 H3
          go_loopw [9] (fun i wr => ∃ k : Nat, k ≤ l1.length ∧ i = .int .i64 k ∧ FuseRel w b N l1 k wr) (fun i _ => l1.length - (intOf i).toNat)
          case atStart => exact ⟨0, Nat.zero_le _, rfl, HR.out⟩
          case round =>
            clear HR
            obtain ⟨j, hj, rfl, hR⟩ := hrel
            have HRd := Lib.hid hR
            clear hR
            by_cases hlj : j < l1.length
            · obtain ⟨fs, hone, hH⟩ := HRd.out
              obtain ⟨A, u, l, hA, hblk, hc0, Hl', hsl⟩ := (H1.out).at (P := Try.prog) Try.underlying22 Try.size23 j hlj
              obtain ⟨ao, cap, rfl⟩ : ∃ ao cap, u = .slice ao l.length cap := by
                obtain ⟨_, ao, cap, e, _⟩ := hsl
                exact ⟨ao, cap, e⟩
              have hc := cell_old hH.old hc0
              have hsum : wt (l1.take j) + 1 + l.length ≤ 8000 := by
                have e1 := wt_take hlj
                have e2 := wt_le l1 (j + 1)
                rw [Hl'.out]; rw [hwt.out] at e2; omega
              have hap := fuse_app (n := N - j) hone l (by omega)
              have hone2 : One (putF fs sF l) (wt (l1.take (j + 1))) := by rw [wt_take hlj, ← Hl'.out]; exact one_put hone l
              have hone3 : One fs (wt (l1.take (j + 1))) := ⟨hone.1, Nat.le_trans hone.2 (by rw [wt_take hlj]; omega)⟩
              have hcall := append_lit hH (bk := wr.heap.size) rfl (one_ok hone (by omega) true (N - j) (by omega)) sF _ l (Reads.old hsl) (by omega)
              by_cases hjN : j < N
              · have hNj : (j : Int) < (N : Int) := by omega
                rw [hap, if_pos (by omega)] at hcall
                have hnext : Hid (∀ w', Hold w ((DiskA b ⟨1048576, putF fs sF l, true, N - j - 1⟩).sep Asrt.emp) w' → FuseRel w b N l1 (j + 1) w') := Lib.hid fun w' h => ⟨_, hone2, by rw [show N - (j + 1) = N - j - 1 from by omega]; exact h⟩
                have HC := Lib.hid hcall
                clear hcall hap hone hH hsl Hl' hblk hc0 hone2 hone3 hsum hjN
                go_wp2_with (go_at_call 12; go_loud (refine HC.out.mono ?_; rintro e w4 ⟨rfl, h4⟩); have H4 := Lib.hid (hnext.out _ h4); clear h4)
                go_roundw
                case rel => exact ⟨j + 1, by omega, by go_num, H4.out⟩
                case measure => simp [intOf]; omega
              · have hNj : ¬ (j : Int) < (N : Int) := by omega
                rw [hap, if_neg (by omega)] at hcall
                have hnext : Hid (∀ w', Hold w ((DiskA b ⟨1048576, fs, true, N - j⟩).sep Asrt.emp) w' → FuseRel w b N l1 (j + 1) w') := Lib.hid fun w' h => ⟨_, hone3, by rw [show N - (j + 1) = N - j from by omega]; exact h⟩
                have HC := Lib.hid hcall
                clear hcall hap hone hH hsl Hl' hblk hc0 hone2 hone3 hsum hjN
                go_wp2_with (go_at_call 12; go_loud (refine HC.out.mono ?_; rintro e w4 ⟨rfl, h4⟩); have H4 := Lib.hid (hnext.out _ h4); clear h4)
                go_roundw
                case rel => exact ⟨j + 1, by omega, by go_num, H4.out⟩
                case measure => simp [intOf]; omega
            · obtain ⟨fs, hone, hH⟩ := HRd.out
              have hle := wt_le l1 j
              rw [hwt.out] at hle
              have HO := one_ok hone (show wt (l1.take j) ≤ 1048576 by omega) true (N - j) (by omega)
              have hjl : j = l1.length := by omega
              have hrem := remove_lit hH (bk := wr.heap.size) rfl (show (⟨1048576, fs, true, N - j⟩ : D).left ≤ _ from HO.left) sNone
              rw [fuse_remove hone] at hrem
              have hcr := fuse_crash (n := N - j) hone (show wt (l1.take j) ≤ 1048576 by omega)
              have hok2 := crash_ok HO 0
              have HC := Lib.hid hrem
              have HO2 := Lib.hid hok2
              have Hcr := Lib.hid hcr
              have Hw := Lib.hid (fun f hf => (⟨HO.lasts f hf, Nat.le_trans (HO.len hf) (by omega)⟩ : f.lasts ≤ f.data.length ∧ f.data.length ≤ 4611686018427387904) : ∀ f ∈ (⟨1048576, fs, true, N - j⟩ : D).fs, f.lasts ≤ f.data.length ∧ f.data.length ≤ 4611686018427387904)
              clear hrem hok2 hcr hH hone HO hle
              by_cases hjN : j < N
              · have hNj : (l1.length : Int) < (N : Int) := by omega
                rw [if_pos (show 0 < N - j by omega)] at HC
                clear hjN hjl
                go_wp2_with (first
                  | (go_at_call 19; refine HC.out.mono ?_; rintro e w4 ⟨rfl, h4⟩; have H4 := Lib.hid h4; clear h4)
                  | (go_at_call 14; refine (crash_any H4.out 0 (by omega) Hw.out).mono ?_; rintro e w5 ⟨rfl, h5⟩; have H5 := Lib.hid h5; clear h5)
                  | (go_at_call 12; refine (append_lit H5.out (bk := w5.heap.size) rfl HO2.out sZ (.slice none 0 0) [] Reads.nil (by simp)).mono ?_; rintro e w6 ⟨rfl, h6⟩; rw [show (0 : Int).toNat = 0 from rfl, Hcr.out]; have H6 := Lib.hid h6.old; clear h6)
                  | (go_at_call 10; refine (known_any _).mono ?_; rintro e w7 ⟨rfl, hb7⟩; have Hb := Lib.hid (H6.out.trans (hb7.mono H6.out.size)); clear hb7))
                go_ret
                exact ⟨rfl, Hb.out⟩
              · have hNj : ¬ (l1.length : Int) < (N : Int) := by omega
                rw [if_neg (show ¬ 0 < N - j by omega)] at HC
                clear hjN hjl
                go_wp2_with (first
                  | (go_at_call 19; refine HC.out.mono ?_; rintro e w4 ⟨rfl, h4⟩; have H4 := Lib.hid h4; clear h4)
                  | (go_at_call 14; refine (crash_any H4.out 0 (by omega) Hw.out).mono ?_; rintro e w5 ⟨rfl, h5⟩; have H5 := Lib.hid h5; clear h5)
                  | (go_at_call 12; refine (append_lit H5.out (bk := w5.heap.size) rfl HO2.out sZ (.slice none 0 0) [] Reads.nil (by simp)).mono ?_; rintro e w6 ⟨rfl, h6⟩; rw [show (0 : Int).toNat = 0 from rfl, Hcr.out]; have H6 := Lib.hid h6.old; clear h6)
                  | (go_at_call 10; refine (known_any _).mono ?_; rintro e w7 ⟨rfl, hb7⟩; have Hb := Lib.hid (H6.out.trans (hb7.mono H6.out.size)); clear hb7))
                go_ret
                exact ⟨rfl, Hb.out⟩
end Go.Proofs.Ytnaggipeliifgaa.diskFuses
