/-
  KeepLast: wherever the fuse burns, and whatever the crash keeps: what is there is what was saved last.
-/
import Derived.Test.YtfkingloapohjaaKeepKnown
namespace Go.Proofs.Ytfkingloapohjaa.keepLast
open Go.RowKit L Oct Dsk Fr Kp
def wt (l : List (List UInt8)) : Nat := (l.map fun x => 5 + x.length).sum
theorem wt_take {l : List (List UInt8)} {k : Nat} (hk : k < l.length) : wt (l.take (k + 1)) = wt (l.take k) + 5 + (l.getD k []).length := by
  unfold wt
  rw [List.take_succ_eq_append_getElem hk, List.map_append, List.sum_append]
  simp [List.getD, hk]; omega
theorem wt_le (l : List (List UInt8)) (k : Nat) : wt (l.take k) ≤ wt l := by
  unfold wt
  conv => rhs; rw [← List.take_append_drop k l]
  rw [List.map_append, List.sum_append]; omega
theorem wt_at {l : List (List UInt8)} {k : Nat} (hk : k < l.length) : (l.getD k []).length ≤ wt l := by
  have := wt_take hk
  have := wt_le l (k + 1)
  omega
theorem cell_old {w w' : World} {A : Addr} {u : Value} (hb : Below w.heap.size w w') (h : w.cell? A = some u) : w'.cell? A = some u := by
  have hlt : A.block < w.heap.size := by
    unfold World.cell? at h
    cases ho : w.heap[A.block]? with
    | none => simp [ho] at h
    | some o => exact (Array.getElem?_eq_some_iff.1 ho).1
  rw [World.cell?_of_block (w := w) (hb.block A.block hlt)]; exact h
def sF : ByteArray := ⟨#[102]⟩
def kS (fs : List AF) (n : Nat) : D := ⟨1048576, fs, true, n⟩
def whole (p : List UInt8) : List AF := [⟨sF, rec_ p, (rec_ p).length⟩]
/-- nothing yet, or the file as it was saved -/
def oldF (l : List (List UInt8)) (k : Nat) : List AF := if k = 0 then [] else whole (l.getD (k - 1) [])
theorem may_dead (fs : List AF) (s : ByteArray) : (kS fs 0).may [s] = 9 := rfl
theorem may_live (fs : List AF) {n : Nat} (hn : n ≠ 0) (s : ByteArray) (hs : nameOk s = true) : (kS fs n).may [s] = 0 := by
  have : decide (n = 0) = false := by simpa using hn
  unfold D.may kS
  dsimp only
  rw [this]
  simp [hs]
theorem may_live2 (fs : List AF) {n : Nat} (hn : n ≠ 0) (s t : ByteArray) (hs : nameOk s = true) (ht : nameOk t = true) : (kS fs n).may [s, t] = 0 := by
  have : decide (n = 0) = false := by simpa using hn
  unfold D.may kS
  dsimp only
  rw [this]
  simp [hs, ht]
/-- at most one whole file -/
inductive OneF : List AF → Prop
  | none : OneF []
  | some (Q : List UInt8) (q : Nat) (hQ : Q.length ≤ 10000) (hq : q ≤ Q.length) : OneF [⟨sF, Q, q⟩]
theorem l_app {fs : List AF} (h : OneF fs) {n : Nat} (hn : n ≠ 0) {R : List UInt8} (hR : R.length ≤ 10000) : (kS fs n).append (sh sF) R = (kS (fs ++ [⟨sh sF, R, 0⟩]) (n - 1), 0) := by
  cases h with
  | none =>
    rw [append_ok (may_live _ hn _ (by decide)) (by show 0 + _ ≤ 1048576; omega) (by show 0 < 4096; omega)]; rfl
  | some Q q hQ hq =>
    rw [append_ok (may_live _ hn _ (by decide)) (by show Q.length + 0 + _ ≤ 1048576; omega) (by show 1 < 4096; omega)]; rfl
theorem l_sync {fs : List AF} (h : OneF fs) {n : Nat} (hn : n ≠ 0) (R : List UInt8) : (kS (fs ++ [⟨sh sF, R, 0⟩]) n).sync [sh sF] = (kS (fs ++ [⟨sh sF, R, R.length⟩]) (n - 1), 0) := by
  cases h with
  | none => rw [D.sync, eachF, if_pos (may_live _ hn _ (by decide))]; rfl
  | some Q q hQ hq => rw [D.sync, eachF, if_pos (may_live _ hn _ (by decide))]; rfl
theorem l_ren {fs : List AF} (h : OneF fs) {n : Nat} (hn : n ≠ 0) (R : List UInt8) : (kS (fs ++ [⟨sh sF, R, R.length⟩]) n).rename (sh sF) sF = (kS [⟨sF, R, R.length⟩] (n - 1), 0) := by
  cases h with
  | none => rw [D.rename, if_pos (may_live2 _ hn _ _ (by decide) (by decide))]; rfl
  | some Q q hQ hq => rw [D.rename, if_pos (may_live2 _ hn _ _ (by decide) (by decide))]; rfl
theorem d_app (fs : List AF) (s : ByteArray) (R : List UInt8) : (kS fs 0).append s R = (kS fs 0, 9) := by rw [D.append, if_neg (by rw [may_dead]; decide), may_dead]
theorem d_sync (fs : List AF) (s : ByteArray) : (kS fs 0).sync [s] = (kS fs 0, 9) := by rw [D.sync, eachF, if_neg (by rw [may_dead]; decide), may_dead]
theorem d_ren (fs : List AF) (s t : ByteArray) : (kS fs 0).rename s t = (kS fs 0, 9) := by
  have : (kS fs 0).may [s, t] = 9 := rfl
  rw [D.rename, if_neg (by rw [this]; decide), this]
theorem getF_old {fs : List AF} (h : OneF fs) : getF fs (sh sF) = none := by cases h <;> rfl
theorem save_tail {fs : List AF} (h : OneF fs) (n : Nat) (x : List UInt8) : save (kS fs n) sF x = tailS (kS fs n) sF x := by
  rw [save, if_pos (by decide), show (kS fs n).fs = fs from rfl, getF_old h]; rfl
theorem last_ok {fs : List AF} (h : OneF fs) {n : Nat} (hn : 3 ≤ n) {x : List UInt8} (hx : (rec_ x).length ≤ 10000) : save (kS fs n) sF x = (kS (whole x) (n - 3), 0) := by
  rw [save_tail h, tailS, l_app h (by omega) hx]
  show (if (0 : Nat) = 0 then _ else _) = _
  rw [if_pos rfl, l_sync h (by omega)]
  show (if (0 : Nat) = 0 then _ else _) = _
  rw [if_pos rfl, l_ren h (by omega)]
  rw [show n - 1 - 1 - 1 = n - 3 from by omega]; rfl
/-- what a save that erred leaves beside -/
def Extra (x : List UInt8) (e : List AF) : Prop := e = [] ∨ ∃ k, k ≤ (rec_ x).length ∧ e = [⟨sh sF, rec_ x, k⟩]
theorem last_no {fs : List AF} (h : OneF fs) {n : Nat} (hn : n < 3) {x : List UInt8} (hx : (rec_ x).length ≤ 10000) : ∃ e, Extra x e ∧ save (kS fs n) sF x = (kS (fs ++ e) 0, 9) := by
  rw [save_tail h, tailS]
  have hc : n = 0 ∨ n = 1 ∨ n = 2 := by omega
  rcases hc with rfl | rfl | rfl
  · refine ⟨[], .inl rfl, ?_⟩
    rw [d_app]
    show (if (9 : Nat) = 0 then _ else _) = _
    rw [if_neg (by decide), List.append_nil]
  · refine ⟨_, .inr ⟨0, Nat.zero_le _, rfl⟩, ?_⟩
    rw [l_app h (by omega) hx]
    show (if (0 : Nat) = 0 then _ else _) = _
    rw [if_pos rfl]
    show (if ((kS (fs ++ [⟨sh sF, rec_ x, 0⟩]) 0).sync [sh sF]).2 = 0 then _ else (kS (fs ++ [⟨sh sF, rec_ x, 0⟩]) 0).sync [sh sF]) = _
    rw [d_sync]
    show (if (9 : Nat) = 0 then _ else _) = _
    rw [if_neg (by decide)]
  · refine ⟨_, .inr ⟨_, Nat.le_refl _, rfl⟩, ?_⟩
    rw [l_app h (by omega) hx]
    show (if (0 : Nat) = 0 then _ else _) = _
    rw [if_pos rfl]
    show (if ((kS (fs ++ [⟨sh sF, rec_ x, 0⟩]) 1).sync [sh sF]).2 = 0 then ((kS (fs ++ [⟨sh sF, rec_ x, 0⟩]) 1).sync [sh sF]).1.rename (sh sF) sF else _) = _
    rw [l_sync h (by omega)]
    show (if (0 : Nat) = 0 then _ else _) = _
    rw [if_pos rfl]
    show (kS (fs ++ [⟨sh sF, rec_ x, (rec_ x).length⟩]) 0).rename (sh sF) sF = _
    rw [d_ren]
theorem oldF_one {l : List (List UInt8)} (h : wt l ≤ 5000) {k : Nat} (hk : k ≤ l.length) : OneF (oldF l k) := by
  unfold oldF
  split
  · exact .none
  · refine .some _ _ ?_ (Nat.le_refl _)
    have := wt_at (l := l) (k := k - 1) (by omega)
    rw [rec_length]; omega
theorem kS_ok {fs e : List AF} {x : List UInt8} (h : OneF fs) (he : Extra x e) (hx : (rec_ x).length ≤ 10000) {n : Nat} (hn : n ≤ 1000) : (kS (fs ++ e) n).Ok := by
  have hu : used (fs ++ e) ≤ 20000 := by
    rw [used_append]
    have h1 : used fs ≤ 10000 := by
      cases h with
      | none => exact Nat.zero_le _
      | some Q q hQ hq => show Q.length + 0 ≤ _; omega
    have h2 : used e ≤ 10000 := by
      rcases he with rfl | ⟨k, _, rfl⟩
      · exact Nat.zero_le _
      · show (rec_ x).length + 0 ≤ _; omega
    omega
  refine ⟨by show 1048576 ≤ 1073741824; omega, by show used (fs ++ e) ≤ 1048576; omega, by show n ≤ _; omega, fun f hf => ?_⟩
  rcases List.mem_append.1 hf with hf | hf
  · cases h with
    | none => cases hf
    | some Q q hQ hq =>
      have : f = ⟨sF, Q, q⟩ := by simpa using hf
      subst this; exact hq
  · rcases he with rfl | ⟨k, hk, rfl⟩
    · cases hf
    · have : f = ⟨sh sF, rec_ x, k⟩ := by simpa using hf
      subst this; exact hk
theorem kS_ok0 {fs : List AF} (h : OneF fs) {n : Nat} (hn : n ≤ 1000) : (kS fs n).Ok := by
  have := kS_ok (x := []) (e := []) h (.inl rfl) (by rw [rec_length]; decide) hn
  rwa [List.append_nil] at this
theorem getF_app {a b : List AF} {s : ByteArray} (hb : ∀ f ∈ b, f.name ≠ s) : getF (a ++ b) s = getF a s := by
  unfold getF
  rw [List.find?_append]
  cases h : a.find? fun f => decide (f.name = s) with
  | some f => rfl
  | none => rw [Option.none_or, List.find?_eq_none.2 fun f hf => by simpa using hb f hf]
theorem crash_end {l : List (List UInt8)} {k : Nat} {e : List AF} {x : List UInt8} (he : Extra x e) (n c : Nat) (hw : wt l ≤ 5000) (hk : k ≤ l.length) :
    Kp.load ((kS (oldF l k ++ e) n).crash c) sF = if k = 0 then ([], 7) else (l.getD (k - 1) [], 0) := by
  have hfs : ((kS (oldF l k ++ e) n).crash c).fs = (oldF l k).map (crashF c) ++ e.map (crashF c) := by
    show (oldF l k ++ e).map (crashF c) = _
    rw [List.map_append]
  have hg : getF ((kS (oldF l k ++ e) n).crash c).fs sF = getF ((oldF l k).map (crashF c)) sF := by
    rw [hfs]
    refine getF_app fun f hf => ?_
    obtain ⟨g, hg, rfl⟩ := List.mem_map.1 hf
    rcases he with rfl | ⟨k, _, rfl⟩
    · cases hg
    · have : g = ⟨sh sF, rec_ x, k⟩ := by simpa using hg
      subst this
      show sh sF ≠ sF
      decide
  by_cases h0 : k = 0
  · rw [if_pos h0, Kp.load, hg, oldF, if_pos h0]; rfl
  · have h := load_whole (room := 1048576) (s := sF) (p := l.getD (k - 1) []) (n := n) c (by have := wt_at (l := l) (k := k - 1) (by omega); omega)
    rw [if_neg h0]
    unfold Kp.load at h ⊢
    rw [hg, oldF, if_neg h0]
    exact h
/-- the loop -/
def LastRel (w : World) (b : Nat) (l : List (List UInt8)) (k : Nat) (wr : World) : Prop := ∃ n, n ≤ 1000 ∧ Hold w ((DiskA b (kS (oldF l k) n)).sep Asrt.emp) wr
set_option maxRecDepth 1000000 in
set_option maxHeartbeats 3200000 in
theorem walk {w : World} (v0 : Value) (l0 : List (List UInt8)) (h0 : SlRows w v0 l0) (_b0 : l0.length * 24 ≤ 140737488351232) (c0 : ∀ x ∈ l0, x.length ≤ 140737488351232) (a1 : Int) (_w1 : (Lit.int .i64 a1).wf = true) (a2 : Int) (w2 : (Lit.int .i64 a2).wf = true) :
    Calls Try.prog 3 #[v0, .int .i64 a1, .int .i64 a2] w fun e w' => e = .returned (.bool true) ∧ Below w.heap.size w w' := by
  have ha2 : a2 ≤ 9223372036854775807 := by
    have : -9223372036854775808 ≤ a2 ∧ a2 ≤ 9223372036854775807 := by simpa [Lit.wf, IntKind.min, IntKind.max, IntKind.signed, IntKind.bits] using w2
    exact this.2
  have hlen := h0.run_len Try.underlying22
  have H0 := Lib.hid h0
  have C0 := Lib.hid c0
  have hmx := h0.le
  have HA2 := Lib.hid ha2
  clear h0 c0 w2 ha2
  go_enter Try.func3, Try.ntmps3
  go_wp2
  go_loop [7, 8] (fun n i => ∃ k : Nat, k ≤ l0.length ∧ i = .int .i64 k ∧ n = .int .i64 (wt (l0.take k)) ∧ wt (l0.take k) ≤ 150000000000000) (fun _ i => l0.length - (intOf i).toNat)
  case atStart => exact ⟨0, Nat.zero_le _, rfl, rfl, by simp [wt]⟩
  case round =>
    obtain ⟨k, hk, rfl, rfl, hb⟩ := hrel
    obtain ⟨n, hn⟩ : ∃ n, n = wt (l0.take k) := ⟨_, rfl⟩
    rw [← hn] at hb ⊢
    have Hn := Lib.hid hn
    clear hn
    by_cases hbig : 5000 < n
    · have g1 : decide ((n : Int) ≤ 5000) = false := by simp; omega
      by_cases hlt : k < l0.length
      all_goals
        go_wp2_with (go_at_call 7; refine (known_any _).mono ?_; rintro e w2 ⟨rfl, hb2⟩; have Hb := Lib.hid hb2; clear hb2)
        go_ret
        exact ⟨rfl, Hb.out⟩
    · have g1 : decide ((n : Int) ≤ 5000) = true := by simp; omega
      have hn8 : n ≤ 5000 := by omega
      clear hbig
      by_cases hlt : k < l0.length
      · obtain ⟨A, u, l, hA, hblk, hc, Hl', hsl⟩ := (H0.out).at (P := Try.prog) Try.underlying22 Try.size23 k hlt
        have hl2 := hsl.run_len Try.underlying23
        have hle : l.length ≤ 140737488351232 := by rw [Hl'.out]; exact C0.out _ (by simp [List.getD, hlt])
        have hw := Lib.hid (wt_take hlt)
        rw [← Hn.out, ← Hl'.out] at hw
        clear hblk hsl Hl'
        go_wp2
        go_round
        case rel => exact ⟨k + 1, by omega, by go_num, by rw [hw.out]; go_num, by rw [hw.out]; omega⟩
        case measure => simp [intOf]; omega
      · have hwt : Hid (wt l0 ≤ 5000) := Lib.hid (by
          have := Hn.out
          rw [List.take_of_length_le (by omega)] at this; omega)
        by_cases ha : a1 < 0 ∨ 1000 < a1
        · rcases ha with ha | ha
          · go_wp2_with (go_at_call 7; refine (known_any _).mono ?_; rintro e w2 ⟨rfl, hb2⟩; have Hb := Lib.hid hb2; clear hb2)
            go_ret
            exact ⟨rfl, Hb.out⟩
          · have ha' : ¬ a1 < 0 := by omega
            go_wp2_with (go_at_call 7; refine (known_any _).mono ?_; rintro e w2 ⟨rfl, hb2⟩; have Hb := Lib.hid hb2; clear hb2)
            go_ret
            exact ⟨rfl, Hb.out⟩
        · obtain ⟨N, rfl⟩ : ∃ N : Nat, a1 = N := ⟨a1.toNat, by omega⟩
          have hN : N ≤ 1000 := by omega
          clear ha
          go_wp2_with (first
            | (go_at_call 8; refine (new_ok (Hold.start w) 1048576 (by omega)).mono ?_; rintro e w2 ⟨_, rfl, b, rfl, h2⟩; unfold ptr; have H2 := Lib.hid h2; clear h2)
            | (go_at_call 9; refine (fuse_any H2.out (N : Int)).mono ?_; rintro e w3 ⟨rfl, h3⟩; have H3 := Lib.hid h3; clear h3))
          have HR : Hid (LastRel w b l0 0 w3) := Lib.hid ⟨N, hN, by
            have h := H3.out
            rw [show decide (0 ≤ (N : Int)) = true from by simp, Int.toNat_natCast] at h
            exact h⟩
          clear H2 H3
          go_loopw [11, 12] (fun z i wr => ∃ (k : Nat) (q : Int), .int .i64 q = z ∧ k ≤ l0.length ∧ i = .int .i64 k ∧ Hid (q = (k : Int) - 1) ∧ LastRel w b l0 k wr) (fun _ i _ => l0.length - (intOf i).toNat)
          case atStart => exact ⟨0, -1, rfl, Nat.zero_le _, rfl, Lib.hid rfl, HR.out⟩
          case round =>
            clear HR
            obtain ⟨j, q, rfl, hj, rfl, hq, hR⟩ := hrel
            obtain ⟨m, hm, hH⟩ := hR
            have hone := oldF_one hwt.out hj
            by_cases hgo : j < l0.length ∧ 3 ≤ m
            · obtain ⟨hlj, hm3⟩ := hgo
              obtain ⟨A, u, l, hA, hblk, hc0, Hl', hsl⟩ := (H0.out).at (P := Try.prog) Try.underlying22 Try.size23 j hlj
              obtain ⟨ao, cap, rfl⟩ : ∃ ao cap, u = .slice ao l.length cap := by
                obtain ⟨_, ao, cap, e, _⟩ := hsl
                exact ⟨ao, cap, e⟩
              have hc := cell_old hH.old hc0
              have hx : l.length ≤ 5000 := by
                have := wt_at hlj
                have := hwt.out
                rw [Hl'.out]; omega
              have hsv := save_any (hH.keeps ((Below.refl wr.heap.size wr).alloc (Nat.le_refl _) (.cells #[.slice ao l.length cap] 23))) (kS_ok0 hone hm) sF (by decide) _ [l] (rowsLit1 23 (hsl.below' hH.old) rfl) (by simp) (by simp; omega)
              rw [show [l].flatten = l from by simp, last_ok hone hm3 (by rw [rec_length]; omega)] at hsv
              have HS := Lib.hid hsv
              have HW : Hid (whole l = oldF l0 (j + 1)) := Lib.hid (by rw [oldF, if_neg (by omega), show j + 1 - 1 = j from by omega, Hl'.out])
              clear hsv hsl Hl' hblk hone hH hc0
              go_wp2_with (go_at_call 10; refine HS.out.mono ?_; rintro e w4 ⟨rfl, h4⟩; rw [HW.out] at h4; have H4 : Hid (LastRel w b l0 (j + 1) w4) := Lib.hid ⟨_, by omega, h4⟩; clear h4)
              go_roundw
              case rel => exact ⟨j + 1, (j : Int), rfl, by omega, by go_num, Lib.hid (by omega), H4.out⟩
              case measure => simp [intOf]; omega
            · have hex : (j < l0.length ∧ m < 3) ∨ ¬ j < l0.length := by omega
              rcases hex with ⟨hlj, hm3⟩ | hlj
              case' inl =>
                obtain ⟨A, u, l, hA, hblk, hc0, Hl', hsl⟩ := (H0.out).at (P := Try.prog) Try.underlying22 Try.size23 j hlj
                obtain ⟨ao, cap, rfl⟩ : ∃ ao cap, u = .slice ao l.length cap := by
                  obtain ⟨_, ao, cap, e, _⟩ := hsl
                  exact ⟨ao, cap, e⟩
                have hc := cell_old hH.old hc0
                have hx : l.length ≤ 5000 := by
                  have := wt_at hlj
                  have := hwt.out
                  rw [Hl'.out]; omega
                have hsv := save_any (hH.keeps ((Below.refl wr.heap.size wr).alloc (Nat.le_refl _) (.cells #[.slice ao l.length cap] 23))) (kS_ok0 hone hm) sF (by decide) _ [l] (rowsLit1 23 (hsl.below' hH.old) rfl) (by simp) (by simp; omega)
                obtain ⟨e, he, hno⟩ := last_no hone hm3 (x := l) (by rw [rec_length]; omega)
                rw [show [l].flatten = l from by simp, hno] at hsv
                have HS := Lib.hid hsv
                have HE := Lib.hid he
                have Hx : Hid ((rec_ l).length ≤ 10000) := Lib.hid (by rw [rec_length]; omega)
                clear hsv hsl Hl' hblk hH hc0 hno he hm hgo hm3
                go_wp2_with (go_at_call 10; refine HS.out.mono ?_; rintro e4 w4 ⟨rfl, h4⟩; have H4 := Lib.hid h4; clear h4)
                obtain ⟨x, m', hx, hm', HX⟩ : ∃ x m', (Extra x e ∧ (rec_ x).length ≤ 10000) ∧ m' ≤ 1000 ∧ Hold w ((DiskA b (kS (oldF l0 j ++ e) m')).sep Asrt.emp) w4 := ⟨l, 0, ⟨HE.out, Hx.out⟩, by omega, H4.out⟩
                clear hc hA HS H4 HE Hx
              case' inr =>
                obtain ⟨e, x, m', hx, hm', HX⟩ : ∃ e x m', (Extra x e ∧ (rec_ x).length ≤ 10000) ∧ m' ≤ 1000 ∧ Hold w ((DiskA b (kS (oldF l0 j ++ e) m')).sep Asrt.emp) wr := ⟨[], [], m, ⟨.inl rfl, by rw [rec_length]; decide⟩, hm, by rw [List.append_nil]; exact hH⟩
                clear hH hm hgo
                go_wp2_with fail
              all_goals
                have hok := kS_ok hone hx.1 hx.2 hm'
                have hwf : Hid (∀ f ∈ (kS (oldF l0 j ++ e) m').fs, f.lasts ≤ f.data.length ∧ f.data.length ≤ 4611686018427387904) := Lib.hid fun f hf => ⟨hok.lasts f hf, Nat.le_trans (hok.len hf) (by omega)⟩
                have Hcl := Lib.hid (fun f (hf : f ∈ ((kS (oldF l0 j ++ e) m').crash a2.toNat).fs) => (crash_ok hok a2.toNat).len hf)
                have Hld := Lib.hid (crash_end hx.1 m' a2.toNat hwt.out hj)
                clear hone hok hx
                refine (crash_any HX a2 HA2.out hwf.out).mono ?_
                rintro e5 w5 ⟨rfl, H5⟩
                clear HX hwf
                go_wp2_with fail
                refine (load_any H5 sF Hcl.out).mono ?_
                rintro e6 w6 ⟨v6, rfl, ho, hb⟩
                rw [Hld.out] at ho ⊢
                have H6 := Lib.hid (H5.keeps hb).old
                clear H5 hb Hcl Hld
                by_cases hj0 : j = 0
                · rw [if_pos hj0] at ho ⊢
                  have hq0 : q < 0 := by have := hq.out; omega
                  clear ho
                  go_wp2_with (go_at_call 7; refine (known_any _).mono ?_; rintro e7 w7 ⟨rfl, hb7⟩; have Hb := Lib.hid (H6.out.trans (hb7.mono H6.out.size)); clear hb7)
                  go_ret
                  exact ⟨rfl, Hb.out⟩
                · rw [if_neg hj0] at ho ⊢
                  obtain ⟨i, rfl⟩ : ∃ i, j = i + 1 := ⟨j - 1, by omega⟩
                  obtain rfl : q = (i : Int) := by have := hq.out; omega
                  have hi : i < l0.length := by omega
                  obtain ⟨A2, u2, l2, hA2, hblk2, hc2, Hl2, hsl2⟩ := (H0.out).at (P := Try.prog) Try.underlying22 Try.size23 i hi
                  rw [show i + 1 - 1 = i from by omega, ← Hl2.out] at ho
                  have hc6 := cell_old H6.out hc2
                  have Hs6 := Lib.hid (Own.sl ho)
                  have Hs2 := Lib.hid (hsl2.below' H6.out)
                  clear ho hsl2 hblk2 hj0 Hl2 hc2
                  go_wp2_with (first
                    | (go_at_call 13; refine (same_any v6 u2 l2 l2 _ Hs6.out Hs2.out).mono ?_; rintro e7 w7 ⟨rfl, hb7⟩; rw [show decide (l2 = l2) = true from by simp]; have H7 := Lib.hid (H6.out.trans (hb7.mono H6.out.size)); clear hb7)
                    | (go_at_call 7; refine (known_any _).mono ?_; rintro e8 w8 ⟨rfl, hb8⟩; have Hb := Lib.hid (H7.out.trans (hb8.mono H7.out.size)); clear hb8))
                  go_ret
                  exact ⟨rfl, Hb.out⟩
end Go.Proofs.Ytfkingloapohjaa.keepLast
