/-
  DiskMany: several rows, several files at once are one behind the other.
-/
import Derived.Test.YtnaggipeliifgaaDiskLoop
import Derived.Test.YtnaggipeliifgaaDiskList
namespace Go.Proofs.Ytnaggipeliifgaa.Dsk
open Go.RowKit L Oct
theorem sync_lits {W0 w : World} {R : Asrt} {b bk : Nat} {d : D} (H : Hold W0 ((DiskA b d).sep R) w) (hbk : w.heap.size = bk) (hd : d.left ≤ 9223372036854775807) (names : List ByteArray) (hn : names.length ≤ 4096) :
    Calls Try.prog 13 #[ptr b, .slice (some ⟨bk, 0, none⟩) names.length names.length] (w.alloc (.cells (strs names).toArray 9)) (RetApp W0 R b (d.sync names)) := by
  subst hbk
  have hl : (strs names).length = names.length := by simp [strs]
  have H1 := (H.addLits (strs names) 9 (by rw [hl]; unfold maxLen; omega) rfl).up2
  rw [hl] at H1
  refine (sync_any H1 hd _ names (fun w' hw' => hw'.sl)).mono ?_
  rintro e' w' ⟨h1, h2⟩
  exact ⟨h1, h2.up2.drop1⟩
theorem remove_lits {W0 w : World} {R : Asrt} {b bk : Nat} {d : D} (H : Hold W0 ((DiskA b d).sep R) w) (hbk : w.heap.size = bk) (hd : d.left ≤ 9223372036854775807) (names : List ByteArray) (hn : names.length ≤ 4096) :
    Calls Try.prog 19 #[ptr b, .slice (some ⟨bk, 0, none⟩) names.length names.length] (w.alloc (.cells (strs names).toArray 9)) (RetApp W0 R b (d.remove names)) := by
  subst hbk
  have hl : (strs names).length = names.length := by simp [strs]
  have H1 := (H.addLits (strs names) 9 (by rw [hl]; unfold maxLen; omega) rfl).up2
  rw [hl] at H1
  refine (remove_any H1 hd _ names (fun w' hw' => hw'.sl)).mono ?_
  rintro e' w' ⟨h1, h2⟩
  exact ⟨h1, h2.up2.drop1⟩
end Go.Proofs.Ytnaggipeliifgaa.Dsk
namespace Go.Proofs.Ytnaggipeliifgaa.diskMany
open Go.RowKit L Oct Dsk
def kd (fs : List AF) : D := ⟨1048576, fs, false, 0⟩
def sX : ByteArray := ⟨#[120]⟩
def sY : ByteArray := ⟨#[121]⟩
def sZ : ByteArray := ⟨#[122]⟩
theorem ok1 {s : ByteArray} {x : List UInt8} {m : Nat} (h : x.length ≤ 8000) (hm : m ≤ x.length) : (kd [⟨s, x, m⟩]).Ok := by
  refine ⟨by show 1048576 ≤ 1073741824; omega, by show x.length + 0 ≤ 1048576; omega, by show 0 ≤ _; omega, fun f hf => ?_⟩
  have : f = ⟨s, x, m⟩ := by simpa [kd] using hf
  subst this; exact hm
theorem p1 {x : List UInt8} (h : x.length ≤ 8000) : (kd []).append sX x = (kd [⟨sX, x, 0⟩], 0) := by
  rw [append_ok (by rfl) (by show 0 + _ ≤ 1048576; omega) (by show 0 < 4096; omega)]; rfl
theorem p3 {x y : List UInt8} {m : Nat} (h : x.length + y.length ≤ 8000) : (kd [⟨sX, x, m⟩]).append sX y = (kd [⟨sX, x ++ y, m⟩], 0) := by
  rw [append_ok (by rfl) (by show x.length + 0 + _ ≤ 1048576; omega) (by show 1 < 4096; omega)]; rfl
theorem p4 {x : List UInt8} {m : Nat} (h : x.length ≤ 8000) : (kd [⟨sX, x, m⟩]).append sY [49, 50] = (kd [⟨sX, x, m⟩, ⟨sY, [49, 50], 0⟩], 0) := by
  rw [append_ok (by rfl) (by show x.length + 0 + 2 ≤ 1048576; omega) (by show 1 < 4096; omega)]; rfl
theorem q1 (x y : List UInt8) (m k : Nat) : (kd [⟨sX, x, m⟩, ⟨sY, y, k⟩]).sync [sX, sY] = (kd [⟨sX, x, x.length⟩, ⟨sY, y, y.length⟩], 0) := by rfl
theorem q2 (x y : List UInt8) (m k : Nat) : (kd [⟨sX, x, m⟩, ⟨sY, y, k⟩]).sync [sX] = (kd [⟨sX, x, x.length⟩, ⟨sY, y, k⟩], 0) := by rfl
theorem q3 (x y : List UInt8) (m k : Nat) : (kd [⟨sX, x, m⟩, ⟨sY, y, k⟩]).sync [sY] = (kd [⟨sX, x, m⟩, ⟨sY, y, y.length⟩], 0) := by rfl
theorem q4 (x y : List UInt8) (m k : Nat) : (kd [⟨sX, x, m⟩, ⟨sY, y, k⟩]).sync [sX, sZ, sY] = (kd [⟨sX, x, x.length⟩, ⟨sY, y, k⟩], 7) := by rfl
theorem q5 (d : D) : d.sync [] = (d, 0) := rfl
theorem q6 (x y : List UInt8) (m k : Nat) : (kd [⟨sX, x, m⟩, ⟨sY, y, k⟩]).remove [sX, sY] = (kd [], 0) := by rfl
theorem q7 : (kd []).remove [sX] = (kd [], 7) := by rfl
theorem q8 (x y : List UInt8) (m k n : Nat) (hx : x.length ≤ 8000) (hy : y.length ≤ 2) : ∃ T n1 T2 n2, (kd [⟨sX, x, m⟩, ⟨sY, y, k⟩]).crash n = kd [⟨sX, T, n1⟩, ⟨sY, T2, n2⟩] ∧ T.length ≤ 8000 ∧ T2.length ≤ 8000 :=
  ⟨_, _, _, _, rfl, Nat.le_trans (List.length_take_le' _ _) hx, Nat.le_trans (List.length_take_le' _ _) (show y.length ≤ 8000 by omega)⟩
theorem rows0 (W0 : World) (R : Asrt) : ReadsRows W0 R (.slice none 0 0) [] (u8ss []) := fun w _ => ⟨Sl.nil w 1, fun i hi => by simp [u8ss] at hi⟩
def ManyRel (w : World) (a b : Nat) (l : List (List UInt8)) (k : Nat) (wr : World) : Prop :=
  Hold w ((DiskA b (kd [⟨sX, (l.take k).flatten, 0⟩])).sep ((DiskA a (kd [⟨sX, l.flatten, 0⟩])).sep Asrt.emp)) wr
set_option maxRecDepth 1000000 in
set_option maxHeartbeats 3200000 in
theorem walk {w : World} (v0 : Value) (l0 : List (List UInt8)) (h0 : SlRows w v0 l0) (_b0 : l0.length * 24 ≤ 140737488351232) (c0 : ∀ x ∈ l0, x.length ≤ 140737488351232) (a1 : Bool) (a2 : Int) (w2 : (Lit.int .i64 a2).wf = true) :
    Calls Try.prog 6 #[v0, .bool a1, .int .i64 a2] w fun e w' => e = .returned (.bool true) ∧ Below w.heap.size w w' := by
  have ha2 : a2 ≤ 9223372036854775807 := by
    have : -9223372036854775808 ≤ a2 ∧ a2 ≤ 9223372036854775807 := by simpa [Lit.wf, IntKind.min, IntKind.max, IntKind.signed, IntKind.bits] using w2
    exact this.2
  have hlen := h0.run_len Try.underlying22
  have H0 := Lib.hid h0
  have C0 := Lib.hid c0
  have hmx := h0.le
  have HA2 := Lib.hid ha2
  have kc := fun (w : World) (C : Array Value) (n c : Nat) => Lib.run_convert_bytes_const (P := Try.prog) w 23 5 C n c Try.underlying23 Try.underlying5
  clear h0 c0 w2 ha2
  go_enter Try.func6, Try.ntmps6
  go_wp2
  go_loop [7, 8] (fun n i => ∃ k : Nat, k ≤ l0.length ∧ i = .int .i64 k ∧ n = .int .i64 (wt (l0.take k)) ∧ wt (l0.take k) ≤ 8000) (fun _ i => l0.length - (intOf i).toNat)
  case atStart => exact ⟨0, Nat.zero_le _, rfl, rfl, by simp [wt]⟩
  case round =>
    obtain ⟨k, hk, rfl, rfl, hb⟩ := hrel
    obtain ⟨n, hn⟩ : ∃ n, n = wt (l0.take k) := ⟨_, rfl⟩
    rw [← hn] at hb ⊢
    have Hn := Lib.hid hn
    clear hn
    by_cases hlt : k < l0.length
    · obtain ⟨A, u, l, hA, hblk, hc, Hl', hsl⟩ := (H0.out).at (P := Try.prog) Try.underlying22 Try.size23 k hlt
      have hl2 := hsl.run_len Try.underlying23
      have hle : l.length ≤ 140737488351232 := by rw [Hl'.out]; exact C0.out _ (by simp [List.getD, hlt])
      have hw := Lib.hid (wt_take hlt)
      rw [← Hn.out, ← Hl'.out] at hw
      clear hblk hsl Hl'
      by_cases hb1 : 8000 < l.length
      · have g1 : decide ((8000 : Int) < (l.length : Int)) = true := by simp; omega
        clear kc
        go_wp2
        go_ret
        exact ⟨rfl, Below.refl _ _⟩
      · have g1 : decide ((8000 : Int) < (l.length : Int)) = false := by simp; omega
        by_cases hb2 : 8000 < n + 1 + l.length
        · have g2 : decide ((8000 : Int) < (n : Int) + 1 + (l.length : Int)) = true := by simp; omega
          clear kc
          go_wp2
          go_ret
          exact ⟨rfl, Below.refl _ _⟩
        · have g2 : decide ((8000 : Int) < (n : Int) + 1 + (l.length : Int)) = false := by simp; omega
          clear kc
          go_wp2
          go_round
          case rel => exact ⟨k + 1, by omega, by go_num, by rw [hw.out]; go_num, by rw [hw.out]; omega⟩
          case measure => simp [intOf]; omega
    · have hwt : Hid (wt l0 ≤ 8000) := Lib.hid (by
        have := Hn.out
        rw [List.take_of_length_le (by omega)] at this; omega)
      have hfl : l0.flatten.length ≤ 8000 ∧ l0.length ≤ 8000 := by
        have := wt_flat l0
        have := hwt.out
        omega
      obtain ⟨vs, hvs⟩ := (H0.out).reads
      go_wp2_with fail
      refine (new_ok (Hold.start w) 1048576 (by omega)).mono ?_
      rintro e w1 ⟨_, rfl, a, rfl, H1⟩
      unfold ptr
      go_wp2_with fail
      refine (new_ok H1 1048576 (by omega)).mono ?_
      rintro e w2 ⟨_, rfl, b, rfl, H2⟩
      unfold ptr
      have hok0 : (kd []).Ok := ⟨by decide, by decide, by decide, fun f hf => by cases hf⟩
      clear H1
      go_wp2_with fail
      refine (append_any (d := kd []) H2.up2 hok0 sX v0 vs l0 (hvs _) (by omega) (by omega)).mono ?_
      rintro e w3 ⟨rfl, H3⟩
      rw [p1 hfl.1] at H3 ⊢
      clear H2 hvs
      go_wp2_with fail
      refine (append_any (d := kd []) H3.up2 hok0 sX (.slice none 0 0) [] [] (rows0 _ _) (by simp) (by simp)).mono ?_
      rintro e w4 ⟨rfl, H4⟩
      rw [p1 (by simp)] at H4 ⊢
      have HR : Hid (ManyRel w a b l0 0 w4) := Lib.hid H4
      clear H3 H4 hok0
      go_wp2
      go_loopw [13] (fun i wr => ∃ k : Nat, k ≤ l0.length ∧ i = .int .i64 k ∧ ManyRel w a b l0 k wr) (fun i _ => l0.length - (intOf i).toNat)
      case atStart => exact ⟨0, Nat.zero_le _, rfl, HR.out⟩
      case round =>
        clear HR
        obtain ⟨j, hj, rfl, hR⟩ := hrel
        by_cases hlj : j < l0.length
        · have HRd := Lib.hid hR
          clear hR
          obtain ⟨A, u, l, hA, hblk, hc0, Hl', hsl⟩ := (H0.out).at (P := Try.prog) Try.underlying22 Try.size23 j hlj
          obtain ⟨ao, cap, rfl⟩ : ∃ ao cap, u = .slice ao l.length cap := by
            obtain ⟨_, ao, cap, e, _⟩ := hsl
            exact ⟨ao, cap, e⟩
          have hcr := cell_old (Hold.old HRd.out) hc0
          have hfs := flat_snoc hlj
          have hf1 : (l0.take j).flatten.length + l.length ≤ 8000 := by
            have := flat_le l0 (j + 1)
            rw [hfs, List.length_append, ← Hl'.out] at this
            have := hwt.out
            omega
          have hcall := append_lit HRd.out (bk := wr.heap.size) rfl (ok1 (by omega) (Nat.zero_le _)) sX _ l (Reads.old hsl) (by omega)
          rw [p3 hf1, Hl'.out, ← hfs, ← Hl'.out] at hcall
          have HC := Lib.hid hcall
          clear hcall hsl Hl' HRd hf1 hfs hblk hc0
          go_wp2_with (go_at_call 12; go_loud (refine HC.out.mono ?_; rintro e w5 ⟨rfl, h5⟩); have H5 : Hid (ManyRel w a b l0 (j + 1) w5) := Lib.hid h5; clear h5)
          go_roundw
          case rel => exact ⟨j + 1, by omega, by go_num, H5.out⟩
          case measure => simp [intOf]; omega
        · obtain ⟨F, hF⟩ : ∃ F, F = l0.flatten := ⟨_, rfl⟩
          have H5 : Hold w ((DiskA a (kd [⟨sX, F, 0⟩])).sep ((DiskA b (kd [⟨sX, F, 0⟩])).sep Asrt.emp)) wr := by
            have := Hold.up2 hR
            rw [List.take_of_length_le (by omega), ← hF] at this
            exact this
          have hF8 : F.length ≤ 8000 := by rw [hF]; exact hfl.1
          clear hF hR H0 C0 hwt hfl
          go_wp2_with fail
          have h6 := (H5.addConst (u8s [49, 50]) 5 2 (by simp [u8s, maxLen]) rfl).up2
          refine (append_lit h6 (bk := wr.heap.size + 1) (by simp) (ok1 hF8 (Nat.zero_le _)) sY (.slice (some ⟨wr.heap.size, 0, none⟩) 2 2) [49, 50] Reads.ro (by decide)).mono ?_
          rintro e w6 ⟨rfl, h7⟩
          rw [p4 hF8] at h7 ⊢
          have H6 := h7.up2.drop1
          clear H5 h6 h7
          go_wp2_with fail
          have h6 := (H6.up2.addConst (u8s [49, 50]) 5 2 (by simp [u8s, maxLen]) rfl).up2
          refine (append_lit h6 (bk := w6.heap.size + 1) (by simp) (ok1 hF8 (Nat.zero_le _)) sY (.slice (some ⟨w6.heap.size, 0, none⟩) 2 2) [49, 50] Reads.ro (by decide)).mono ?_
          rintro e w7 ⟨rfl, h7⟩
          rw [p4 hF8] at h7 ⊢
          have H7 := h7.up2.drop1
          clear H6 h6 h7 kc
          rcases Bool.eq_false_or_eq_true a1 with rfl | rfl
          case' inl =>
            go_wp2_with fail
            refine (sync_lits H7.up2 rfl (show (0 : Nat) ≤ _ by omega) [sX, sY] (by decide)).mono ?_
            rintro e w8 ⟨rfl, H8⟩
            rw [q1] at H8 ⊢
            clear H7
            go_wp2_with fail
            refine (sync_lit H8.up2 rfl (show (0 : Nat) ≤ _ by omega) sX).mono ?_
            rintro e w9 ⟨rfl, H9⟩
            rw [q2] at H9 ⊢
            clear H8
            go_wp2_with fail
            refine (sync_lit H9 rfl (show (0 : Nat) ≤ _ by omega) sY).mono ?_
            rintro e w10 ⟨rfl, H10⟩
            rw [q3] at H10 ⊢
            obtain ⟨m, hm, ly, hly, HB⟩ : ∃ m, m ≤ F.length ∧ ∃ ly, ly ≤ 2 ∧ Hold w ((DiskA a (kd [⟨sX, F, m⟩, ⟨sY, [49, 50], ly⟩])).sep ((DiskA b (kd [⟨sX, F, m⟩, ⟨sY, [49, 50], ly⟩])).sep Asrt.emp)) w10 := ⟨_, Nat.le_refl _, _, by decide, H10.up2⟩
            clear H9 H10
          case' inr =>
            obtain ⟨m, hm, ly, hly, HB⟩ : ∃ m, m ≤ F.length ∧ ∃ ly, ly ≤ 2 ∧ Hold w ((DiskA a (kd [⟨sX, F, m⟩, ⟨sY, [49, 50], ly⟩])).sep ((DiskA b (kd [⟨sX, F, m⟩, ⟨sY, [49, 50], ly⟩])).sep Asrt.emp)) w7 := ⟨_, Nat.zero_le _, _, Nat.zero_le _, H7.up2⟩
            clear H7
          all_goals
            go_wp2_with fail
            refine (sync_lits HB rfl (show (0 : Nat) ≤ _ by omega) [sX, sZ, sY] (by decide)).mono ?_
            rintro e w11 ⟨rfl, H11⟩
            rw [q4] at H11 ⊢
            clear HB
            go_wp2_with fail
            refine (sync_lit H11.up2 rfl (show (0 : Nat) ≤ _ by omega) sX).mono ?_
            rintro e w12 ⟨rfl, H12⟩
            rw [q2] at H12 ⊢
            clear H11
            go_wp2_with fail
            refine (sync_any H12.up2 (show (0 : Nat) ≤ _ by omega) (.slice none 0 0) [] Reads.nil).mono ?_
            rintro e w13 ⟨rfl, H13⟩
            rw [q5] at H13 ⊢
            clear H12
            have hwf : Hid (∀ f ∈ (kd [⟨sX, F, F.length⟩, ⟨sY, [49, 50], ly⟩]).fs, f.lasts ≤ f.data.length ∧ f.data.length ≤ 4611686018427387904) := Lib.hid fun f hf => by
              have : f = ⟨sX, F, F.length⟩ ∨ f = ⟨sY, [49, 50], ly⟩ := by simpa [kd] using hf
              rcases this with rfl | rfl
              · exact ⟨Nat.le_refl _, by show F.length ≤ _; omega⟩
              · exact ⟨hly, by show 2 ≤ _; omega⟩
            obtain ⟨T, n1, T2, n2, hcr, hT, hT2⟩ := q8 F [49, 50] F.length ly a2.toNat hF8 (by decide)
            have Hcr := Lib.hid hcr
            clear hcr
            go_wp2_with fail
            refine (crash_any H13 a2 HA2.out hwf.out).mono ?_
            rintro e w14 ⟨rfl, H14⟩
            rw [Hcr.out] at H14
            clear H13
            go_wp2_with fail
            refine (crash_any H14.up2 a2 HA2.out hwf.out).mono ?_
            rintro e w15 ⟨rfl, H15⟩
            rw [Hcr.out] at H15
            clear H14
            go_wp2_with fail
            refine (read_yes H15.up2 sX (f := ⟨sX, T, n1⟩) rfl (show T.length ≤ _ by omega)).mono ?_
            rintro e w16 ⟨v16, rfl, ho, hb16⟩
            have H16 := H15.up2.addRow hb16 ho
            clear H15 ho hb16
            go_wp2_with fail
            refine (read_yes H16.up3 sX (f := ⟨sX, T, n1⟩) rfl (show T.length ≤ _ by omega)).mono ?_
            rintro e w17 ⟨v17, rfl, ho, hb17⟩
            have H17 := H16.up3.addRow hb17 ho
            clear H16 ho hb17
            go_wp2_with fail
            refine (read_yes H17.up4 sY (f := ⟨sY, T2, n2⟩) rfl (show T2.length ≤ _ by omega)).mono ?_
            rintro e w18 ⟨v18, rfl, ho, hb18⟩
            have H18 := H17.up4.addRow hb18 ho
            clear H17 ho hb18
            go_wp2_with fail
            refine (read_yes H18.up4 sY (f := ⟨sY, T2, n2⟩) rfl (show T2.length ≤ _ by omega)).mono ?_
            rintro e w19 ⟨v19, rfl, ho, hb19⟩
            have H19 := H18.up4.addRow hb19 ho
            clear H18 ho hb19
            go_wp2_with fail
            refine (same_any v16 v17 T T _ H19.up6.sl H19.up5.sl).mono ?_
            rintro e w20 ⟨rfl, hb20⟩
            rw [show decide (T = T) = true from by simp]
            have H20 := H19.keeps hb20
            clear H19 hb20
            go_wp2_with fail
            refine (same_any v18 v19 T2 T2 _ H20.up3.sl H20.sl).mono ?_
            rintro e w21 ⟨rfl, hb21⟩
            rw [show decide (T2 = T2) = true from by simp]
            have H21 := (H20.keeps hb21).up4
            clear H20 hb21
            go_wp2_with fail
            refine (remove_lits H21 rfl (show (0 : Nat) ≤ _ by omega) [sX, sY] (by decide)).mono ?_
            rintro e w22 ⟨rfl, H22⟩
            rw [q6] at H22 ⊢
            clear H21
            go_wp2_with fail
            refine (list_any H22 (by decide) (fun f hf => by cases hf)).mono ?_
            rintro e w23 ⟨v23, rfl, H23⟩
            have hz : ∀ (ty : TypeId) (w' : World), (Builtin.len_ #[38] ty #[v23]).run Try.prog w' = .ok (.int .i64 0) w' := H23.sl.run_len Try.underlying38
            clear H22
            go_wp2_with fail
            refine (remove_lit H23.drop1 rfl (show (0 : Nat) ≤ _ by omega) sX).mono ?_
            rintro e w24 ⟨rfl, H24⟩
            rw [q7] at H24 ⊢
            have H25 := H24.old
            clear H23 H24 hz
            go_wp2_with fail
            refine (known_any _).mono ?_
            rintro e w26 ⟨rfl, hb26⟩
            have Hf := Lib.hid (H25.trans (hb26.mono H25.size))
            clear hb26
            go_wp2
            go_ret
            exact ⟨rfl, Hf.out⟩
end Go.Proofs.Ytnaggipeliifgaa.diskMany
