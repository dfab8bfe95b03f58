/-
  KeepOfNothing: without a Disk, or a name, nothing is saved.
-/
import Derived.Test.YtfkingloapohjaaKeepKnown
import Derived.Laws.OwnMore
namespace Go.Proofs.Ytfkingloapohjaa.keepOfNothing
open Go.RowKit L Oct Dsk Fr Kp
theorem load_nil (w : World) (s : ByteArray) : Calls Try.prog 12 #[.pointer none, .string s] w fun e w' => e = .returned (.tuple #[.slice none 0 0, .int .i64 1]) ∧ w = w' := by
  go_enter Try.func12, Try.ntmps12
  go_wp2
  go_ret2
  exact ⟨rfl, rfl⟩
theorem clear_nil (w : World) (s : ByteArray) (v : Value) : Calls Try.prog 14 #[.pointer none, .string s, v] w fun e w' => e = .returned (.int .i64 1) ∧ w = w' := by
  go_enter Try.func14, Try.ntmps14
  go_wp2
  go_ret
  exact ⟨rfl, rfl⟩
theorem save_nil (w : World) (s : ByteArray) (v : Value) : Calls Try.prog 10 #[.pointer none, .string s, v] w fun e w' => e = .returned (.int .i64 1) ∧ w = w' := by
  go_enter Try.func10, Try.ntmps10
  go_wp2
  go_ret
  exact ⟨rfl, rfl⟩
def zeros (n : Nat) : ByteArray := ⟨(List.replicate n 0).toArray⟩
theorem zeros_size (n : Nat) : (zeros n).size = n := by
  show (List.replicate n (0 : UInt8)).toArray.size = n
  simp
def d0 : D := ⟨1048576, [], false, 0⟩
theorem sh_size (s : ByteArray) : (sh s).size = s.size + 1 := by
  unfold sh
  rw [ByteArray.size_append]; rfl
theorem fresh_yes {s : ByteArray} (h1 : 1 ≤ s.size) (h2 : s.size ≤ 60) {x : List UInt8} (hx : (rec_ x).length ≤ 10000) : (save d0 s x).2 = 0 := by
  have hs := sh_size s
  have ok1 : nameOk s = true := by unfold nameOk; simp; omega
  have ok2 : nameOk (sh s) = true := by unfold nameOk; simp; omega
  have hm : ∀ fs, (⟨1048576, fs, false, 0⟩ : D).may [sh s] = 0 := fun fs => by simp [D.may, ok2]
  have hm2 : ∀ fs, (⟨1048576, fs, false, 0⟩ : D).may [sh s, s] = 0 := fun fs => by simp [D.may, ok1, ok2]
  have e1 : d0.append (sh s) (rec_ x) = (⟨1048576, [⟨sh s, rec_ x, 0⟩], false, 0⟩, 0) := by
    rw [append_ok (d := d0) (hm []) (by show 0 + _ ≤ 1048576; omega) (by show 0 < 4096; omega)]; rfl
  have g1 : ∀ k, getF [⟨sh s, rec_ x, k⟩] (sh s) = some ⟨sh s, rec_ x, k⟩ := fun k => by simp [getF]
  rw [save, if_pos ⟨h1, h2⟩]
  show (tailS d0 s x).2 = 0
  rw [tailS, e1]
  show (if (0 : Nat) = 0 then _ else _ : D × Nat).2 = 0
  rw [if_pos rfl]
  have e2 : (⟨1048576, [⟨sh s, rec_ x, 0⟩], false, 0⟩ : D).sync [sh s] = (⟨1048576, [⟨sh s, rec_ x, (rec_ x).length⟩], false, 0⟩, 0) := by
    rw [D.sync, eachF, if_pos (hm _)]
    show (match getF [⟨sh s, rec_ x, 0⟩] (sh s) with | none => _ | some _ => _) = _
    rw [g1]
    show eachF syncF (({ room := 1048576, fs := syncF (sh s) [⟨sh s, rec_ x, 0⟩], fused := false, left := 0 } : D).done) [] = _
    simp [syncF, updF, D.done, eachF]
  rw [e2]
  show (if (0 : Nat) = 0 then _ else _ : D × Nat).2 = 0
  rw [if_pos rfl]
  show ((⟨1048576, [⟨sh s, rec_ x, (rec_ x).length⟩], false, 0⟩ : D).rename (sh s) s).2 = 0
  rw [D.rename, if_pos (hm2 _)]
  show (match getF [⟨sh s, rec_ x, (rec_ x).length⟩] (sh s) with | none => _ | some f => _ : D × Nat).2 = 0
  rw [g1]
theorem fresh_no {s : ByteArray} (h : ¬ (1 ≤ s.size ∧ s.size ≤ 60)) (x : List UInt8) : save d0 s x = (d0, 1) := by rw [save, if_neg h]
set_option maxRecDepth 1000000 in
set_option maxHeartbeats 3200000 in
theorem walk {w : World} (v0 : Value) (l0 : List UInt8) (h0 : Sl w 1 v0 l0.length (u8s l0)) (_b0 : l0.length ≤ 140737488351232) (a1 : Int) (_w1 : (Lit.int .i64 a1).wf = true) :
    Calls Try.prog 4 #[v0, .int .i64 a1] w fun e w' => e = .returned (.bool true) ∧ Below w.heap.size w w' := by
  obtain ⟨i5, hi, hz0, hz1, hz2⟩ := info_parts Try.info5
  have hlen := h0.run_len Try.underlying23
  obtain ⟨ao, cap, rfl⟩ : ∃ ao cap, v0 = .slice ao l0.length cap := by
    obtain ⟨_, ao, cap, e, _⟩ := h0
    exact ⟨ao, cap, e⟩
  have H0 := Lib.hid h0
  clear h0
  have hc : 5000 < l0.length ∨ (l0.length ≤ 5000 ∧ a1 < 0) ∨ (l0.length ≤ 5000 ∧ 100 < a1) ∨ (l0.length ≤ 5000 ∧ 0 ≤ a1 ∧ a1 ≤ 100) := by omega
  go_enter Try.func4, Try.ntmps4
  rcases hc with hc | ⟨hl, hc⟩ | ⟨hl, hc⟩ | ⟨hl, hc1, hc2⟩
  · have g1 : decide ((5000 : Int) < (l0.length : Int)) = true := by simp; omega
    go_wp2
    go_ret
    exact ⟨rfl, Below.refl _ _⟩
  · have g1 : decide ((5000 : Int) < (l0.length : Int)) = false := by simp; omega
    go_wp2
    go_ret
    exact ⟨rfl, Below.refl _ _⟩
  · have g1 : decide ((5000 : Int) < (l0.length : Int)) = false := by simp; omega
    have g2 : ¬ a1 < 0 := by omega
    go_wp2
    go_ret
    exact ⟨rfl, Below.refl _ _⟩
  · obtain ⟨N, rfl⟩ : ∃ N : Nat, a1 = N := ⟨a1.toNat, by omega⟩
    have g1 : decide ((5000 : Int) < (l0.length : Int)) = false := by simp; omega
    have hN : N ≤ 100 := by omega
    clear hc1 hc2
    have Hr : Hid ((rec_ l0).length ≤ 10000) := Lib.hid (by rw [rec_length]; omega)
    have hcase : N < 1 ∨ 60 < N ∨ (1 ≤ N ∧ N ≤ 60) := by omega
    go_wp2_with fail
    refine (new_ok (Hold.start w) 1048576 (by omega)).mono ?_
    rintro e w1 ⟨_, rfl, b, rfl, H1⟩
    unfold ptr
    go_wp2_with fail
    refine (load_nil w1 _).mono ?_
    rintro e w2 ⟨rfl, rfl⟩
    have hyes : 1 ≤ N ∧ N ≤ 60 → (save d0 (zeros N) l0).2 = 0 := fun h => fresh_yes (by rw [zeros_size]; exact h.1) (by rw [zeros_size]; exact h.2) Hr.out
    have hno : ¬ (1 ≤ N ∧ N ≤ 60) → (save d0 (zeros N) l0).2 = 1 := fun h => by rw [fresh_no (by rw [zeros_size]; exact h)]
    have HY := Lib.hid hyes
    have HNo := Lib.hid hno
    have H1h := Lib.hid H1
    clear H1 hyes hno
    rcases hcase with hcase | hcase | ⟨hcase, hcase2⟩
    case' inl =>
      have HI : Hid ((((save d0 (zeros N) l0).2 : Nat) : Int) = 1) := Lib.hid (by rw [HNo.out (by omega)]; rfl)
      have g3 : decide ((N : Int) < 1) = true := by simp; omega
    case' inr.inl =>
      have HI : Hid ((((save d0 (zeros N) l0).2 : Nat) : Int) = 1) := Lib.hid (by rw [HNo.out (by omega)]; rfl)
      have g3 : decide ((N : Int) < 1) = false := by simp; omega
      have g4 : decide ((60 : Int) < (N : Int)) = true := by simp; omega
    case' inr.inr =>
      have HI : Hid ((((save d0 (zeros N) l0).2 : Nat) : Int) = 0) := Lib.hid (by rw [HY.out ⟨hcase, hcase2⟩]; rfl)
      have g3 : decide ((N : Int) < 1) = false := by simp; omega
      have g4 : decide ((60 : Int) < (N : Int)) = false := by simp; omega
    all_goals
      clear HY HNo
      go_wp2_with fail
      refine (save_nil _ _ _).mono ?_
      rintro e w3 ⟨rfl, hw3⟩
      have H3 : Hid (Hold w ((DiskA b d0).sep Asrt.emp) w3) := Lib.hid (by rw [← hw3]; exact H1h.out.keeps ((Below.refl w1.heap.size w1).alloc (Nat.le_refl _) _))
      clear hw3 H1h
      go_wp2_with fail
      refine (clear_nil _ _ _).mono ?_
      rintro e w4 ⟨rfl, rfl⟩
      have hm0 : (0 : Int) ≤ (N : Int) := by omega
      obtain ⟨w5, hmk, hown, hgrow⟩ := run_make_full (P := Try.prog) w3 w3.heap.size 23 5 i5 (.int .u8 0) 1 Try.underlying23 hi hz0 hz1 .i64 .i64 N (by rw [hz2]; omega) (by unfold maxLen; omega) (Nat.le_refl _)
      rw [made_u8 N] at hown
      have hb5 : Below w3.heap.size w3 w5 := (Below.refl _ _).grown hgrow (Nat.le_refl _) (by simp)
      have hcv : (convert 23 9 (.slice (some ⟨w3.heap.size, 0, none⟩) N N)).run Try.prog w5 = .ok (.string (zeros N)) w5 := (Sl.of_own hown).run_string (l := List.replicate N 0) (src := 23) (dst := 9) Try.underlying23 Try.underlying5 Try.underlying9
      have H5 := H3.out.keeps hb5
      clear hgrow hown hb5
      go_wp2_with fail
      have hsv := save_any (H5.keeps ((Below.refl w5.heap.size w5).alloc (Nat.le_refl _) (.cells #[.slice ao l0.length cap] 23))) ⟨by decide, by decide, by decide, fun f hf => by cases hf⟩ (zeros N) (by rw [zeros_size]; omega) _ [l0] (rowsLit1 23 (H0.out.below' H5.old) rfl) (by simp) (by simp; omega)
      rw [show [l0].flatten = l0 from by simp] at hsv
      refine hsv.mono ?_
      rintro e w6 ⟨rfl, h6⟩
      rw [HI.out]
      have H6 := Lib.hid (Hold.old h6)
      clear hsv h6 H5 hcv H3
      go_wp2_with fail
      refine (known_any _).mono ?_
      rintro e w7 ⟨rfl, hb7⟩
      have Hb := Lib.hid (H6.out.trans (hb7.mono H6.out.size))
      clear hb7
      go_wp2
      go_ret
      exact ⟨rfl, Hb.out⟩
end Go.Proofs.Ytfkingloapohjaa.keepOfNothing
