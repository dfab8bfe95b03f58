/-
  DiskNames: a file that gets another name has its bytes, as much of which lasts; what had that name is gone.
-/
import Derived.Test.YtnaggipeliifgaaDiskLoop
import Derived.Test.YtnaggipeliifgaaDiskRename
import Derived.Test.YtnaggipeliifgaaDiskList
import Derived.Test.YtnaggipeliifgaaTexts
namespace Go.Proofs.Ytnaggipeliifgaa.diskNames
open Go.RowKit L Oct Dsk
def kd (fs : List AF) : D := ⟨1048576, fs, false, 0⟩
def sX : ByteArray := ⟨#[120]⟩
def sY : ByteArray := ⟨#[121]⟩
def sZ : ByteArray := ⟨#[122]⟩
theorem ok1 {s : ByteArray} {x : List UInt8} {m : Nat} (h : x.length ≤ 8000) (hm : m ≤ x.length) : (kd [⟨s, x, m⟩]).Ok := by
  refine ⟨by show 1048576 ≤ 1073741824; omega, by show x.length + 0 ≤ 1048576; omega, by show 0 ≤ _; omega, fun f hf => ?_⟩
  have : f = ⟨s, x, m⟩ := by simpa [kd] using hf
  subst this; exact hm
theorem p1 {x : List UInt8} (h : x.length ≤ 8000) : (kd []).append sX x = (kd [⟨sX, x, 0⟩], 0) := by
  rw [append_ok (by rfl) (by show 0 + _ ≤ 1048576; omega) (by show 0 < 4096; omega)]; rfl
theorem p2 (x : List UInt8) (m : Nat) : (kd [⟨sX, x, m⟩]).sync [sX] = (kd [⟨sX, x, x.length⟩], 0) := by rfl
theorem p3 {x y : List UInt8} {m : Nat} (h : x.length + y.length ≤ 8000) : (kd [⟨sX, x, m⟩]).append sX y = (kd [⟨sX, x ++ y, m⟩], 0) := by
  rw [append_ok (by rfl) (by show x.length + 0 + _ ≤ 1048576; omega) (by show 1 < 4096; omega)]; rfl
theorem p4 {x y : List UInt8} {m : Nat} (h : x.length + y.length ≤ 8000) : (kd [⟨sX, x, m⟩]).append sY y = (kd [⟨sX, x, m⟩, ⟨sY, y, 0⟩], 0) := by
  rw [append_ok (by rfl) (by show x.length + 0 + _ ≤ 1048576; omega) (by show 1 < 4096; omega)]; rfl
theorem p5 (x y : List UInt8) (m k : Nat) : (kd [⟨sX, x, m⟩, ⟨sY, y, k⟩]).sync [sX] = (kd [⟨sX, x, x.length⟩, ⟨sY, y, k⟩], 0) := by rfl
theorem p6 (x y : List UInt8) (m k : Nat) : (kd [⟨sX, x, m⟩, ⟨sY, y, k⟩]).rename sX sY = (kd [⟨sY, x, m⟩], 0) := by rfl
theorem p7 (x : List UInt8) (m : Nat) : (kd [⟨sY, x, m⟩]).rename sX sZ = (kd [⟨sY, x, m⟩], 7) := by rfl
theorem p8 (x : List UInt8) (m : Nat) : (kd [⟨sY, x, m⟩]).crash 0 = kd [⟨sY, x.take m, m⟩] := by
  show kd [crashF 0 ⟨sY, x, m⟩] = _
  simp [crashF, stays]
theorem p9 (x : List UInt8) (m : Nat) : sortN ((kd [⟨sY, x, m⟩]).fs.map AF.name) = [sY] := List.perm_singleton.1 (sortN_perm [sY])
set_option maxRecDepth 1000000 in
set_option maxHeartbeats 3200000 in
theorem walk {w : World} (v0 : Value) (l0 : List UInt8) (h0 : Sl w 1 v0 l0.length (u8s l0)) (_b0 : l0.length ≤ 140737488351232) (v1 : Value) (l1 : List UInt8) (h1 : Sl w 1 v1 l1.length (u8s l1)) (_b1 : l1.length ≤ 140737488351232) (v2 : Value) (l2 : List UInt8) (h2 : Sl w 1 v2 l2.length (u8s l2)) (_b2 : l2.length ≤ 140737488351232) (a3 : Bool) :
    Calls Try.prog 7 #[v0, v1, v2, .bool a3] w fun e w' => e = .returned (.bool true) ∧ Below w.heap.size w w' := by
  have hl0 := h0.run_len Try.underlying23
  have hl1 := h1.run_len Try.underlying23
  have hl2 := h2.run_len Try.underlying23
  have shape : ∀ {v : Value} {l : List UInt8}, Sl w 1 v l.length (u8s l) → ∃ ao cap, v = .slice ao l.length cap := by
    rintro v l ⟨_, ao, cap, e, _⟩
    exact ⟨ao, cap, e⟩
  obtain ⟨ao0, cap0, rfl⟩ := shape h0
  obtain ⟨ao1, cap1, rfl⟩ := shape h1
  obtain ⟨ao2, cap2, rfl⟩ := shape h2
  clear shape
  have S0 := Lib.hid h0
  have S1 := Lib.hid h1
  have S2 := Lib.hid h2
  clear h0 h1 h2
  by_cases hbig : 8000 < l0.length + l1.length + l2.length
  · have g1 : decide ((8000 : Int) < (l0.length : Int) + (l1.length : Int) + (l2.length : Int)) = true := by simp; omega
    go_enter Try.func7, Try.ntmps7
    go_wp2
    go_ret
    exact ⟨rfl, Below.refl _ _⟩
  · have g1 : decide ((8000 : Int) < (l0.length : Int) + (l1.length : Int) + (l2.length : Int)) = false := by simp; omega
    go_enter Try.func7, Try.ntmps7
    go_wp2_with fail
    refine (new_ok (Hold.start w) 1048576 (by omega)).mono ?_
    rintro e w1 ⟨_, rfl, b, rfl, H1⟩
    unfold ptr
    go_wp2_with fail
    refine (append_lit (d := kd []) H1 (bk := w1.heap.size) rfl ⟨by decide, by decide, by decide, fun f hf => by cases hf⟩ sX _ l0 (Reads.old S0.out) (by omega)).mono ?_
    rintro e w2 ⟨rfl, H2⟩
    rw [p1 (by omega)] at H2 ⊢
    clear H1
    go_wp2_with fail
    refine (sync_lit H2 (bk := w2.heap.size) rfl (show (0 : Nat) ≤ _ by omega) sX).mono ?_
    rintro e w3 ⟨rfl, H3⟩
    rw [p2] at H3 ⊢
    clear H2
    go_wp2_with fail
    refine (append_lit H3 (bk := w3.heap.size) rfl (ok1 (by omega) (Nat.le_refl _)) sX _ l1 (Reads.old S1.out) (by omega)).mono ?_
    rintro e w4 ⟨rfl, H4⟩
    rw [p3 (by omega)] at H4 ⊢
    clear H3
    obtain ⟨X, hX⟩ : ∃ X, X = l0 ++ l1 := ⟨_, rfl⟩
    have hXl : X.length = l0.length + l1.length := by rw [hX, List.length_append]
    rw [← hX] at H4
    have HX := Lib.hid hX
    clear hX
    go_wp2_with fail
    refine (append_lit H4 (bk := w4.heap.size) rfl (ok1 (by omega) (by omega)) sY _ l2 (Reads.old S2.out) (by omega)).mono ?_
    rintro e w5 ⟨rfl, H5⟩
    rw [p4 (by omega)] at H5 ⊢
    clear H4
    have HX8 : Hid (X.length ≤ 8000) := Lib.hid (by omega)
    have HT : Hid (l0.length ≤ X.length ∧ X.take l0.length = l0 ∧ X.take X.length = X) := Lib.hid ⟨by omega, by rw [HX.out]; simp, by simp⟩
    clear hXl
    cases a3 with
    | false =>
      obtain ⟨m, hm⟩ : ∃ m, m = l0.length := ⟨_, rfl⟩
      rw [← hm] at H5
      have HM : Hid (m ≤ X.length ∧ X.take m = l0) := Lib.hid ⟨by rw [hm]; exact HT.out.1, by rw [hm]; exact HT.out.2.1⟩
      clear hm HT
      go_wp2_with fail
      refine (rename_any H5 (show (0 : Nat) ≤ _ by omega) sX sY).mono ?_
      rintro e w6 ⟨rfl, H6⟩
      rw [p6] at H6 ⊢
      clear H5
      go_wp2_with fail
      refine (list_any H6 (by show 1 ≤ 4096; omega) (fun f hf => by
        have : f = ⟨sY, X, m⟩ := by simpa [kd] using hf
        subst this; show sY.size ≤ _; decide)).mono ?_
      rintro e w7 ⟨v7, rfl, H7⟩
      rw [p9] at H7
      clear H6
      have H8 := H7.keeps ((Below.refl w7.heap.size w7).alloc (Nat.le_refl _) (.cells #[.string sY] 9))
      go_wp2_with fail
      refine (texts_any v7 _ [sY] [sY] _ H8.sl (sl_built w7 [.string sY] 9 (by unfold maxLen; simp))).mono ?_
      rintro e w8 ⟨rfl, hb8⟩
      rw [show decide ([sY] = [sY]) = true from by simp]
      have H9 := (H8.keeps hb8).drop1
      clear H7 H8 hb8
      go_wp2_with fail
      refine (rename_any H9 (show (0 : Nat) ≤ _ by omega) sX sZ).mono ?_
      rintro e w9 ⟨rfl, H10⟩
      rw [p7] at H10 ⊢
      clear H9
      go_wp2_with fail
      refine (crash_any H10 0 (by omega) (fun f hf => by
        have : f = ⟨sY, X, m⟩ := by simpa [kd] using hf
        subst this; exact ⟨HM.out.1, by have := HX8.out; show X.length ≤ _; omega⟩)).mono ?_
      rintro e w10 ⟨rfl, H11⟩
      rw [show (0 : Int).toNat = 0 from rfl, p8, HM.out.2] at H11
      clear H10
      go_wp2_with fail
      refine (read_yes H11 sY (f := ⟨sY, l0, m⟩) rfl (show l0.length ≤ _ by omega)).mono ?_
      rintro e w11 ⟨v11, rfl, ho, hb11⟩
      have H12 := (H11.addRow hb11 ho).addEmpty 5
      clear H11 ho hb11
      go_wp2_with (at_builtin; refine wpList_app (sx := .tmp 89) el8 H12 rfl _ rfl rfl rfl (S0.out.below' H12.old) (u8s_one _) (by omega) (by omega) ?_; intro v13 ys w13 hys H13; rw [hys.out, List.nil_append, Nat.zero_add] at H13; clear H12 hys)
      refine (same_any v11 v13 l0 l0 _ H13.up2.sl H13.sl).mono ?_
      rintro e w14 ⟨rfl, hb14⟩
      rw [show decide (l0 = l0) = true from by simp]
      have H14 := (H13.keeps hb14).old
      clear H13 hb14
      go_wp2_with fail
      refine (known_any _).mono ?_
      rintro e w15 ⟨rfl, hb15⟩
      have Hf := Lib.hid (H14.trans (hb15.mono H14.size))
      clear hb15
      go_wp2
      go_ret
      exact ⟨rfl, Hf.out⟩
    | true =>
      go_wp2_with fail
      refine (sync_lit H5 (bk := w5.heap.size) rfl (show (0 : Nat) ≤ _ by omega) sX).mono ?_
      rintro e w5a ⟨rfl, H5a⟩
      rw [p5] at H5a ⊢
      clear H5
      obtain ⟨m, hm⟩ : ∃ m, m = X.length := ⟨_, rfl⟩
      rw [← hm] at H5a
      have HM : Hid (m ≤ X.length ∧ X.take m = X) := Lib.hid ⟨by rw [hm]; exact Nat.le_refl _, by rw [hm]; exact HT.out.2.2⟩
      clear hm HT
      go_wp2_with fail
      refine (rename_any H5a (show (0 : Nat) ≤ _ by omega) sX sY).mono ?_
      rintro e w6 ⟨rfl, H6⟩
      rw [p6] at H6 ⊢
      clear H5a
      go_wp2_with fail
      refine (list_any H6 (by show 1 ≤ 4096; omega) (fun f hf => by
        have : f = ⟨sY, X, m⟩ := by simpa [kd] using hf
        subst this; show sY.size ≤ _; decide)).mono ?_
      rintro e w7 ⟨v7, rfl, H7⟩
      rw [p9] at H7
      clear H6
      have H8 := H7.keeps ((Below.refl w7.heap.size w7).alloc (Nat.le_refl _) (.cells #[.string sY] 9))
      go_wp2_with fail
      refine (texts_any v7 _ [sY] [sY] _ H8.sl (sl_built w7 [.string sY] 9 (by unfold maxLen; simp))).mono ?_
      rintro e w8 ⟨rfl, hb8⟩
      rw [show decide ([sY] = [sY]) = true from by simp]
      have H9 := (H8.keeps hb8).drop1
      clear H7 H8 hb8
      go_wp2_with fail
      refine (rename_any H9 (show (0 : Nat) ≤ _ by omega) sX sZ).mono ?_
      rintro e w9 ⟨rfl, H10⟩
      rw [p7] at H10 ⊢
      clear H9
      go_wp2_with fail
      refine (crash_any H10 0 (by omega) (fun f hf => by
        have : f = ⟨sY, X, m⟩ := by simpa [kd] using hf
        subst this; exact ⟨HM.out.1, by have := HX8.out; show X.length ≤ _; omega⟩)).mono ?_
      rintro e w10 ⟨rfl, H11⟩
      rw [show (0 : Int).toNat = 0 from rfl, p8, HM.out.2] at H11
      clear H10
      go_wp2_with fail
      refine (read_yes H11 sY (f := ⟨sY, X, m⟩) rfl (show X.length ≤ _ by have := HX8.out; omega)).mono ?_
      rintro e w11 ⟨v11, rfl, ho, hb11⟩
      have H12 := (H11.addRow hb11 ho).addEmpty 5
      clear H11 ho hb11
      go_wp2_with (first
        | (at_builtin; refine wpList_app (sx := .tmp 89) el8 H12 rfl _ rfl rfl rfl (S0.out.below' H12.old) (u8s_one _) (by omega) (by omega) ?_; intro v13 ys w13 hys H13; rw [hys.out, List.nil_append, Nat.zero_add] at H13; clear H12 hys)
        | (at_builtin; refine wpList_app (sx := .tmp 93) el8 H13 rfl _ rfl rfl rfl (S1.out.below' H13.old) (u8s_one _) (by omega) (by omega) ?_; intro v14 ys w14 hys H14; rw [hys.out, ← u8s_append, ← List.length_append, ← HX.out] at H14; clear H13 hys))
      refine (same_any v11 v14 X X _ H14.up2.sl H14.sl).mono ?_
      rintro e w15 ⟨rfl, hb15⟩
      rw [show decide (X = X) = true from by simp]
      have H15 := (H14.keeps hb15).old
      clear H14 hb15
      go_wp2_with fail
      refine (known_any _).mono ?_
      rintro e w16 ⟨rfl, hb16⟩
      have Hf := Lib.hid (H15.trans (hb16.mono H15.size))
      clear hb16
      go_wp2
      go_ret
      exact ⟨rfl, Hf.out⟩
end Go.Proofs.Ytnaggipeliifgaa.diskNames
