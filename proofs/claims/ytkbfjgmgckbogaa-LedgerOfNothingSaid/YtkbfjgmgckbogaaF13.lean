/-
  Texts that the proofs of this seat stand on, one behind the other: contracts of functions and plain lemmas. Conditions: those that each theorem states.
-/
import Derived.Test.YtkbfjgmgckbogaaLedDrop
import Derived.Lib.SlBytesConst
/-
  'known' of the laws of chapter 5.
-/


namespace Go.Proofs.Ytkbfjgmgckbogaa.Ld
open Go.RowKit L Oct Dsk Fr Kp
def kd (fs : List AF) : D := ⟨65536, fs, false, 0⟩
def sAx : ByteArray := ⟨#[97]⟩
def sImgA : ByteArray := imgN sAx
def sLogA : ByteArray := logN sAx
theorem kd_inv0 : DInv (kd []) 0 := ⟨⟨by show 65536 ≤ _; omega, by show 0 ≤ _; omega, by show 0 ≤ _; omega, fun f hf => by cases hf⟩, Nat.le_refl _, (fun f hf => by cases hf), .nil⟩
theorem open_empty (pre : ByteArray) : openL (kd []) pre = (kd [], new pre, 0) := by
  have h1 : clears (kd []) pre = (kd [], 0) := rfl
  have h2 : image (kd []) (new pre) = (new pre, 0) := rfl
  have h3 : log (kd []) (new pre) = (kd [], new pre, 0) := rfl
  rw [openL, h1]
  show (if (image (kd []) (new pre)).2 = 0 then log (kd []) (image (kd []) (new pre)).1 else _) = _
  rw [h2]
  exact h3
theorem known_1 {X : List UInt8} (h : X.length ≤ 1000) : (kd []).append sLogA X = (kd [⟨sLogA, X, 0⟩], 0) := by
  rw [append_ok (d := kd []) (by rfl) (by show 0 + _ ≤ 65536; omega) (by show 0 < 4096; omega)]; rfl
theorem known_2 (X : List UInt8) : (kd [⟨sLogA, X, 0⟩]).sync [sLogA] = (kd [⟨sLogA, X, X.length⟩], 0) := by rfl
theorem known_3 {X Y : List UInt8} (hX : X.length ≤ 1000) (hY : (rec_ Y).length ≤ 1000) : save (kd [⟨sLogA, X, X.length⟩]) sImgA Y = (kd [⟨sLogA, X, X.length⟩, ⟨sImgA, rec_ Y, (rec_ Y).length⟩], 0) := by
  rw [save, if_pos (by decide)]
  show tailS _ _ _ = _
  unfold tailS
  obtain ⟨Z, hZ⟩ : ∃ Z, Z = rec_ Y := ⟨_, rfl⟩
  rw [← hZ] at hY ⊢
  have e1 : (kd [⟨sLogA, X, X.length⟩]).append (sh sImgA) Z = (kd [⟨sLogA, X, X.length⟩, ⟨sh sImgA, Z, 0⟩], 0) := by
    rw [append_ok (d := kd [⟨sLogA, X, X.length⟩]) (by rfl) (by show X.length + 0 + _ ≤ 65536; omega) (by show 1 < 4096; omega)]; rfl
  rw [e1]
  rfl
theorem known_4 (X Z : List UInt8) (n m : Nat) : removes (kd [⟨sLogA, X, n⟩, ⟨sImgA, Z, m⟩]) [sLogA] = (kd [⟨sImgA, Z, m⟩], 0) := by rfl
theorem known_5 {X Z : List UInt8} {m : Nat} (hX : X.length ≤ 1000) (hZ : Z.length ≤ 1000) : (kd [⟨sImgA, Z, m⟩]).append sLogA X = (kd [⟨sImgA, Z, m⟩, ⟨sLogA, X, 0⟩], 0) := by
  rw [append_ok (d := kd [⟨sImgA, Z, m⟩]) (by rfl) (by show Z.length + 0 + _ ≤ 65536; omega) (by show 1 < 4096; omega)]; rfl
theorem known_6 (X Z : List UInt8) (m : Nat) : (kd [⟨sImgA, Z, m⟩, ⟨sLogA, X, 0⟩]).sync [sLogA] = (kd [⟨sImgA, Z, m⟩, ⟨sLogA, X, X.length⟩], 0) := by rfl
theorem rl_len {n : Nat} {p : List UInt8} (hp : p.length ≤ 500) : (rec_ (recL n p)).length ≤ 1000 := by
  have := recL_length n p (by omega)
  rw [rec_length]; omega
theorem known_a : appendL (kd []) (new sAx) [120] = (kd [⟨sLogA, rec_ (recL 1 [120]), (rec_ (recL 1 [120])).length⟩], ⟨sAx, 0, [], [[120]], false⟩, 1, 0) := by
  have h1 : putE (kd []) (new sAx) [120] = (kd [⟨sLogA, rec_ (recL 1 [120]), (rec_ (recL 1 [120])).length⟩], 0) := by
    rw [putE]
    show (if ((kd []).append sLogA (rec_ (recL 1 [120]))).2 = 0 then ((kd []).append sLogA (rec_ (recL 1 [120]))).1.sync [sLogA] else (kd []).append sLogA (rec_ (recL 1 [120]))) = _
    rw [known_1 (rl_len (by decide)), if_pos rfl, known_2]
  rw [appendL, h1]
  rfl
theorem known_b : writeL (kd [⟨sLogA, rec_ (recL 1 [120]), (rec_ (recL 1 [120])).length⟩]) ⟨sAx, 0, [], [[120]], false⟩ 1 [121] = (kd [⟨sImgA, rec_ (recL 1 [121]), (rec_ (recL 1 [121])).length⟩], ⟨sAx, 1, [121], [], false⟩, 0) := by
  have h1 : putI (kd [⟨sLogA, rec_ (recL 1 [120]), (rec_ (recL 1 [120])).length⟩]) ⟨sAx, 0, [], [[120]], false⟩ 1 [121] = (kd [⟨sImgA, rec_ (recL 1 [121]), (rec_ (recL 1 [121])).length⟩], 0) := by
    rw [putI]
    show (if (save _ sImgA (recL 1 [121])).2 = 0 then removes (save _ sImgA (recL 1 [121])).1 [sLogA] else save _ sImgA (recL 1 [121])) = _
    rw [known_3 (rl_len (by decide)) (rl_len (by decide)), if_pos rfl, known_4]
  rw [writeL, h1]
  rfl
theorem known_c : appendL (kd [⟨sImgA, rec_ (recL 1 [121]), (rec_ (recL 1 [121])).length⟩]) ⟨sAx, 1, [121], [], false⟩ [122] =
    (kd [⟨sImgA, rec_ (recL 1 [121]), (rec_ (recL 1 [121])).length⟩, ⟨sLogA, rec_ (recL 2 [122]), (rec_ (recL 2 [122])).length⟩], ⟨sAx, 1, [121], [[122]], false⟩, 2, 0) := by
  have h1 : putE (kd [⟨sImgA, rec_ (recL 1 [121]), (rec_ (recL 1 [121])).length⟩]) ⟨sAx, 1, [121], [], false⟩ [122] = (kd [⟨sImgA, rec_ (recL 1 [121]), (rec_ (recL 1 [121])).length⟩, ⟨sLogA, rec_ (recL 2 [122]), (rec_ (recL 2 [122])).length⟩], 0) := by
    rw [putE]
    show (if ((kd _).append sLogA (rec_ (recL 2 [122]))).2 = 0 then ((kd _).append sLogA (rec_ (recL 2 [122]))).1.sync [sLogA] else (kd _).append sLogA (rec_ (recL 2 [122]))) = _
    rw [known_5 (rl_len (by decide)) (rl_len (by decide)), if_pos rfl, known_6]
  rw [appendL, h1]
  rfl
theorem const_in {W0 w : World} {A B R : Asrt} (h : Hold W0 (A.sep (B.sep R)) w) (cs : List Value) (e : TypeId) (k : Nat) (hm : cs.length ≤ maxLen) {b : Nat} (hb : w.heap.size = b) :
    Hold W0 (A.sep (B.sep ((Ro 1 (.slice (some ⟨b, 0, none⟩) cs.length cs.length) cs.length cs).sep R))) (w.alloc (.cells cs.toArray e (k, k + 1))) :=
  (h.addConst cs e k hm hb).up2.under fun _ h => up2_at h
theorem one_inv {s : ByteArray} {X : List UInt8} (h : X.length ≤ 1000) (hs : s.size ≤ 64 := by decide) : DInv (kd [⟨s, X, X.length⟩]) 1 :=
  ⟨⟨by show 65536 ≤ _; omega, by show X.length + 0 ≤ 65536; omega, by show 0 ≤ _; omega, fun f hf => by
    have : f = ⟨s, X, X.length⟩ := by simpa [kd] using hf
    subst this; exact Nat.le_refl _⟩, Nat.le_refl _, fun f hf => by
    have : f = ⟨s, X, X.length⟩ := by simpa [kd] using hf
    subst this; exact hs, by show (List.map AF.name [_]).Nodup; simp⟩
set_option maxRecDepth 100000 in
set_option maxHeartbeats 1600000 in
theorem known_any (w : World) : Calls Try.prog 8 #[] w fun e w' => e = .returned (.bool true) ∧ Below w.heap.size w w' := by
  have kc := fun (w : World) (C : Array Value) (n c : Nat) => Lib.run_convert_bytes_const (P := Try.prog) w 33 5 C n c Try.underlying33 Try.underlying5
  go_enter Try.func8, Try.ntmps8
  go_wp2_with fail
  refine (Dsk.new_ok (Hold.start w) 65536 (by omega)).mono ?_
  rintro e w1 ⟨_, rfl, b, rfl, h1⟩
  unfold ptr
  have H1 : Hid (Hold w ((DiskA b (kd [])).sep Asrt.emp) w1) := Lib.hid h1
  clear h1
  go_wp2_with fail
  refine (open_any H1.out kd_inv0 (by omega) (by show 65536 ≤ 1000000; omega) (pre := sAx) (by decide) (by decide)).mono ?_
  intro e w2 h2
  unfold RetOpen at h2
  rw [open_empty] at h2
  rcases h2 with ⟨_, lb, rfl, h2⟩ | ⟨h2, _⟩
  case inr => exact absurd rfl h2
  unfold ptr
  have H2 : Hid (Hold w ((LedgA lb b (new sAx)).sep ((DiskA b (kd [])).sep Asrt.emp)) w2) := Lib.hid h2
  clear h2 H1
  have H3 := Lib.hid (const_in H2.out (u8s [120]) 5 1 (by simp [u8s, maxLen]) rfl)
  clear H2
  go_wp2_with fail
  refine (appendL_any H3.out (Ld.new_ok (by decide)) (by show 0 + 1 ≤ _; omega) kd_inv0 (.slice (some ⟨w2.heap.size, 0, none⟩) 1 1) [120] Reads.ro (by decide)).mono ?_
  rintro e w3 ⟨rfl, h3⟩
  rw [known_a] at h3 ⊢
  have H4 := Lib.hid (const_in h3.up3.drop1 (u8s [121]) 5 1 (by simp [u8s, maxLen]) rfl)
  obtain ⟨X, hX⟩ : ∃ X, X = rec_ (recL 1 [120]) := ⟨_, rfl⟩
  have hXl : X.length ≤ 1000 := by rw [hX]; exact rl_len (by decide)
  have kb := known_b
  rw [← hX] at H4 kb
  have KB := Lib.hid kb
  clear h3 H3 hX kb
  go_wp2_with fail
  refine (writeL_any H4.out ⟨by decide, by decide, by decide, by decide, fun x hx => by cases List.mem_singleton.1 hx; decide⟩ (one_inv hXl) (by omega) 1 (by omega) (.slice (some ⟨w3.heap.size, 0, none⟩) 1 1) [121] Reads.ro (by decide)).mono ?_
  rintro e w4 ⟨rfl, h4⟩
  rw [KB.out] at h4 ⊢
  have H5 := Lib.hid (const_in h4.up3.drop1 (u8s [122]) 5 1 (by simp [u8s, maxLen]) rfl)
  obtain ⟨Y, hY⟩ : ∃ Y, Y = rec_ (recL 1 [121]) := ⟨_, rfl⟩
  have hYl : Y.length ≤ 1000 := by rw [hY]; exact rl_len (by decide)
  have kc2 := known_c
  rw [← hY] at H5 kc2
  have KC := Lib.hid kc2
  clear h4 H4 hY kc2
  go_wp2_with fail
  refine (appendL_any H5.out ⟨by decide, by decide, by decide, by decide, fun x hx => by cases hx⟩ (by show 0 + 1 ≤ _; omega) (one_inv hYl) (.slice (some ⟨w4.heap.size, 0, none⟩) 1 1) [122] Reads.ro (by decide)).mono ?_
  rintro e w5 ⟨rfl, h5⟩
  rw [KC.out] at h5 ⊢
  have H6 := Lib.hid h5.up3.drop1
  have HG : Hid (GOk ⟨sAx, 1, [121], [[122]], false⟩) := Lib.hid ⟨by decide, by decide, by decide, by decide, fun x hx => by cases List.mem_singleton.1 hx; decide⟩
  clear h5 H5
  go_wp2_with fail
  refine (base_any H6.out HG.out).mono ?_
  rintro e w6 ⟨v6, rfl, ho6, hb6⟩
  have H7 := Lib.hid (H6.out.keeps hb6)
  have hcv : (convert 33 9 v6).run Try.prog w6 = .ok (.string ⟨[121].toArray⟩) w6 := ho6.sl.run_string (l := [121]) (src := 33) (dst := 9) Try.underlying33 Try.underlying5 Try.underlying9
  clear ho6 hb6 H6
  go_wp2_with fail
  refine (last_any H7.out HG.out).mono ?_
  rintro e w8 ⟨rfl, n8, hw8⟩
  have HF : Hid (Below w.heap.size w w8) := Lib.hid (by
    have h := H7.out.old
    rw [hw8]
    exact h.trans (below_drewN (Below.refl _ _) _ |>.mono h.size))
  clear H7 hw8 hcv
  go_wp2
  go_ret
  exact ⟨rfl, HF.out⟩
end Go.Proofs.Ytkbfjgmgckbogaa.Ld

/-
  LedgerOfNothing: a nil Ledger has nothing; none is opened on no disk.
-/

namespace Go.Proofs.Ytkbfjgmgckbogaa.ledgerOfNothing
open Go.RowKit L Oct Dsk Fr Kp Ld
theorem append_nil (v : Value) (w : World) : Calls Try.prog 11 #[.pointer none, v] w fun e w' => e = .returned (.tuple #[.int .i64 0, .int .i64 1]) ∧ w = w' := by
  go_enter Try.func11, Try.ntmps11
  go_wp2
  go_ret2
  exact ⟨rfl, rfl⟩
theorem at_nil (i : Int) (w : World) : Calls Try.prog 17 #[.pointer none, .int .i64 i] w fun e w' => e = .returned (.tuple #[.slice none 0 0, .int .i64 7]) ∧ w = w' := by
  go_enter Try.func17, Try.ntmps17
  go_wp2
  go_ret2
  exact ⟨rfl, rfl⟩
theorem base_nil (w : World) : Calls Try.prog 18 #[.pointer none] w fun e w' => e = .returned (.tuple #[.int .i64 0, .slice none 0 0]) ∧ w = w' := by
  go_enter Try.func18, Try.ntmps18
  go_wp2
  go_ret2
  exact ⟨rfl, rfl⟩
theorem last_nil (w : World) : Calls Try.prog 14 #[.pointer none] w fun e w' => e = .returned (.int .i64 0) ∧ w = w' := by
  go_enter Try.func14, Try.ntmps14
  go_wp2
  go_ret
  exact ⟨rfl, rfl⟩
theorem write_nil (i : Int) (v : Value) (w : World) : Calls Try.prog 12 #[.pointer none, .int .i64 i, v] w fun e w' => e = .returned (.int .i64 1) ∧ w = w' := by
  go_enter Try.func12, Try.ntmps12
  go_wp2
  go_ret
  exact ⟨rfl, rfl⟩
theorem drop_nil (w : World) : Calls Try.prog 13 #[.pointer none] w fun e w' => e = .returned (.int .i64 1) ∧ w = w' := by
  go_enter Try.func13, Try.ntmps13
  go_wp2
  go_ret
  exact ⟨rfl, rfl⟩
theorem open_nil (s : ByteArray) (w : World) : Calls Try.prog 10 #[.pointer none, .string s] w fun e w' => e = .returned (.tuple #[.pointer none, .int .i64 1]) ∧ w = w' := by
  go_enter Try.func10, Try.ntmps10
  go_wp2
  go_ret2
  exact ⟨rfl, rfl⟩
set_option maxRecDepth 100000 in
set_option maxHeartbeats 1600000 in
theorem walk {w : World} (v0 : Value) (l0 : List UInt8) (h0 : Sl w 1 v0 l0.length (u8s l0)) (_b0 : l0.length ≤ 140737488351232) (a1 : Int) (_w1 : (Lit.int .i64 a1).wf = true) :
    Calls Try.prog 5 #[v0, .int .i64 a1] w fun e w' => e = .returned (.bool true) ∧ Below w.heap.size w w' := by
  have hl := h0.run_len Try.underlying33
  clear h0
  by_cases hbig : 2000 < l0.length
  · have g1 : decide ((2000 : Int) < (l0.length : Int)) = true := by simp; omega
    go_enter Try.func5, Try.ntmps5
    go_wp2
    go_ret
    exact ⟨rfl, Below.refl _ _⟩
  · have g1 : decide ((2000 : Int) < (l0.length : Int)) = false := by simp; omega
    go_enter Try.func5, Try.ntmps5
    go_wp2_with (first
      | (go_at_call 11; refine (append_nil _ _).mono ?_; rintro e w2 ⟨rfl, rfl⟩)
      | (go_at_call 17; refine (at_nil _ _).mono ?_; rintro e w2 ⟨rfl, rfl⟩)
      | (go_at_call 18; refine (base_nil _).mono ?_; rintro e w2 ⟨rfl, rfl⟩)
      | (go_at_call 14; refine (last_nil _).mono ?_; rintro e w2 ⟨rfl, rfl⟩)
      | (go_at_call 12; refine (write_nil _ _ _).mono ?_; rintro e w2 ⟨rfl, rfl⟩)
      | (go_at_call 13; refine (drop_nil _).mono ?_; rintro e w2 ⟨rfl, rfl⟩)
      | (go_at_call 10; refine (open_nil _ _).mono ?_; rintro e w2 ⟨rfl, rfl⟩)
      | (go_at_call 8; refine (known_any _).mono ?_; rintro e w2 ⟨rfl, hb⟩))
    go_ret
    exact ⟨rfl, hb⟩
end Go.Proofs.Ytkbfjgmgckbogaa.ledgerOfNothing
