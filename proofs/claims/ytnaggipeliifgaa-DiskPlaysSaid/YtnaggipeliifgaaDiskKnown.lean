/-
  'known' of the laws of chapter 3: it answers true.
-/
import Derived.Test.YtnaggipeliifgaaF7
import Derived.Test.YtnaggipeliifgaaDiskCrash
import Derived.Test.YtnaggipeliifgaaF5
import Derived.Lib.SlBytesConst
namespace Go.Proofs.Ytnaggipeliifgaa.Dsk
open Go.RowKit L Oct
def sA : ByteArray := ⟨#[97]⟩
def dk (l : List UInt8) (n : Nat) : D := ⟨100, [⟨sA, l, n⟩], false, 0⟩
theorem ok_dk (l : List UInt8) (n : Nat) (h : l.length ≤ 100) (hn : n ≤ l.length) : (dk l n).Ok :=
  ⟨by show 100 ≤ 1073741824; omega, by show l.length + 0 ≤ 100; omega, by show 0 ≤ _; omega, fun f hf => by
    have : f = ⟨sA, l, n⟩ := by simpa [dk] using hf
    subst this; exact hn⟩
set_option maxRecDepth 100000 in
set_option maxHeartbeats 1600000 in
theorem known_any (w : World) : Calls Try.prog 10 #[] w fun e w' => e = .returned (.bool true) ∧ Below w.heap.size w w' := by
  have kc := fun (w : World) (C : Array Value) (n c : Nat) => Lib.run_convert_bytes_const (P := Try.prog) w 23 5 C n c Try.underlying23 Try.underlying5
  have kc2 := fun (w : World) (o : Obj) (C : Array Value) (n c : Nat) => run_conv_const2 (P := Try.prog) w o 23 5 C n c Try.underlying23 Try.underlying5
  go_enter Try.func10, Try.ntmps10
  go_wp2_with fail
  refine (new_ok (Hold.start w) 100 (by omega)).mono ?_
  rintro e w1 ⟨_, rfl, b, rfl, h1⟩
  unfold ptr
  go_wp2_with fail
  have e1 : (⟨100, [], false, 0⟩ : D).append sA [49, 50, 51, 52, 53] = (dk [49, 50, 51, 52, 53] 0, 0) := by rfl
  have h2 := (h1.addConst (u8s [49, 50, 51, 52, 53]) 5 5 (by simp [u8s, maxLen]) rfl).up2
  refine (append_lit h2 (bk := w1.heap.size + 1) (by simp) ⟨by decide, by decide, by decide, fun f hf => by cases hf⟩ sA (.slice (some ⟨w1.heap.size, 0, none⟩) 5 5) [49, 50, 51, 52, 53] Reads.ro (by decide)).mono ?_
  rintro e w2 ⟨rfl, h3⟩
  rw [e1] at h3 ⊢
  have h4 := h3.up2.drop1
  clear h1 h2 h3
  go_wp2_with fail
  have e2 : (dk [49, 50, 51, 52, 53] 0).sync [sA] = (dk [49, 50, 51, 52, 53] 5, 0) := by rfl
  refine (sync_lit h4 (bk := w2.heap.size) rfl (by decide) sA).mono ?_
  rintro e w3 ⟨rfl, h5⟩
  rw [e2] at h5 ⊢
  clear h4
  go_wp2_with fail
  have e3 : (dk [49, 50, 51, 52, 53] 5).append sA [54, 55, 56] = (dk [49, 50, 51, 52, 53, 54, 55, 56] 5, 0) := by rfl
  have h6 := (h5.addConst (u8s [54, 55, 56]) 5 3 (by simp [u8s, maxLen]) rfl).up2
  refine (append_lit h6 (bk := w3.heap.size + 1) (by simp) (ok_dk _ _ (by decide) (by decide)) sA (.slice (some ⟨w3.heap.size, 0, none⟩) 3 3) [54, 55, 56] Reads.ro (by decide)).mono ?_
  rintro e w4 ⟨rfl, h7⟩
  rw [e3] at h7 ⊢
  have h8 := h7.up2.drop1
  clear h5 h6 h7
  go_wp2_with fail
  have e4 : (dk [49, 50, 51, 52, 53, 54, 55, 56] 5).crash 1 = dk [49, 50, 51, 52, 53, 54] 6 := by rfl
  refine (crash_any h8 1 (by decide) (fun f hf => by
    have : f = ⟨sA, [49, 50, 51, 52, 53, 54, 55, 56], 5⟩ := by simpa [dk] using hf
    subst this; decide)).mono ?_
  rintro e w5 ⟨rfl, h9⟩
  rw [show (1 : Int).toNat = 1 from rfl, e4] at h9
  clear h8
  go_wp2_with fail
  refine (read_yes h9 sA (f := ⟨sA, [49, 50, 51, 52, 53, 54], 6⟩) rfl (by decide)).mono ?_
  rintro e w6 ⟨v, rfl, hown, hb⟩
  have h10 := (h9.keeps hb).old
  clear h9
  go_wp2_with fail
  have hc := ((Hold.start w6).addConst (u8s [49, 50, 51, 52, 53, 54]) 5 6 (by simp [u8s, maxLen]) rfl)
  refine (same_any v _ [49, 50, 51, 52, 53, 54] [49, 50, 51, 52, 53, 54] _ ((Own.sl hown).below' hc.old) hc.ro).mono ?_
  rintro e w7 ⟨rfl, hb7⟩
  have h11 : Hid (Below w.heap.size w w7) := Lib.hid ((h10.trans (hc.old.mono h10.size)).trans (hb7.mono (h10.trans (hc.old.mono h10.size)).size))
  clear hc hown hb h10 hb7 e1 e2 e3 e4
  go_wp2
  go_ret
  exact ⟨rfl, h11.out⟩
end Go.Proofs.Ytnaggipeliifgaa.Dsk
