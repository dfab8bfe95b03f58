/-
  'known' of the laws of chapter 1: it answers true.
-/
import Derived.Test.YtmdkgggbibdkmaaOctetWr
import Derived.Test.YtmdkgggbibdkmaaOctetSum
import Derived.Test.YtmdkgggbibdkmaaSame
import Derived.Lib.SlBytesConst
namespace Go.Proofs.Ytmdkgggbibdkmaa.Oct
open Go.RowKit L
theorem encs_known : encs [1, 300] = [1, 172, 2] := by
  have h1 : enc (clamp 1) = [1] := by rw [show clamp 1 = 1 from by decide, enc_lt (by omega)]; rfl
  have h2 : enc (clamp 300) = [172, 2] := by rw [show clamp 300 = 300 from by decide, enc_ge (by omega), enc_lt (by omega)]; rfl
  show enc (clamp 1) ++ (enc (clamp 300) ++ []) = _
  rw [h1, h2]; rfl
theorem rows_known : rows [[97]] = [1, 97] := by
  show (enc 1 ++ [97]) ++ [] = _
  rw [enc_lt (by omega)]; rfl
set_option maxRecDepth 100000 in
set_option maxHeartbeats 800000 in
theorem known_any (w : World) : Calls Try.prog 11 #[] w fun e w' => e = .returned (.bool true) ∧ Below w.heap.size w w' := by
  have kc := fun (w : World) (C : Array Value) (n c : Nat) => Lib.run_convert_bytes_const (P := Try.prog) w 23 5 C n c Try.underlying23 Try.underlying5
  have kc2 := fun (w : World) (o : Obj) (C : Array Value) (n c : Nat) => run_conv_const2 (P := Try.prog) w o 23 5 C n c Try.underlying23 Try.underlying5
  go_enter Try.func11, Try.ntmps11
  go_wp2_with fail
  have h1 := ((addWr (Hold.start w) rfl).addLits (ints [1, 300]) 3 (by simp [ints, maxLen]) (b := w.heap.size + 1) (by simp)).up2
  refine (nums_any h1 _ [1, 300] Reads.row (by simp) (by simp)).mono ?_
  rintro e w1 ⟨rfl, h2⟩
  have h3 := h2.up2.drop1
  rw [encs_known, List.nil_append] at h3
  clear h1 h2
  go_wp2_with fail
  have h4 := ((h3.addConst (u8s [97]) 5 1 (by simp [u8s, maxLen]) rfl).addLits [.slice (some ⟨w1.heap.size, 0, none⟩) 1 1] 23 (by simp [maxLen]) (b := w1.heap.size + 1) (by simp)).up3
  refine (wbytes_any h4 _ _ [[97]] (readsRows_one Reads.ro) (by rw [rows_known]; decide)).mono ?_
  rintro e w2 ⟨rfl, h5⟩
  have h6 := h5.up2.drop1.up2.drop1
  rw [rows_known] at h6
  clear h4 h5
  go_wp2_with fail
  refine (out_any h6 (by simp)).mono ?_
  rintro e w3 ⟨v', rfl, hown, hb3⟩
  have h7 := h6.keeps hb3
  go_wp2_with fail
  refine (same_any v' _ [1, 172, 2, 1, 97] [1, 172, 2, 1, 97] _ ((Own.sl hown).below' ((Below.refl _ _).alloc (Nat.le_refl _) _)) (Own.lit w3 (u8s [1, 172, 2, 1, 97]) 5 (by simp [u8s, maxLen])).sl).mono ?_
  rintro e w4 ⟨rfl, hb4⟩
  have h8 := (h7.keeps ((Below.refl _ _).alloc (Nat.le_refl _) (.cells (u8s [1, 172, 2, 1, 97]).toArray 5))).keeps hb4
  go_wp2_with fail
  have h9 := ((h8.addConst (u8s [49, 50, 51, 52]) 5 4 (by simp [u8s, maxLen]) rfl).addConst (u8s [53, 54, 55, 56, 57]) 5 5 (by simp [u8s, maxLen]) (b := w4.heap.size + 1) (by simp)).addLits [.slice (some ⟨w4.heap.size, 0, none⟩) 4 4, .slice (some ⟨w4.heap.size + 1, 0, none⟩) 5 5] 23 (by simp [maxLen]) (b := w4.heap.size + 1 + 1) (by simp)
  have hcrc : (Crc.sum [[49, 50, 51, 52], [53, 54, 55, 56, 57]].flatten).toNat = 3421780262 := by decide +kernel
  refine (sum_any h9 _ _ [[49, 50, 51, 52], [53, 54, 55, 56, 57]] (readsRows_two (Reads.ro (R := _)).under Reads.ro)).mono ?_
  rintro e w5 ⟨he, rfl⟩
  rw [hcrc] at he
  subst he
  have h10 := h9.old
  have H10 := Lib.hid h10
  clear h10 h9 hcrc
  go_wp2
  go_ret
  exact ⟨rfl, H10.out⟩
end Go.Proofs.Ytmdkgggbibdkmaa.Oct
