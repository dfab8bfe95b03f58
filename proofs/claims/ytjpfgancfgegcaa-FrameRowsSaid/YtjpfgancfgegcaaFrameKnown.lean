/-
  'rows' and 'known' of the laws of chapter 2.
-/
import Derived.Test.YtjpfgancfgegcaaFrameScan
namespace Go.Proofs.Ytjpfgancfgegcaa.Fr
open Go.RowKit L Oct
set_option maxRecDepth 100000 in
set_option maxHeartbeats 1600000 in
theorem rows_eq (va vb : Value) (ls : List (List UInt8)) (w : World) (ha : SlRows w va ls) (hb : SlRows w vb ls) :
    Calls Try.prog 15 #[va, vb] w fun e w' => e = .returned (.bool true) ∧ Below w.heap.size w w' := by
  have hlena := ha.run_len Try.underlying30
  have hlenb := hb.run_len Try.underlying30
  have hmx := ha.le
  have hd : ((ls.length : Int) != (ls.length : Int)) = false := by simp
  go_enter Try.func15, Try.ntmps15
  go_wp2
  go_loopw [5] (fun i wr => ∃ k : Nat, k ≤ ls.length ∧ i = .int .i64 k ∧ Below w.heap.size w wr) (fun i _ => ls.length - (intOf i).toNat)
  case atStart => exact ⟨0, Nat.zero_le _, rfl, Below.refl _ _⟩
  case round =>
    obtain ⟨k, hk, rfl, hbr⟩ := hrel
    by_cases hlt : k < ls.length
    · obtain ⟨A, u, l, hA, hblk, hc, Hl, hul⟩ := ((ha.below' hbr).below' (Below.refl _ _).drew).at (P := Try.prog) Try.underlying30 Try.size22 k hlt
      obtain ⟨A2, u2, l2, hA2, hblk2, hc2, Hl2, hul2⟩ := ((hb.below' hbr).below' (Below.refl _ _).drew).at (P := Try.prog) Try.underlying30 Try.size22 k hlt
      have hl12 : l2 = l := by rw [Hl2.out, Hl.out]
      subst hl12
      have Hul := Lib.hid hul
      have Hul2 := Lib.hid hul2
      have hbd := hbr.drew
      clear hul hul2 Hl2 hblk hblk2
      go_wp2_with fail
      go_region_with (first
        | (go_at_call 12; refine (same_any u u2 l2 l2 _ Hul.out Hul2.out).mono ?_; rintro e w2 ⟨rfl, hb2⟩; rw [show decide (l2 = l2) = true from by simp]; have hb3 := hbd.trans (hb2.mono hbd.size)))
      all_goals
        have Hb := Lib.hid hb3
        clear hb3 hb2 hbd hbr
        go_wp2
        go_roundw
        case rel => exact ⟨k + 1, by omega, by go_num, Hb.out⟩
        case measure => simp [intOf]; omega
    · have Hb := Lib.hid hbr
      clear hbr
      go_wp2
      go_ret
      exact ⟨rfl, Hb.out⟩
set_option maxRecDepth 100000 in
set_option maxHeartbeats 1600000 in
theorem known_any (w : World) : Calls Try.prog 10 #[] w fun e w' => e = .returned (.bool true) ∧ Below w.heap.size w w' := by
  have kc := fun (w : World) (C : Array Value) (n c : Nat) => Lib.run_convert_bytes_const (P := Try.prog) w 22 5 C n c Try.underlying22 Try.underlying5
  have hu := unrec_rec [120] [1] (by simp)
  have Hu := Lib.hid hu
  clear hu
  go_enter Try.func10, Try.ntmps10
  go_wp2_with fail
  have s1 := slConst w [120] 5 1 (by simp) rfl
  have hb1 := (Below.refl w.heap.size w).alloc (Nat.le_refl _) (.cells (u8s [120]).toArray 5 (1, 1 + 1))
  refine (encode_any _ [[120]] _ (rowsLit1 22 (l1 := [120]) s1 (by simp)) (by simp) (by simp)).mono ?_
  rintro e w2 ⟨v2, rfl, h2, hb2⟩
  rw [show [[(120 : UInt8)]].flatten = [120] from rfl] at h2
  have H2 := (Hold.start w).addRow ((hb1.alloc hb1.size (.cells #[.slice (some ⟨w.heap.size, 0, none⟩) 1 1] 22)).trans (hb2.mono (hb1.alloc hb1.size _).size)) (h2.from fun k hk => Nat.le_trans (by simp; omega) (h2.lt k hk).1)
  have hrl : (rec_ [120]).length = 13 := by rw [rec_length]; rfl
  rw [hrl] at H2
  clear s1 hb1 h2 hb2
  go_wp2_with (at_builtin; refine wpList_appLit el8 H2 (u8s [1]) rfl _ _ rfl rfl rfl rfl (u8s_one _) (by simp [u8s]) (by simp [u8s]) ?_; intro v3 xs3 w3 X3 H3)
  obtain ⟨B, hB⟩ : ∃ B, B = rec_ [120] ++ [1] := ⟨_, rfl⟩
  have hBl : B.length = 14 := by rw [hB, List.length_append, hrl]; rfl
  have s3 : Sl w3 1 v3 B.length (u8s B) := by
    have := H3.sl
    rw [X3.out, ← u8s_append, ← hB] at this
    rw [hBl]
    exact this
  have hd := decode_any v3 B w3 s3 (by omega)
  rw [hB, Hu.out] at hd
  have H4 := H3
  have Hd := Lib.hid hd
  clear hrl hB hBl s3 hd H2
  refine Hd.out.mono ?_
  rintro e w4 ⟨v4, rfl, h4, hb4⟩
  have H5 := H4.keeps hb4
  have s4 := h4.sl
  clear H3 H4 h4 hb4 Hu X3
  go_wp2_with fail
  refine (same_any v4 _ [120] [120] _ (s4.below' ((Below.refl _ _).alloc (Nat.le_refl _) _)) (slConst w4 [120] 5 1 (by simp) rfl)).mono ?_
  rintro e w5 ⟨rfl, hb5⟩
  rw [show decide (([120] : List UInt8) = [120]) = true from rfl]
  have Hf := Lib.hid ((H5.keeps ((Below.refl _ _).alloc (Nat.le_refl _) (.cells (u8s [120]).toArray 5 (1, 1 + 1)))).keeps hb5).old
  clear H5 s4 hb5
  go_wp2
  go_ret
  exact ⟨rfl, Hf.out⟩
end Go.Proofs.Ytjpfgancfgegcaa.Fr
