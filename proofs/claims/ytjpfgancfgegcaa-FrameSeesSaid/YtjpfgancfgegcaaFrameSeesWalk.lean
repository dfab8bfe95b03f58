/-
  The walk of the law FrameSees: it answers true.
-/
import Derived.Test.YtjpfgancfgegcaaFrameKnown
import Derived.Test.YtjpfgancfgegcaaMask
namespace Go.Proofs.Ytjpfgancfgegcaa.frameSees
open Go.RowKit L Oct Fr
set_option maxRecDepth 100000 in
set_option maxHeartbeats 1600000 in
theorem walk {w : World} (v0 : Value) (l0 : List UInt8) (h0 : Sl w 1 v0 l0.length (u8s l0)) (_b0 : l0.length ≤ 140737488351232) (v1 : Value) (l1 : List UInt8) (h1 : Sl w 1 v1 l1.length (u8s l1)) (_b1 : l1.length ≤ 140737488351232) (a2 : Int) (_w2 : (Lit.int .i64 a2).wf = true) (a3 : Int) (w3 : (Lit.int .u8 a3).wf = true) :
    Calls Try.prog 3 #[v0, v1, .int .i64 a2, .int .u8 a3] w fun e w' => e = .returned (.bool true) ∧ Below w.heap.size w w' := by
  obtain ⟨by_, rfl⟩ := u8_lit w3
  have hlen0 := h0.run_len Try.underlying22
  have hlen1 := h1.run_len Try.underlying22
  clear _w2 w3
  by_cases hbig : 4000 < (l0.length : Int) + (l1.length : Int)
  · go_enter Try.func3, Try.ntmps3
    go_wp2
    go_ret
    exact ⟨rfl, Below.refl _ _⟩
  have hbig' : l0.length + l1.length ≤ 4000 := by omega
  by_cases hby : by_.toNat = 0
  · have hq : ((by_.toNat : Int) == 0) = true := by simp [hby]
    clear hby
    go_enter Try.func3, Try.ntmps3
    go_wp2
    go_ret
    exact ⟨rfl, Below.refl _ _⟩
  have hq : ((by_.toNat : Int) == 0) = false := by simp only [beq_eq_false_iff_ne, ne_eq]; omega
  obtain ⟨p0, c0, rfl⟩ := h0.shape
  go_enter Try.func3, Try.ntmps3
  go_wp2_with fail
  refine (encode_any _ [l0] _ (rowsLit1 22 h0 rfl) (by simp) (by simp; omega)).mono ?_
  rintro e w2 ⟨v2, rfl, h2, hb2⟩
  rw [show [l0].flatten = l0 from by simp] at h2
  have hb2 := ((Below.refl w.heap.size w).alloc (Nat.le_refl _) (.cells #[.slice p0 l0.length c0] 22)).trans (hb2.mono (by simp))
  obtain ⟨B, hB⟩ : ∃ B, B = rec_ l0 := ⟨_, rfl⟩
  have hBl : B.length = 12 + l0.length := by rw [hB, rec_length]
  rw [← hB] at h2
  have s2 := h2.sl
  have hlen2 := s2.run_len Try.underlying22
  have H0 := ((Hold.start w).keeps hb2).addEmpty 5
  have s2' := sl_alloc s2 (.cells #[] 5)
  have hB0 : 0 < B.length := by omega
  have hBn : ((B.length : Int) == 0) = false := by simp only [beq_eq_false_iff_ne, ne_eq]; omega
  obtain ⟨j, m, hj, hj2, hjm, hm⟩ := place30 a2 B.length hB0
  obtain ⟨x, hx0⟩ : ∃ x, x = B.getD m 0 := ⟨_, rfl⟩
  have hx := xor_u8 x by_
  obtain ⟨y, hy⟩ : ∃ y, y = x ^^^ by_ := ⟨_, rfl⟩
  rw [← hy] at hx
  have hyne : y ≠ B[m] := by
    rw [hy, hx0]
    have := xor_ne B[m] by_ hby
    simp only [List.getD, List.getElem?_eq_getElem hm, Option.getD_some]
    exact this
  obtain ⟨B', hB'⟩ : ∃ B', B' = B.set m y := ⟨_, rfl⟩
  have hset8 : (u8s B).set m (.int .u8 (y.toNat : Int)) = u8s B' := by rw [hB']; simp [u8s]
  have hBl' : B'.length = B.length := by rw [hB']; simp
  obtain ⟨D, hD⟩ : ∃ D, D = B' ++ l1 := ⟨_, rfl⟩
  have hDl : D.length = B.length + l1.length := by rw [hD, List.length_append, hBl']
  have hbad : (unrec D).2.2 ≠ 0 := by
    have hu := unrec_rec l0 l1 (by omega)
    rw [← hB] at hu
    have hml : m < (B ++ l1).length := by rw [List.length_append]; omega
    have hf : from4 (B ++ l1) = l0.length := by
      rw [hB]
      unfold rec_ head
      rw [List.append_assoc, List.append_assoc, List.append_assoc]
      exact from4_four _ _ (by omega)
    have := unrec_set (B ++ l1) m y (by rw [hu]) (by rw [hf]; omega) hml (by rw [List.getElem_append_left hm]; exact hyne)
    rw [List.set_append_left _ _ hm, ← hB', ← hD] at this
    exact this
  obtain ⟨hb1, hb2'⟩ := unrec_bad D hbad
  obtain ⟨E, hE⟩ : ∃ E, E = (unrec D).2.2 := ⟨_, rfl⟩
  rw [← hE] at hbad
  have hEne : ((E : Int) != 0) = true := by simp; omega
  have HB := Lib.hid hB
  have HBl := Lib.hid hBl
  have HBl' := Lib.hid hBl'
  have HD := Lib.hid hD
  have HDl := Lib.hid hDl
  have Hset8 := Lib.hid hset8
  have Hx0 := Lib.hid hx0
  have Hb1 := Lib.hid hb1
  have Hb2 := Lib.hid hb2'
  have HE := Lib.hid hE
  clear h2 s2 hB hBl hB' hy hyne hset8 hBl' hD hDl hbad hb1 hb2' hE hx0 hby
  go_wp2_with (first
    | (at_builtin; refine wpList_app (sx := .tmp 37) el8 H0 rfl _ rfl rfl rfl s2' (u8s_one _) (by have := HBl.out; omega) (by have := HBl.out; omega) ?_; intro v3 xs3 w3 X3 H3; rw [X3.out, List.nil_append, Nat.zero_add] at H3; have hlen3 := H3.sl.run_len Try.underlying22; obtain ⟨A, hA, hcell, hfr, hset⟩ := H3.index (P := Try.prog) Try.underlying22 Try.size5 .i64 (m : Int) (by omega) (by omega); rw [Int.toNat_natCast, u8s_get _ _ hm, ← Hx0.out] at hcell; have hs := hset (.int .u8 (y.toNat : Int)); rw [Int.toNat_natCast, Hset8.out] at hs; have hs1 := h1.below' hs.old; clear hset H0 s2')
    | (at_builtin; refine wpList_app (sx := .tmp 52) el8 hs rfl _ rfl rfl rfl hs1 (u8s_one _) (by have := HBl.out; omega) (by have := HBl.out; omega) ?_; intro v4 xs4 w4 X4 H4))
  have s4 : Sl w4 1 v4 D.length (u8s D) := by
    have := H4.sl
    rw [X4.out, ← u8s_append, ← HD.out, ← HDl.out] at this
    exact this
  have hd := decode_any v4 D w4 s4 (by have := HDl.out; have := HBl.out; omega)
  rw [Hb1.out, Hb2.out, ← HE.out] at hd
  have Hd := Lib.hid hd
  have Hb4 := Lib.hid H4.old
  clear H3 H4 hs hs1 s4 hd hA hcell hfr
  refine Hd.out.mono ?_
  rintro e w5 ⟨v5, rfl, h5, hb5⟩
  have hlen5 := h5.sl.run_len Try.underlying22
  have Hb5 := Lib.hid (Hb4.out.trans (hb5.mono Hb4.out.size))
  clear h5 hb5
  go_wp2_with fail
  refine (known_any _).mono ?_
  rintro e w9 ⟨rfl, hb9⟩
  have Hfin := Lib.hid (Hb5.out.trans (hb9.mono Hb5.out.size))
  clear hb9
  go_wp2
  go_ret
  exact ⟨rfl, Hfin.out⟩
end Go.Proofs.Ytjpfgancfgegcaa.frameSees
