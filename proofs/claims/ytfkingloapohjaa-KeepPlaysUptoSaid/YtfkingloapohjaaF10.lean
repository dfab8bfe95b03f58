/-
  Texts that the proofs of this seat stand on, one behind the other: contracts of functions and plain lemmas. Conditions: those that each theorem states.
-/
import Derived.Test.YtfkingloapohjaaFrameDec
import Derived.Test.YtfkingloapohjaaFramePure2
/-
  The walk of frame.One.
-/


namespace Go.Proofs.Ytfkingloapohjaa.Fr
open Go.RowKit L Oct
set_option maxRecDepth 100000 in
set_option maxHeartbeats 800000 in
theorem one_any (v : Value) (l : List UInt8) (w : World) (hv : Sl w 1 v l.length (u8s l)) (hl : l.length ≤ 1000000000000) :
    Calls Try.prog 34 #[v] w (RetE (New w (unone l).1) (unone l).2) := by
  have hlen := hv.run_len Try.underlying23
  have hd := decode_any v l w hv hl
  obtain ⟨p, hp⟩ : ∃ p, p = (unrec l).1 := ⟨_, rfl⟩
  obtain ⟨n, hn⟩ : ∃ n, n = (unrec l).2.1 := ⟨_, rfl⟩
  obtain ⟨e, he⟩ : ∃ e, e = (unrec l).2.2 := ⟨_, rfl⟩
  have hu : unone l = if e = 0 ∧ n ≠ l.length then ([], 3) else (p, e) := by unfold unone; rw [hp, hn, he]
  rw [← hp, ← hn, ← he] at hd
  rw [hu]
  have Hd := Lib.hid hd
  clear hd hp hn he hu hv
  by_cases h0 : e = 0
  · subst h0
    by_cases h1 : n = l.length
    · rw [if_neg (by simp [h1])]
      subst h1
      have hq : ((l.length : Int) != (l.length : Int)) = false := by simp
      go_enter Try.func34, Try.ntmps34
      go_wp2_with fail
      refine Hd.out.mono ?_
      rintro ee w1 ⟨v1, rfl, h1⟩
      have H1 := Lib.hid h1
      clear h1
      go_wp2
      go_ret2
      exact ⟨v1, rfl, H1.out⟩
    · rw [if_pos ⟨rfl, h1⟩]
      have hq : ((n : Int) != (l.length : Int)) = true := by simp; omega
      clear h1
      go_enter Try.func34, Try.ntmps34
      go_wp2_with fail
      refine Hd.out.mono ?_
      rintro ee w1 ⟨v1, rfl, h1⟩
      have H1 := Lib.hid h1.2
      clear h1
      go_wp2
      go_ret2
      exact ⟨_, rfl, new_nil _ _ H1.out⟩
  · rw [if_neg (by simp [h0])]
    have hq : ((e : Int) == 0) = false := by simp; omega
    clear h0
    go_enter Try.func34, Try.ntmps34
    go_wp2_with fail
    refine Hd.out.mono ?_
    rintro ee w1 ⟨v1, rfl, h1⟩
    have H1 := Lib.hid h1
    clear h1
    go_wp2
    go_ret2
    exact ⟨v1, rfl, H1.out⟩
end Go.Proofs.Ytfkingloapohjaa.Fr

/-
  The walks of the reference of chapter 2: Four, FromFour, Encode, Decode, One, Scan.
-/

namespace Go.Proofs.Ytfkingloapohjaa.Fr
open Go.RowKit L Oct
set_option maxHeartbeats 400000 in
theorem rfour_any (v : Nat) (hv : v < 4294967296) (w : World) :
    Calls Try.prog 64 #[.int .u32 (v : Int)] w (RetV fun v' w' => Own w' w.heap.size 5 1 v' 4 (u8s (four v)) ∧ Below w.heap.size w w') := by
  have h0 : (0 : Int) ≤ v := by omega
  have h1 : (v : Int) < 4294967296 := by omega
  go_enter Try.func64, Try.ntmps64
  have hcs : Hid (([.int .u8 ((v : Int) % 256), .int .u8 ((v : Int) / 256 % 256), .int .u8 ((v : Int) / 65536 % 256), .int .u8 ((v : Int) / 16777216)] : List Value) = u8s (four v)) := by
    refine Lib.hid ?_
    have e1 : ((UInt8.ofNat v).toNat : Int) = (v : Int) % 256 := by rw [ofNat_toNat]; omega
    have e2 : ((UInt8.ofNat (v / 256)).toNat : Int) = (v : Int) / 256 % 256 := by rw [ofNat_toNat]; omega
    have e3 : ((UInt8.ofNat (v / 65536)).toNat : Int) = (v : Int) / 65536 % 256 := by rw [ofNat_toNat]; omega
    have e4 : ((UInt8.ofNat (v / 16777216)).toNat : Int) = (v : Int) / 16777216 := by rw [ofNat_toNat]; omega
    simp only [four, u8s, List.map_cons, List.map_nil, e1, e2, e3, e4]
  have Hv := Lib.hid hv
  clear hv
  go_wp2
  go_ret
  refine ⟨_, rfl, ?_, (Below.refl _ _).alloc (Nat.le_refl _) _⟩
  have := Own.lit w (u8s (four v)) 5 (by simp [u8s, four, maxLen])
  rw [← hcs.out] at this ⊢
  exact this
set_option maxHeartbeats 400000 in
theorem rfromFour_any (v : Value) (l : List UInt8) (n : Nat) (w : World) (hn : 4 ≤ l.length) (hl : n = l.length) (hsl : Sl w 1 v n (u8s l)) :
    Calls Try.prog 77 #[v] w fun e w' => e = .returned (.int .u32 (from4 l)) ∧ Below w.heap.size w w' := by
  subst hl
  obtain ⟨A0, x0, hA0, _, hc0, X0, hx0⟩ := hsl.at8' (P := Try.prog) Try.underlying23 Try.size5 0 0 rfl (by omega)
  obtain ⟨A1, x1, hA1, _, hc1, X1, hx1⟩ := hsl.at8' (P := Try.prog) Try.underlying23 Try.size5 1 1 rfl (by omega)
  obtain ⟨A2, x2, hA2, _, hc2, X2, hx2⟩ := hsl.at8' (P := Try.prog) Try.underlying23 Try.size5 2 2 rfl (by omega)
  obtain ⟨A3, x3, hA3, _, hc3, X3, hx3⟩ := hsl.at8' (P := Try.prog) Try.underlying23 Try.size5 3 3 rfl (by omega)
  clear hsl
  go_enter Try.func77, Try.ntmps77
  go_wp2
  go_quiet (fail)
  go_wp2
  go_ret
  refine ⟨ret_int ?_, below_drewN (Below.refl _ _) _⟩
  rw [or4, X0.out, X1.out, X2.out, X3.out]
  rfl
set_option maxRecDepth 100000 in
set_option maxHeartbeats 1600000 in
theorem rencode_any (v : Value) (F : List UInt8) (w : World) (hv : Sl w 1 v F.length (u8s F)) (hl : F.length ≤ 1048576) :
    Calls Try.prog 39 #[v] w (RetE (New w (rec_ F)) 0) := by
  have hlen := hv.run_len Try.underlying23
  have hr := rec_length F
  have HR := Lib.hid hr
  clear hr
  go_enter Try.func39, Try.ntmps39
  go_wp2_with fail
  refine (rfour_any F.length (by omega) w).mono ?_
  rintro e w1 ⟨v1, rfl, ho1, hb1⟩
  go_wp2_with fail
  refine (rsum_any v1 (four F.length) w1 ho1.sl).mono ?_
  rintro e w2 ⟨rfl, rfl⟩
  have hcl := crc_lt (four F.length)
  go_wp2_with fail
  refine (rfour_any (crc (four F.length)) hcl w1).mono ?_
  rintro e w2 ⟨v2, rfl, ho2, hb2⟩
  have H2 := (Hold.of_own ho1 hb1).keeps hb2
  have hs2 := ho2.sl
  clear hcl ho1 ho2 hb1 hb2
  go_wp2_with (first
    | (at_builtin; refine wpList_app (sx := .tmp 12) el8 H2 rfl _ rfl rfl rfl hs2 (u8s_one _) (by omega) (by omega) ?_; intro v3 xs3 w3 X3 H3; have hv3 := hv.below' H3.old)
    | (at_builtin; refine wpList_app (sx := .tmp 17) el8 H3 rfl _ rfl rfl rfl hv3 (u8s_one _) (by omega) (by omega) ?_; intro v4 xs4 w4 X4 H4))
  obtain ⟨B, hB⟩ : ∃ B, B = head F.length ++ F := ⟨_, rfl⟩
  have H5 : Hold w ((Row 5 1 v4 B.length (u8s B)).sep Asrt.emp) w4 := by
    have e : xs4 = u8s B := by rw [X4.out, X3.out, hB, head, u8s_append, u8s_append]
    rw [e, show 4 + 4 + F.length = B.length from by rw [hB, List.length_append, head_length]] at H4
    exact H4
  have hBl : B.length = 8 + F.length := by rw [hB, List.length_append, head_length]
  have HB := Lib.hid hB
  have HBl := Lib.hid hBl
  clear hB H2 H3 H4 hs2 hv3 hBl
  refine (rsum_any v4 B w4 H5.sl).mono ?_
  rintro e w5 ⟨rfl, rfl⟩
  have hcl := crc_lt B
  go_wp2_with fail
  refine (rfour_any (crc B) hcl w4).mono ?_
  rintro e w5 ⟨v5, rfl, ho5, hb5⟩
  have H6 := H5.keeps hb5
  have hs5 := ho5.sl
  clear hcl ho5 hb5 H5
  go_wp2_with (at_builtin; refine wpList_app (sx := .tmp 20) el8 H6 rfl _ rfl rfl rfl hs5 (u8s_one _) (by have := HBl.out; omega) (by have := HBl.out; omega) ?_; intro v7 xs7 w7 X7 H7)
  have Hf : Hid (New w (rec_ F) v7 w7) := Lib.hid (by
    have e : xs7 = u8s (rec_ F) := by rw [X7.out, rec_, HB.out, u8s_append (head F.length ++ F)]
    rw [e, show B.length + 4 = (rec_ F).length from by have := HR.out; have := HBl.out; omega] at H7
    exact H7.fin)
  clear H6 H7 hs5
  go_ret2
  exact ⟨_, rfl, Hf.out⟩
end Go.Proofs.Ytfkingloapohjaa.Fr
