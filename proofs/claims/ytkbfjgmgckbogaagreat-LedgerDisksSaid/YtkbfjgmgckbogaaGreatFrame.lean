/-
  The walks of chapter 2 (frame): four, fromFour, headOf, Encode, Decode, One, Scan.
-/
import Derived.Test.YtkbfjgmgckbogaaGreatF11
import Derived.Test.YtkbfjgmgckbogaaGreatEqual
import Derived.Test.YtkbfjgmgckbogaaGreatF12
import Derived.Test.YtkbfjgmgckbogaaGreatOctetJoin
import Derived.Test.YtkbfjgmgckbogaaGreatRowsAt
import Derived.Test.YtkbfjgmgckbogaaGreatOctetClone
import Derived.Deep.QuietTactic
import Derived.BigQuiet
import Derived.Deep.RegionWith
namespace Go.Proofs.YtkbfjgmgckbogaaGreat.Fr
open Go.RowKit L Oct
theorem byte0 (v k : Nat) : ((v / k : Nat) : Int) % 256 = ((UInt8.ofNat (v / k)).toNat : Int) := by
  rw [ofNat_toNat]; omega
theorem or_add (k x y : Nat) (h : x < 2 ^ k) : x ||| y * 2 ^ k = x + y * 2 ^ k := by
  rw [Nat.or_comm, Nat.add_comm, ← Nat.shiftLeft_eq, Nat.shiftLeft_add_eq_or_of_lt h]
theorem or4 (a b c d : UInt8) : bits .or .u32 (bits .or .u32 (bits .or .u32 (a.toNat : Int) ((b.toNat : Int) * 256)) ((c.toNat : Int) * 65536)) ((d.toNat : Int) * 16777216) = (num4 a b c d : Nat) := by
  have h1 := a.toNat_lt
  have h2 := b.toNat_lt
  have h3 := c.toNat_lt
  have h4 := d.toNat_lt
  rw [show ((b.toNat : Int) * 256) = ((b.toNat * 2 ^ 8 : Nat) : Int) from by omega, show ((c.toNat : Int) * 65536) = ((c.toNat * 2 ^ 16 : Nat) : Int) from by omega, show ((d.toNat : Int) * 16777216) = ((d.toNat * 2 ^ 24 : Nat) : Int) from by omega]
  rw [u32_or_nat _ _ (by omega) (by omega), or_add 8 _ _ (by omega), u32_or_nat _ _ (by omega) (by omega), or_add 16 _ _ (by omega), u32_or_nat _ _ (by omega) (by omega), or_add 24 _ _ (by omega)]
  unfold num4
  omega
set_option maxHeartbeats 400000 in
theorem four_any (v : Nat) (hv : v < 4294967296) (w : World) :
    Calls Tryz.prog 75 #[.int .u32 (v : Int)] w (RetV fun v' w' => Own w' w.heap.size 5 1 v' 4 (u8s (four v)) ∧ Below w.heap.size w w') := by
  have h0 : (0 : Int) ≤ v := by omega
  have h1 : (v : Int) < 4294967296 := by omega
  go_enter Tryz.func75, Tryz.ntmps75
  have hcs : Hid (([.int .u8 ((v : Int) % 256), .int .u8 ((v : Int) / 256 % 256), .int .u8 ((v : Int) / 65536 % 256), .int .u8 ((v : Int) / 16777216)] : List Value) = u8s (four v)) := by
    refine Lib.hid ?_
    have e1 : ((UInt8.ofNat v).toNat : Int) = (v : Int) % 256 := by rw [ofNat_toNat]; omega
    have e2 : ((UInt8.ofNat (v / 256)).toNat : Int) = (v : Int) / 256 % 256 := by rw [ofNat_toNat]; omega
    have e3 : ((UInt8.ofNat (v / 65536)).toNat : Int) = (v : Int) / 65536 % 256 := by rw [ofNat_toNat]; omega
    have e4 : ((UInt8.ofNat (v / 16777216)).toNat : Int) = (v : Int) / 16777216 := by rw [ofNat_toNat]; omega
    simp only [four, u8s, List.map_cons, List.map_nil, e1, e2, e3, e4]
  have Hv := Lib.hid hv
  clear hv
  go_wp2
  go_ret
  refine ⟨_, rfl, ?_, (Below.refl _ _).alloc (Nat.le_refl _) _⟩
  have := Own.lit w (u8s (four v)) 5 (by simp [u8s, four, maxLen])
  rw [← hcs.out] at this ⊢
  exact this
set_option maxHeartbeats 400000 in
theorem fromFour_any (v : Value) (l : List UInt8) (n : Nat) (w : World) (hn : 4 ≤ l.length) (hl : n = l.length) (hsl : Sl w 1 v n (u8s l)) :
    Calls Tryz.prog 96 #[v] w fun e w' => e = .returned (.int .u32 (from4 l)) ∧ Below w.heap.size w w' := by
  subst hl
  obtain ⟨A0, x0, hA0, _, hc0, X0, hx0⟩ := hsl.at8' (P := Tryz.prog) Tryz.underlying22 Tryz.size5 0 0 rfl (by omega)
  obtain ⟨A1, x1, hA1, _, hc1, X1, hx1⟩ := hsl.at8' (P := Tryz.prog) Tryz.underlying22 Tryz.size5 1 1 rfl (by omega)
  obtain ⟨A2, x2, hA2, _, hc2, X2, hx2⟩ := hsl.at8' (P := Tryz.prog) Tryz.underlying22 Tryz.size5 2 2 rfl (by omega)
  obtain ⟨A3, x3, hA3, _, hc3, X3, hx3⟩ := hsl.at8' (P := Tryz.prog) Tryz.underlying22 Tryz.size5 3 3 rfl (by omega)
  clear hsl
  go_enter Tryz.func96, Tryz.ntmps96
  go_wp2
  go_quiet (fail)
  go_wp2
  go_ret
  refine ⟨ret_int ?_, below_drewN (Below.refl _ _) _⟩
  rw [or4, X0.out, X1.out, X2.out, X3.out]
  rfl
/-- a value and an error -/
def RetE (R : Value → World → Prop) (z : Int) (e : Ending) (w' : World) : Prop := ∃ v, e = .returned (.tuple #[v, .int .i64 z]) ∧ R v w'
set_option maxHeartbeats 800000 in
theorem headOf_any (n : Nat) (hn : n < 4294967296) (w : World) :
    Calls Tryz.prog 74 #[.int .u32 (n : Int)] w (RetV fun v' w' => Own w' w.heap.size 5 1 v' 8 (u8s (head n)) ∧ Below w.heap.size w w') := by
  have Hn := Lib.hid hn
  go_enter Tryz.func74, Tryz.ntmps74
  go_wp2_with fail
  refine (four_any n hn w).mono ?_
  rintro e w1 ⟨v1, rfl, ho1, hb1⟩
  obtain ⟨p1, c1, rfl⟩ := ho1.shape
  clear hn
  go_wp2_with fail
  refine (four_any n Hn.out w1).mono ?_
  rintro e w2 ⟨v2, rfl, ho2, hb2⟩
  obtain ⟨p2, c2, rfl⟩ := ho2.shape
  have s1 := ho1.sl.below' hb2
  have hb2 := hb1.trans (hb2.mono hb1.size)
  go_wp2_with fail
  refine (sum_at (rowsLit1 22 (l1 := four n) ho2.sl rfl)).mono ?_
  rintro e w3 ⟨he, hw⟩
  rw [show [four n].flatten = four n from by simp] at he
  subst he
  have hb3 : Below w.heap.size w w3 := by rw [← hw]; exact hb2.alloc hb2.size _
  have s1 : Sl w3 1 (.slice p1 4 c1) 4 (u8s (four n)) := by rw [← hw]; exact sl_alloc s1 _
  clear hw hb1 hb2 ho1 ho2
  have hcl := crc_lt (four n)
  go_wp2_with fail
  refine (four_any (crc (four n)) hcl w3).mono ?_
  rintro e w4 ⟨v4, rfl, ho4, hb4⟩
  obtain ⟨p4, c4, rfl⟩ := ho4.shape
  have s1 := s1.below' hb4
  have hb4 := hb3.trans (hb4.mono hb3.size)
  clear hcl
  go_wp2_with fail
  refine (join_at (rowsLit2 22 (l1 := four n) (l2 := four (crc (four n))) s1 ho4.sl rfl) (by simp) (by simp [four])).mono ?_
  rintro e w5 ⟨v5, rfl, ho5, hb5⟩
  rw [show [four n, four (crc (four n))].flatten = head n from by simp [head]] at ho5
  have hb5 : Hid (Below w.heap.size w w5) := Lib.hid ((hb4.alloc hb4.size _).trans (hb5.mono (hb4.alloc hb4.size _).size))
  have Ho : Hid (Own w5 w.heap.size 5 1 v5 8 (u8s (head n))) := Lib.hid (ho5.own' (by rw [head_length]; decide) (hb4.alloc hb4.size _).size)
  clear ho5 hb4 hb3 ho4 s1
  go_wp2
  go_ret
  exact ⟨v5, rfl, Ho.out, hb5.out⟩
set_option maxRecDepth 100000 in
set_option maxHeartbeats 1600000 in
theorem encode_any (va : Value) (ls : List (List UInt8)) (w : World) (h : SlRows w va ls) (hn : ls.length ≤ 100000000000000) (hl : ls.flatten.length ≤ 1048576) :
    Calls Tryz.prog 45 #[va] w (RetE (fun v' w' => Own w' w.heap.size 5 1 v' (rec_ ls.flatten).length (u8s (rec_ ls.flatten)) ∧ Below w.heap.size w w') 0) := by
  have hlen := h.run_len Tryz.underlying44
  obtain ⟨F, hF⟩ : ∃ F, F = ls.flatten := ⟨_, rfl⟩
  rw [← hF] at hl ⊢
  have hle := flatten_take_le ls
  rw [← hF] at hle
  have HF := Lib.hid hF
  have Hle := Lib.hid hle
  clear hF hle
  go_enter Tryz.func45, Tryz.ntmps45
  go_wp2
  go_loop [4, 10] (fun n i => ∃ k m : Nat, k ≤ ls.length ∧ i = .int .i64 k ∧ n = .int .i64 m ∧ Hid (m = (ls.take k).flatten.length) ∧ m ≤ 1048576) (fun _ i => ls.length - (intOf i).toNat)
  case atStart => exact ⟨0, 0, Nat.zero_le _, rfl, rfl, Lib.hid (by simp), by omega⟩
  case round =>
    obtain ⟨k, m, hk, rfl, rfl, Hm, hm⟩ := hrel
    by_cases hlt : k < ls.length
    · obtain ⟨A, u, l, hA, hblk, hc, Hl, hul⟩ := h.at (P := Tryz.prog) Tryz.underlying44 Tryz.size22 k hlt
      have hlen2 := hul.run_len Tryz.underlying22
      have hst := heavy_step hlt
      rw [← Hl.out, ← Hm.out] at hst
      have hle := Hle.out (k + 1)
      have hml : m + l.length ≤ 1048576 := by omega
      have Hst := Lib.hid hst
      clear hul hst hle
      go_wp2
      go_round
      case rel => exact ⟨k + 1, m + l.length, by omega, by go_num, by go_num, Lib.hid Hst.out.symm, hml⟩
      case measure => simp [intOf]; omega
    · obtain rfl : k = ls.length := by omega
      rw [List.take_length, ← HF.out] at Hm
      have hmF := Hm.out
      subst hmF
      go_wp2_with fail
      refine (headOf_any F.length (by omega) w).mono ?_
      rintro e w1 ⟨v1, rfl, ho1, hb1⟩
      obtain ⟨p1, c1, rfl⟩ := ho1.shape
      have h := h.below' hb1
      go_wp2_with fail
      refine (join_at h (by omega) (by rw [← HF.out]; omega)).mono ?_
      rintro e w2 ⟨v2, rfl, ho2, hb2⟩
      rw [← HF.out] at ho2
      obtain ⟨p2, c2, rfl⟩ := ho2.sl.shape
      have s1 := ho1.sl.below' hb2
      have hb2 := hb1.trans (hb2.mono hb1.size)
      go_wp2_with fail
      refine (join_at (rowsLit2 22 (l1 := head F.length) (l2 := F) s1 ho2.sl rfl) (by simp) (by simp [head_length]; omega)).mono ?_
      rintro e w3 ⟨v3, rfl, ho3, hb3⟩
      obtain ⟨B, hB⟩ : ∃ B, B = head F.length ++ F := ⟨_, rfl⟩
      rw [show [head F.length, F].flatten = B from by rw [hB]; simp] at ho3
      have hBl : B.length = 8 + F.length := by rw [hB, List.length_append, head_length]
      obtain ⟨p3, c3, rfl⟩ := ho3.sl.shape
      have hb3 := (hb2.alloc hb2.size _).trans (hb3.mono (hb2.alloc hb2.size _).size)
      have s3 := ho3.sl
      have HB := Lib.hid hB
      have HBl := Lib.hid hBl
      clear ho1 ho2 s1 hb1 hb2 hB h ho3 hBl
      go_wp2_with fail
      refine (sum_at (rowsLit1 22 s3 rfl)).mono ?_
      rintro e w4 ⟨he, hw⟩
      rw [show [B].flatten = B from by simp] at he
      subst he
      have hb4 : Below w.heap.size w w4 := by rw [← hw]; exact hb3.alloc hb3.size _
      have s4 : Sl w4 1 (.slice p3 B.length c3) B.length (u8s B) := by rw [← hw]; exact sl_alloc s3 _
      have hcl := crc_lt B
      clear hw hb3 s3
      go_wp2_with fail
      refine (four_any (crc B) hcl w4).mono ?_
      rintro e w5 ⟨v5, rfl, ho5, hb5⟩
      obtain ⟨p5, c5, rfl⟩ := ho5.shape
      have s5 := s4.below' hb5
      have hb5 := hb4.trans (hb5.mono hb4.size)
      clear hcl
      go_wp2_with fail
      refine (join_at (rowsLit2 22 (l1 := B) (l2 := four (crc B)) s5 ho5.sl rfl) (by simp) (by have := HBl.out; simp [four_length]; omega)).mono ?_
      rintro e w6 ⟨v6, rfl, ho6, hb6⟩
      rw [show [B, four (crc B)].flatten = rec_ F from by rw [HB.out]; simp [rec_]] at ho6
      have Hb6 : Hid (Below w.heap.size w w6) := Lib.hid ((hb5.alloc hb5.size _).trans (hb6.mono (hb5.alloc hb5.size _).size))
      have Ho : Hid (Own w6 w.heap.size 5 1 v6 (rec_ F).length (u8s (rec_ F))) := Lib.hid (ho6.own' (by rw [rec_length]; omega) (hb5.alloc hb5.size _).size)
      clear ho6 hb5 hb4 hb6 s4 s5 ho5
      go_wp2
      go_ret2
      exact ⟨v6, rfl, Ho.out, Hb6.out⟩
end Go.Proofs.YtkbfjgmgckbogaaGreat.Fr
