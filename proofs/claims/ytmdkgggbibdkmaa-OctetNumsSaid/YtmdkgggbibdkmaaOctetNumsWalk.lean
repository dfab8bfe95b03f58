/-
  The walk of the law OctetNums: it answers true, for any numbers.
-/
import Derived.Test.YtmdkgggbibdkmaaOctetKnown
import Derived.Test.YtmdkgggbibdkmaaOctetNum
import Derived.Test.YtmdkgggbibdkmaaOctetRNum
import Derived.Test.YtmdkgggbibdkmaaOctetSpoil
import Derived.Deep.RegionWith
namespace Go.Proofs.Ytmdkgggbibdkmaa.octetNums
open Go.RowKit L Oct
theorem encs_drop {zs : List Int} {k : Nat} (h : k < zs.length) : encs (zs.drop k) = enc (clamp zs[k]) ++ encs (zs.drop (k + 1)) := by
  show List.flatMap _ (zs.drop k) = _
  rw [List.drop_eq_getElem_cons h, List.flatMap_cons]
  rfl
set_option maxRecDepth 100000 in
set_option maxHeartbeats 1600000 in
theorem walkIn {w : World} (va : Value) (zs : List Int) (hz : ∀ z ∈ zs, -9223372036854775808 ≤ z ∧ z ≤ 9223372036854775807) (ha : Sl w 1 va zs.length (ints zs)) (hn : zs.length ≤ 500) :
    Calls Try.prog 4 #[va] w fun e w' => e = .returned (.bool true) ∧ Below w.heap.size w w' := by
  have hlen := ha.run_len Try.underlying30
  have hel := encs_length zs
  have Hz := Lib.hid hz
  go_enter Try.func4, Try.ntmps4
  go_wp2_with fail
  have h1 := addWr (Hold.start w) (b := w.heap.size) rfl
  refine (nums_any h1 va zs (Reads.old ha) hz (by simp; omega)).mono ?_
  rintro e w1 ⟨rfl, h2⟩
  rw [List.nil_append] at h2
  clear h1 hz
  obtain ⟨L, hL⟩ : ∃ L, L = encs zs := ⟨_, rfl⟩
  rw [← hL] at h2 hel
  have HL := Lib.hid hL
  clear hL
  go_wp2_with fail
  refine (out_any h2 (by omega)).mono ?_
  rintro e w2 ⟨v2, rfl, hown2, hb2⟩
  have h3 := h2.addRow hb2 hown2
  have ha2 := Reads.old (R := Asrt.emp) ha w2 ⟨h3.old, fun _ => False, fun _ h => h.elim, fun _ h => h⟩
  clear h2 hown2 hb2
  go_wp2_with fail
  refine (rnums_any va zs Hz.out w2 ha2 (by omega)).mono ?_
  rintro e w3 ⟨v3, rfl, hown3, hb3⟩
  rw [← HL.out] at hown3
  have h4 := h3.keeps hb3
  have hs3 := hown3.sl
  clear hown3 hb3 ha2 h3
  go_wp2_with fail
  refine (same_any v2 v3 L L w3 h4.sl hs3).mono ?_
  rintro e w4 ⟨rfl, hb4⟩
  have h5 := h4.keeps hb4
  clear h4 hb4 hs3
  have e5 : decide (L = L) = true := by simp
  rw [e5]
  clear e5
  go_wp2_with fail
  refine (newReader_any h5 v2 L h5.sl (by omega)).mono ?_
  rintro e w5 ⟨vr, rfl, b, rfl, h6⟩
  have h7 := h6.drop1
  clear h5 h6
  go_wp2_with fail
  refine (spoil_any h7 (by omega)).mono ?_
  rintro e w6 ⟨rfl, h8⟩
  clear h7
  go_wp2_with fail
  refine (out_any h8 (by omega)).mono ?_
  rintro e w7 ⟨v7, rfl, hown7, hb7⟩
  have h9 := h8.addRow hb7 hown7
  clear h8 hown7 hb7
  go_wp2_with fail
  refine (newReader_any h9 v7 L h9.sl (by omega)).mono ?_
  rintro e w8 ⟨vr2, rfl, b2, rfl, h10⟩
  clear h9
  go_wp2
  go_loopw [6] (fun i wr => ∃ k : Nat, k ≤ zs.length ∧ i = .int .i64 k ∧ Hold w ((Rd b2 (encs (zs.drop k)) false).sep Asrt.emp) wr) (fun i _ => zs.length - (intOf i).toNat)
  case atStart => exact ⟨0, Nat.zero_le _, rfl, by
    have := (h10.swap.drop1.add (Below.refl _ _) (A := Asrt.emp) (F := fun _ => False) (fun _ h => h) (fun _ h => h.elim)).swap
    rw [HL.out] at this
    simpa using this⟩
  case round =>
    obtain ⟨k, hk, rfl, hH⟩ := hrel
    clear h10
    by_cases hlt : k < zs.length
    · obtain ⟨z, hze⟩ : ∃ z, z = zs[k] := ⟨_, rfl⟩
      obtain ⟨A, hA, hblk, hcell⟩ := run_indexAt_sl (P := Try.prog) ha Try.underlying30 Try.size3 .i64 (k : Int) (by omega) (by omega)
      have hc := hcell 0 (by omega)
      have hzb := Hz.out z (by rw [hze]; exact List.getElem_mem _)
      simp only [add_zero, Int.toNat_natCast, Nat.mul_one, Nat.add_zero, ints, List.getD, List.getElem?_map, List.getElem?_eq_getElem hlt, Option.map_some, Option.getD_some] at hc
      rw [← hze] at hc
      have hblt : A.block < w.heap.size := ha.lt (by omega) _ hblk.symm
      have hdr := encs_drop hlt
      rw [← hze] at hdr
      have hdl : (encs (zs.drop k)).length ≤ 140737488355328 := by have := encs_length (zs.drop k); simp at this; omega
      have hcl := clamp_le z
      have hstep : ∀ (C : Int), (clamp z : Int) = C → ∀ wr', Hold w ((Rd b2 (encs (zs.drop k)) false).sep Asrt.emp) wr' → Calls Try.prog 18 #[.pointer (some ⟨b2, 0, none⟩)] wr' fun e w' => e = .returned (.int .i64 C) ∧ Hold w ((Rd b2 (encs (zs.drop (k + 1))) false).sep Asrt.emp) w' := by
        rintro C rfl wr' hw
        have hd := dec_enc (clamp z) (encs (zs.drop (k + 1))) hcl
        rw [← hdr] at hd
        have := num_any hw hdl
        rw [hd] at this
        simpa [got, left] using this
      have hc0 : wr.drew.cell? A = some (.int .i64 z) := (hH.drew.old.cell hblt).trans hc
      have hHd := hH.drew
      have HHd := Lib.hid hHd
      have Hc := Lib.hid hc
      have Hstep := Lib.hid hstep
      clear hcell hze hdr hc hH hHd hstep
      rcases (show z ≤ 0 ∧ (clamp z : Int) = 0 ∨ 0 < z ∧ z ≤ 4611686018427387904 ∧ (clamp z : Int) = z ∨ 4611686018427387904 < z ∧ (clamp z : Int) = 4611686018427387904 from by unfold clamp; omega) with ⟨hz1', hz2'⟩ | ⟨hz1', hz1'', hz2'⟩ | ⟨hz1', hz2'⟩
      all_goals
        have Hs := Lib.hid (Hstep.out _ hz2')
        clear hz2' Hstep hcl
        go_wp2_with fail
        go_region_with (first | (go_at_call 18; refine (Hs.out _ HHd.out).mono ?_; rintro e w9 ⟨rfl, h11⟩; have hc1 : w9.cell? A = some (.int .i64 z) := (h11.old.cell hblt).trans Hc.out; have H11 := Lib.hid h11; clear h11))
        all_goals
          go_wp2
          go_roundw
          case rel => exact ⟨k + 1, by omega, by go_num, H11.out⟩
          case measure => simp [intOf]; omega
    · obtain rfl : k = zs.length := by omega
      rw [List.drop_length] at hH
      go_wp2_with fail
      refine (good_any hH).mono ?_
      rintro e w9 ⟨rfl, rfl⟩
      go_wp2_with fail
      refine (whole_any hH).mono ?_
      rintro e w9 ⟨rfl, rfl⟩
      have e9 : (!false && (encs []).isEmpty) = true := by rfl
      rw [e9]
      clear e9
      go_wp2_with fail
      refine (known_any _).mono ?_
      rintro e w9 ⟨rfl, hb9⟩
      have hfin := (hH.keeps hb9).old
      have Hfin := Lib.hid hfin
      clear hfin hb9 hH
      go_wp2
      go_ret
      exact ⟨rfl, Hfin.out⟩
theorem walk {w : World} (va : Value) (zs : List Int) (ha : Sl w 1 va zs.length (zs.map (Value.int .i64))) (hb : zs.length * 8 ≤ 140737488351232) (hz : ∀ z ∈ zs, (Lit.int .i64 z).wf = true) :
    Calls Try.prog 4 #[va] w fun e w' => e = .returned (.bool true) ∧ Below w.heap.size w w' := by
  by_cases hn : zs.length ≤ 500
  · refine walkIn va zs (fun z h => ?_) ha hn
    have := hz z h
    simpa [Lit.wf, IntKind.min, IntKind.max, IntKind.signed, IntKind.bits] using this
  · have hlen := ha.run_len Try.underlying30
    go_enter Try.func4, Try.ntmps4
    go_wp2
    go_ret
    exact ⟨rfl, Below.refl _ _⟩
end Go.Proofs.Ytmdkgggbibdkmaa.octetNums
