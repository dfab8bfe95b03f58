/-
  The walk of the law OctetRows: it answers true.
-/
import Derived.Test.YtmdkgggbibdkmaaRowsAt
import Derived.Test.YtmdkgggbibdkmaaOctetKnown
import Derived.Test.YtmdkgggbibdkmaaOctetRNum
import Derived.Test.YtmdkgggbibdkmaaOctetNum
namespace Go.Proofs.Ytmdkgggbibdkmaa.octetRows
open Go.RowKit L Oct
theorem rows_take_succ {ls : List (List UInt8)} {k : Nat} (hk : k < ls.length) : rows (ls.take (k + 1)) = rows (ls.take k) ++ row (ls.getD k []) := by
  rw [List.take_succ_eq_append_getElem hk, rows_snoc]
  simp only [List.getD, List.getElem?_eq_getElem hk, Option.getD_some]
theorem rows_drop {ls : List (List UInt8)} {k : Nat} (hk : k < ls.length) : rows (ls.drop k) = row (ls.getD k []) ++ rows (ls.drop (k + 1)) := by
  show List.flatMap _ (ls.drop k) = _
  rw [List.drop_eq_getElem_cons hk, List.flatMap_cons]
  simp only [List.getD, List.getElem?_eq_getElem hk, Option.getD_some]
  rfl
theorem rows_len (ls : List (List UInt8)) : (rows ls).length ≤ 9 * ls.length + ls.flatten.length ∨ 140737488355328 < ls.flatten.length := by
  by_cases h : 140737488355328 < ls.flatten.length
  · exact .inr h
  · left
    induction ls with
    | nil => simp [rows]
    | cons x r ih =>
      rw [List.flatten_cons, List.length_append] at h
      have hr := ih (by omega)
      have h9 := enc_le9 (u := x.length) (by omega)
      show (row x ++ rows r).length ≤ _
      rw [List.length_append, row, List.length_append, List.flatten_cons, List.length_append, List.length_cons]
      omega
theorem u8s_take_app (l x : List UInt8) : (u8s (l ++ x)).take (l.length * 1) = u8s l := by
  rw [u8s_append, Nat.mul_one, ← u8s_length l, List.take_left]
theorem dec_next (l r : List UInt8) (hl : l.length ≤ 40000) : got [] (decRow (row l ++ r)) = l ∧ left (decRow (row l ++ r)) = r ∧ (false || (decRow (row l ++ r)).isNone) = false := by
  rw [decRow_row l r (by omega)]
  simp [got, left]
theorem take_len (ls : List (List UInt8)) (k : Nat) : (rows (ls.take k)).length ≤ (rows ls).length := rows_length_le ls k
set_option maxRecDepth 100000 in
set_option maxHeartbeats 3200000 in
theorem walk {w : World} (v0 : Value) (l0 : List (List UInt8)) (h0 : SlRows w v0 l0) (_b0 : l0.length * 24 ≤ 140737488351232) (_c0 : ∀ x ∈ l0, x.length ≤ 140737488351232) (v1 : Value) (l1 : List UInt8) (h1 : Sl w 1 v1 l1.length (u8s l1)) (_b1 : l1.length ≤ 140737488351232) :
    Calls Try.prog 7 #[v0, v1] w fun e w' => e = .returned (.bool true) ∧ Below w.heap.size w w' := by
  have hlen0 := h0.run_len Try.underlying38
  have hlen1 := h1.run_len Try.underlying23
  have hmx0 := h0.le
  have hmx1 := h1.le'
  clear _c0
  go_enter Try.func7, Try.ntmps7
  go_wp2_with fail
  refine (heavyRows_any v0 l0 w h0).mono ?_
  rintro e w1 ⟨b, rfl, rfl, hl0⟩
  cases b with
  | true => clear hl0; go_wp2; go_ret; exact ⟨rfl, Below.refl _ _⟩
  | false =>
  have hl0 := hl0 rfl
  unfold Light at hl0
  by_cases hl1 : 4000 < l1.length
  · go_wp2
    go_ret
    exact ⟨rfl, Below.refl _ _⟩
  have hl1' : l1.length ≤ 4000 := by omega
  have hrl : (rows l0).length ≤ 40000 := by rcases rows_len l0 with h | h <;> omega
  have hn0 : l0.length ≤ 4000 := by omega
  clear hl1 hl0
  go_wp2
  go_loopw [7, 8] (fun y i wr => ∃ (k : Nat) (L : List UInt8), k ≤ l0.length ∧ i = .int .i64 k ∧ Hid (L = rows (l0.take k)) ∧ Hold w ((Row 5 1 y L.length (u8s L)).sep ((Wr w.heap.size L).sep ((Wr (w.heap.size + 1) []).sep Asrt.emp))) wr) (fun _ i _ => l0.length - (intOf i).toNat)
  case atStart => exact ⟨0, [], Nat.zero_le _, rfl, Lib.hid rfl, ((addWr (addWr (Hold.start w) rfl) (by simp)).up2).addNil _ _⟩
  case round =>
    obtain ⟨k, L, hk, rfl, HL, H⟩ := hrel
    have hLl : L.length ≤ 40000 := by rw [HL.out]; have := take_len l0 k; omega
    by_cases hlt : k < l0.length
    · obtain ⟨A, u, l, hA, hblk, hc, Hl, hul⟩ := h0.at (P := Try.prog) Try.underlying38 Try.size23 k hlt
      have hbl : A.block < w.heap.size := by
        obtain ⟨vs0, hs0, _⟩ := h0
        exact hs0.lt (by omega) _ hblk.symm
      have hst := rows_take_succ hlt
      have hle := take_len l0 (k + 1)
      rw [hst, ← HL.out, ← Hl.out] at hle
      rw [← HL.out, ← Hl.out] at hst
      have Hst := Lib.hid hst
      have hrl2 : (L ++ row l).length ≤ 40000 := by omega
      have hrow : (L ++ row l).length = L.length + ((enc l.length).length + l.length) := by rw [List.length_append, row, List.length_append]
      have hll : l.length ≤ 40000 := by omega
      have hlenl := hul.run_len Try.underlying23
      have Hrow := Lib.hid hrow
      have Hrl2 := Lib.hid hrl2
      have hcr : wr.cell? A = some u := (H.old.cell hbl).trans hc
      have Hc := Lib.hid hc
      clear hst hle hrow hc hrl2
      go_wp2_with fail
      refine (roomy_any u l wr (hul.below' H.old) (by omega)).mono ?_
      rintro e w2 ⟨v2, rfl, ho2, hb2⟩
      have H2 := H.addRow hb2 ho2
      obtain ⟨p2, c2, rfl⟩ := ho2.shape
      have hc2 : w2.cell? A = some u := (H2.old.cell hbl).trans Hc.out
      have hr3 := run_slice_lit (P := Try.prog) ho2 Try.underlying23 Try.size5 l.length (by omega) (.int .i64 (l.length : Int)) ⟨_, rfl⟩
      clear ho2 hb2 hcr
      go_wp2_with fail
      have H3 := (H2.addLits [.slice p2 l.length c2] 23 (by simp [maxLen]) (b := w2.heap.size) rfl).up4
      refine (wbytes_any H3 _ [.slice p2 l.length c2] [l] (readsRows_one (by have := Reads.take (W0 := w) (e := 5) (s := 1) (ao := p2) (cap := c2) (n := l.length + 1) (m := l.length) (xs := u8s (l ++ [171])) (R := (Row 5 1 u7 L.length (u8s L)).sep ((Wr (w.heap.size + 1) []).sep Asrt.emp)) (by omega); rw [u8s_take_app] at this; exact this)) (by have := Hrl2.out; have := Hrow.out; show L.length + (row l ++ []).length + 9 ≤ _; rw [List.append_nil]; rw [List.length_append] at *; omega)).mono ?_
      rintro e w3 ⟨rfl, H4⟩
      have H4 := H4.up2.drop1
      rw [show rows [l] = row l from by show row l ++ [] = _; simp] at H4
      have hc3 : w3.cell? A = some u := (H4.old.cell hbl).trans Hc.out
      clear H2 H3 hr3 hc2
      go_wp2_with fail
      refine (stands_any _ u l w3 (by have := H4.up2.sl; rw [show (l ++ [(171 : UInt8)]).length = l.length + 1 from by simp]; exact this) (hul.below' H4.old)).mono ?_
      rintro e w4 ⟨rfl, hb4⟩
      have H5 := (H4.keeps hb4).up2
      clear H4 hb4 hc3
      go_wp2_with fail
      refine (spoil_any H5 (by omega)).mono ?_
      rintro e w5 ⟨rfl, H6⟩
      have hc5 : w5.cell? A = some u := (H6.old.cell hbl).trans Hc.out
      clear H5
      go_wp2_with fail
      refine (rrow_any u l w5 (hul.below' H6.old) (by omega)).mono ?_
      rintro e w6 ⟨v6, rfl, ho6, hb6⟩
      have H7 := (H6.keeps hb6).up2
      have hs6 := ho6.sl
      clear H6 hb6 ho6 hc5
      go_wp2_with (at_builtin; refine wpList_app el8 H7 rfl _ _ rfl rfl rfl hs6 (u8s_one _) (by have := Hrl2.out; rw [List.length_append] at this; omega) (by have := Hrl2.out; rw [List.length_append] at this; omega) ?_; intro v8 xs8 w8 X8 H8)
      have H9 : Hid (Hold w ((Row 5 1 v8 (L ++ row l).length (u8s (L ++ row l))).sep ((Wr w.heap.size (L ++ row l)).sep ((Wr (w.heap.size + 1) []).sep Asrt.emp))) w8) := by
        refine Lib.hid ?_
        rw [X8.out, ← u8s_append, ← List.length_append] at H8
        exact H8
      clear H8 H7 hs6
      go_roundw
      case rel => exact ⟨k + 1, L ++ row l, by omega, by go_num, Lib.hid Hst.out.symm, H9.out⟩
      case measure => simp [intOf]; omega
    · obtain rfl : k = l0.length := by omega
      rw [List.take_length] at HL
      obtain ⟨vs, hvs⟩ := h0.reads
      have Hv := Lib.hid hvs
      clear hvs
      have HrL : Hid ((rows l0).length = L.length) := Lib.hid (by rw [HL.out])
      go_wp2_with fail
      refine (wbytes_any H.up3 v0 vs l0 (Hv.out _) (by have := HrL.out; simp only [List.length_nil]; omega)).mono ?_
      rintro e w2 ⟨rfl, H2⟩
      rw [List.nil_append, ← HL.out] at H2
      clear H
      go_wp2_with fail
      refine (raw_any H2.up3 v1 l1 (Reads.old h1) (by omega)).mono ?_
      rintro e w3 ⟨rfl, H3⟩
      clear H2
      go_wp2_with fail
      refine (raw_any H3.up2 v1 l1 (Reads.old h1) (by omega)).mono ?_
      rintro e w4 ⟨rfl, H4⟩
      have H5 := H4.up3
      have hs1 := h1.below' H5.old
      clear H3 H4
      go_wp2_with (at_builtin; refine wpList_app el8 H5 rfl _ _ rfl rfl rfl hs1 (u8s_one _) (by omega) (by omega) ?_; intro v8 xs8 w8 X8 H8)
      obtain ⟨M, hM⟩ : ∃ M, M = L ++ l1 := ⟨_, rfl⟩
      have hMl : M.length ≤ 44000 := by rw [hM, List.length_append]; omega
      rw [X8.out, ← u8s_append, ← List.length_append, ← hM] at H8
      have HM := Lib.hid hM
      clear hM X8 H5 hs1
      go_wp2_with fail
      refine (out_any H8.up3 (by omega)).mono ?_
      rintro e w9 ⟨v9, rfl, ho9, hb9⟩
      have H9 := H8.keeps hb9
      go_wp2_with fail
      refine (same_any v9 v8 M M _ ho9.sl H9.sl).mono ?_
      rintro e w10 ⟨rfl, hb10⟩
      have H10 := H9.keeps hb10
      have e5 : decide (M = M) = true := by simp
      rw [e5]
      clear e5 H9 H8 hb9 hb10 ho9
      go_wp2_with fail
      refine (out_any H10.up2 (by omega)).mono ?_
      rintro e w9 ⟨v9, rfl, ho9, hb9⟩
      have H9 := H10.keeps hb9
      go_wp2_with fail
      refine (same_any v9 v8 M M _ ho9.sl H9.sl).mono ?_
      rintro e w11 ⟨rfl, hb11⟩
      have H11 := H9.keeps hb11
      have e5 : decide (M = M) = true := by simp
      rw [e5]
      clear e5 H9 H10 hb9 hb11 ho9
      go_wp2_with fail
      refine (newReader_any H11 v8 M H11.sl (by omega)).mono ?_
      rintro e w12 ⟨vr, rfl, b, rfl, H12⟩
      have H13 := H12.only
      rw [HM.out, HL.out] at H13
      have H14 := Lib.hid H13
      clear H12 H11 H13 HM HL Hv
      go_wp2
      go_loopw [11] (fun i wr => ∃ k : Nat, k ≤ l0.length ∧ i = .int .i64 k ∧ Hold w ((Rd b (rows (l0.drop k) ++ l1) false).sep Asrt.emp) wr) (fun i _ => l0.length - (intOf i).toNat)
      case atStart => exact ⟨0, Nat.zero_le _, rfl, H14.out⟩
      case round =>
        clear H14
        obtain ⟨k, hk, rfl, H⟩ := hrel
        by_cases hlt : k < l0.length
        · obtain ⟨A, u, l, hA, hblk, hc, Hl, hul⟩ := h0.at (P := Try.prog) Try.underlying38 Try.size23 k hlt
          have hbl : A.block < w.heap.size := by
            obtain ⟨vs0, hs0, _⟩ := h0
            exact hs0.lt (by omega) _ hblk.symm
          have hdr := rows_drop hlt
          have hle : (row (l0.getD k [])).length ≤ 40000 := by
            have h1 := take_len l0 (k + 1)
            rw [rows_take_succ hlt, List.length_append] at h1
            omega
          rw [← Hl.out] at hdr hle
          have hll : l.length ≤ 40000 := by
            have : (row l).length = (enc l.length).length + l.length := by simp [row]
            omega
          obtain ⟨e1, e2, e3⟩ := dec_next l (rows (l0.drop (k + 1)) ++ l1) hll
          have hdl : (rows (l0.drop k) ++ l1).length ≤ 44000 := by
            have h2 : (rows (l0.take k) ++ rows (l0.drop k)).length = (rows l0).length := by rw [← rows_append, List.take_append_drop]
            rw [List.length_append] at h2 ⊢
            omega
          rw [hdr, List.append_assoc] at H hdl
          have Hc := Lib.hid hc
          have E1 := Lib.hid e1
          have E2 := Lib.hid e2
          have E3 := Lib.hid e3
          clear hdr hle hc e1 e2 e3
          go_wp2_with fail
          refine (rbytes_any H (by omega)).mono ?_
          rintro e w2 ⟨v2, rfl, H2⟩
          rw [E1.out, E2.out, E3.out] at H2
          have hc2 : w2.cell? A = some u := (H2.old.cell hbl).trans Hc.out
          clear H
          go_wp2_with fail
          refine (same_any v2 u l l _ H2.sl (hul.below' H2.old)).mono ?_
          rintro e w3 ⟨rfl, hb3⟩
          have H3 := H2.keeps hb3
          have e5 : decide (l = l) = true := by simp
          rw [e5]
          clear e5 hb3 H2 hc2
          go_wp2_with fail
          refine (spoil_any H3 (by omega)).mono ?_
          rintro e w4 ⟨rfl, H4⟩
          have H5 := Lib.hid H4
          clear H3 H4
          go_wp2
          go_roundw
          case rel => exact ⟨k + 1, by omega, by go_num, H5.out⟩
          case measure => simp [intOf]; omega
        · obtain rfl : k = l0.length := by omega
          rw [List.drop_length, rows_nil, List.nil_append] at H
          go_wp2_with fail
          refine (left_any H).mono ?_
          rintro e w2 ⟨rfl, rfl⟩
          go_wp2_with fail
          refine (rraw_any H _ (by omega)).mono ?_
          rintro e w3 ⟨v3, rfl, H3⟩
          have e1 : decRaw (l1.length : Int) l1 = some (l1, []) := by simp [decRaw]
          rw [e1] at H3
          have e2 : got [] (some (l1, ([] : List UInt8))) = l1 := rfl
          have e3 : left (some (l1, ([] : List UInt8))) = [] := rfl
          have e4 : (false || (some (l1, ([] : List UInt8))).isNone) = false := rfl
          rw [e2, e3, e4] at H3
          clear e1 e2 e3 e4 H
          go_wp2_with fail
          refine (same_any v3 v1 l1 l1 _ H3.sl (h1.below' H3.old)).mono ?_
          rintro e w4 ⟨rfl, hb4⟩
          have H4 := (H3.keeps hb4).drop1
          have e5 : decide (l1 = l1) = true := by simp
          rw [e5]
          clear e5 hb4 H3
          go_wp2_with fail
          refine (whole_any H4).mono ?_
          rintro e w5 ⟨rfl, rfl⟩
          have e9 : (!false && ([] : List UInt8).isEmpty) = true := by rfl
          rw [e9]
          clear e9
          go_wp2_with fail
          refine (known_any _).mono ?_
          rintro e w9 ⟨rfl, hb9⟩
          have Hfin := Lib.hid (H4.keeps hb9).old
          clear hb9 H4
          go_wp2
          go_ret
          exact ⟨rfl, Hfin.out⟩
end Go.Proofs.Ytmdkgggbibdkmaa.octetRows
