/-
  Encode of chapter 7: what it answers.
-/
import Derived.Test.YtgmnpgohkabfcaaBlockEncPure
import Derived.Test.YtgmnpgohkabfcaaOctetWr
import Derived.Test.YtgmnpgohkabfcaaConv
import Derived.Deep.RegionHeld3
import Derived.Deep.DeepCutAuto
namespace Go.Proofs.Ytgmnpgohkabfcaa.Bl
open Go.RowKit L Oct
/-- what Encode hands back -/
def encR (l : List Cl) : List UInt8 := if riseN l = 0 then encL l else []
def RetEnc (w : World) (l : List Cl) (e : Ending) (w' : World) : Prop := ∃ v, e = .returned (.tuple #[v, .int .i64 (riseN l)]) ∧ Own w' w.heap.size 5 1 v (encR l).length (u8s (encR l)) ∧ Below w.heap.size w w'
def goneN (b : Bool) : Int := if b then 1 else 0
theorem gone_any (b : Bool) (w : World) : Calls Try.prog 30 #[.bool b] w fun e w' => e = .returned (.int .i64 (goneN b)) ∧ w = w' := by
  cases b with
  | true =>
    go_enter Try.func30, Try.ntmps30
    go_wp2
    go_ret
    exact ⟨rfl, rfl⟩
  | false =>
    go_enter Try.func30, Try.ntmps30
    go_wp2
    go_ret
    exact ⟨rfl, rfl⟩
theorem isC_key {c : Cl} (h : isC c = true) : c.key.size ≤ 4096 ∧ c.val.size ≤ 16384 := by
  simp only [isC, Bool.and_eq_true, decide_eq_true_eq] at h
  omega
theorem isC_seq {c : Cl} (h : isC c = true) : 1 ≤ c.seq ∧ c.seq ≤ 1099511627776 := by
  simp only [isC, Bool.and_eq_true, decide_eq_true_eq] at h
  exact ⟨h.1.2, h.2⟩
theorem seq_ok {q : Int} {b : Bool} (h : 1 ≤ q ∧ q ≤ 1099511627776) : ∀ z ∈ [q, goneN b], -9223372036854775808 ≤ z ∧ z ≤ 9223372036854775807 := by
  intro z hz
  simp only [List.mem_cons, List.not_mem_nil, or_false] at hz
  rcases hz with rfl | rfl
  · omega
  · unfold goneN
    split <;> omega
theorem encs_cell (q : Int) (b : Bool) : encs [q, goneN b] = enc (clamp q) ++ enc (if b then 1 else 0) := by
  have h0 : clamp 0 = 0 := by decide
  have h1 : clamp 1 = 1 := by decide
  cases b
  · simp [encs, goneN, h0]
  · simp [encs, goneN, h1]
theorem nAt_le (l : List Cl) (k : Nat) : nAt l k ≤ (l.getD k default).key.size := by
  unfold nAt
  split
  · omega
  · have := (sharedN_le (l.getD (k - 1) default).key.data.toList (l.getD k default).key.data.toList).2.1
    simpa using this
theorem encUp_length (l : List Cl) (h : ∀ c ∈ l, isC c = true) : ∀ k, k ≤ l.length → (encUp l k).length ≤ 21000 * k
  | 0, _ => by simp [encUp]
  | k + 1, hk => by
    have ih := encUp_length l h k (by omega)
    have h1 := isC_key (h (l.getD k default) (by rw [getD_get (show k < l.length by omega)]; exact List.getElem_mem _))
    have h2 := nAt_le l k
    have h3 := encC_length (nAt l k) (l.getD k default) (by omega) (by omega) (by omega)
    rw [encUp, List.length_append]
    omega
theorem riseN_all {l : List Cl} (h : riseN l = 0) : ∀ c ∈ l, isC c = true := by
  unfold riseN at h
  cases ha : l.all isC with
  | false => simp [ha] at h
  | true => exact List.all_eq_true.1 ha
theorem byts_from (s : ByteArray) (n : Nat) : byts (s.extract n s.size) = (byts s).drop n := by
  simp [byts, ByteArray.data_extract, Array.toList_extract, List.extract_eq_take_drop]
  rw [List.take_of_length_le (by simp)]
theorem rows_one (l : List UInt8) : rows [l] = row l := by simp [rows]
theorem riseN_small (l : List Cl) : riseN l ≤ 11 := by unfold riseN; split <;> (try split) <;> omega
set_option maxRecDepth 100000 in
set_option maxHeartbeats 1600000 in
theorem encode_any (v : Value) (l : List Cl) (w : World) (h : Sl w 4 v l.length (cls l)) (hn : l.length ≤ 100000) : Calls Try.prog 11 #[v] w (RetEnc w l) := by
  have hlen := h.run_len Try.underlying22
  have hr11 := riseN_small l
  go_enter Try.func11, Try.ntmps11
  go_wp2_with fail
  refine (rises_any v l w h).mono ?_
  rintro e w1 ⟨rfl, hb1⟩
  by_cases hr : riseN l = 0
  · have hz : ((riseN l : Int) != 0) = false := by simp [hr]
    have H0 := addWr ((Hold.start w).keeps hb1) (b := w1.heap.size) rfl
    have Hr := Lib.hid hr
    have Hall := Lib.hid (riseN_all hr)
    clear hr hb1
    go_wp2
    go_loopw [16] (fun i wr => ∃ k : Nat, k ≤ l.length ∧ i = .int .i64 k ∧ Hold w ((Wr w1.heap.size (encUp l k)).sep Asrt.emp) wr) (fun i _ => l.length - (intOf i).toNat)
    case atStart => exact ⟨0, Nat.zero_le _, rfl, H0⟩
    case round =>
      clear H0
      obtain ⟨k, hk, rfl, H⟩ := hrel
      by_cases hlt : k < l.length
      · obtain ⟨A, c, hA, _, hcells, Hc⟩ := (h.below' H.old).atCl (P := Try.prog) Try.underlying22 Try.size36 k _ rfl hlt
        obtain ⟨c0, c1, c2, c3⟩ := hcells
        have hlen2 : (encUp l k).length ≤ 21000 * k := encUp_length l Hall.out k (by omega)
        have hck := isC_key (Hall.out c (by rw [Hc.out, getD_get hlt]; exact List.getElem_mem hlt))
        have Hsq := Lib.hid (isC_seq (Hall.out c (by rw [Hc.out, getD_get hlt]; exact List.getElem_mem hlt)))
        have HB := Lib.hid (H.addBlk (cs := #[.string c.key, .string c.val, .bool c.del, .int .i64 c.seq]) (t := 36) (b := wr.heap.size) rfl)
        go_upto_if 23 with fail
        obtain ⟨b7, hb7⟩ : ∃ b7, b7 = wr.heap.size := ⟨_, rfl⟩
        obtain ⟨w2, hw2⟩ : ∃ w2, w2 = wr.alloc (.cells #[.string c.key, .string c.val, .bool c.del, .int .i64 c.seq] 36) := ⟨_, rfl⟩
        rw [← hb7, ← hw2] at HB
        rw [← hb7, ← hw2]
        clear hb7 hw2
        go_cut [8] (fun s8 wc => ∃ n : Nat, s8 = .int .i64 n ∧ Hid (n = nAt l k) ∧ Hold w ((Blk b7 #[.string c.key, .string c.val, .bool c.del, .int .i64 c.seq] 36).sep ((Wr w1.heap.size (encUp l k)).sep Asrt.emp)) wc)
        case first =>
          clear c0 c1 c2 c3 H
          by_cases h4 : k % 4 = 0
          · have h4z : ((k : Int) % 4 != 0) = false := by simp; omega
            have hN : Hid (nAt l k = 0) := Lib.hid (by rw [nAt, if_pos h4])
            clear h4
            go_wp2
            go_meet
            exact ⟨0, rfl, Lib.hid hN.out.symm, HB.out⟩
          · have h4z : ((k : Int) % 4 != 0) = true := by simp; omega
            have hN : Hid (nAt l k = sharedN (l.getD (k - 1) default).key.data.toList c.key.data.toList) := Lib.hid (by rw [nAt, if_neg h4, Hc.out])
            have hk1 : 1 ≤ k := by omega
            clear h4
            obtain ⟨A', c', hA', _, hcells', Hc'⟩ := (h.below' HB.out.old).atCl (P := Try.prog) Try.underlying22 Try.size36 (k - 1) ((k : Int) - 1) (by omega) (by omega)
            have hck' := isC_key (Hall.out c' (by rw [Hc'.out, getD_get (show k - 1 < l.length by omega)]; exact List.getElem_mem _))
            have c0' := hcells'.key
            have d0 := blk_cell HB.out.blk 0
            have h01 : (0 : Int) ≤ (k : Int) - 1 := by omega
            have hwr : IntKind.i64.wrap ((k : Int) - 1) = (k : Int) - 1 := IntWalk.i64_in _ (by omega)
            clear hcells'
            go_wp2_with fail
            go_region_held3 (fun w' => w'.cell? A' = some (.string c'.key) ∧ w'.cell? ⟨b7, 0, none⟩ = some (.string c.key)) (go_keep)
              (first | (go_at_call 27; refine (shared_any c'.key c.key _ (by omega)).mono ?_; rintro e w3 ⟨rfl, q, rfl⟩))
            go_wp2_with fail
            go_meet
            exact ⟨_, rfl, Lib.hid (by rw [hN.out, Hc'.out]), HB.out.keeps (below_drewN (Below.refl _ _) _)⟩
        case rest =>
          clear HB H
          obtain ⟨n, rfl, Hn, H2⟩ := hcut
          have hnl := nAt_le l k
          rw [← Hn.out, ← Hc.out] at hnl
          have hcl : Hid (clamp (n : Int) = n) := Lib.hid (by unfold clamp; omega)
          go_wp2_with fail
          have H3 := (H2.up2.addLits [.int .i64 n] 3 (by simp [maxLen]) (b := wc.heap.size) rfl).up2
          refine (nums_any H3 _ [(n : Int)] Reads.row (by intro z hz; simp at hz; subst hz; omega) (by simp only [List.length_singleton]; omega)).mono ?_
          rintro e w3 ⟨rfl, H4⟩
          rw [show encs [(n : Int)] = enc n from by simp [encs, hcl.out]] at H4
          have H5 := H4.up2.drop1
          have k0 := blk_cell H5.up2.blk 0
          clear H2 H3 H4
          have hxs : (c.key.extract n c.key.size).size ≤ 4096 := by rw [ByteArray.size_extract]; omega
          have Hxs : Hid (byts (c.key.extract n c.key.size) = (byts c.key).drop n) := Lib.hid (byts_from c.key n)
          have h9n := enc_le9 (u := n) (by omega)
          have h9d := enc_le9 (u := c.key.size - n) (by omega)
          have h9x := enc_le9 (u := (c.key.extract n c.key.size).size) (by omega)
          go_wp2_with (with_reducible refine wpList_conv H5 rfl _ rfl (c.key.extract n c.key.size) rfl Try.underlying9 Try.underlying24 Try.underlying5 (by omega) ?_; intro v4 w4 H6; obtain ⟨ao4, cap4, rfl⟩ := H6.own.shape; clear H5)
          have H7 := (H6.addLits [.slice ao4 (byts (c.key.extract n c.key.size)).length cap4] 24 (by simp [maxLen]) (b := w4.heap.size) rfl).up3
          clear H6
          refine (wbytes_any H7 _ _ [byts (c.key.extract n c.key.size)] (readsRows_one Reads.row) (by simp only [List.length_append, rows_one, row, byts_length]; omega)).mono ?_
          rintro e w5 ⟨rfl, H8⟩
          have H9 := H8.up2.drop1.up2.drop1
          rw [rows_one, Hxs.out] at H9
          have k3 := blk_cell H9.up2.blk 3
          have k2 := blk_cell H9.up2.blk 2
          clear H7 H8
          go_wp2_with fail
          go_region_held3 (fun w' => w'.cell? ⟨b7, 3, none⟩ = some (.int .i64 c.seq) ∧ w'.cell? ⟨b7, 2, none⟩ = some (.bool c.del)) (go_keep)
            (first
              | (go_at_call 30; refine (gone_any _ _).mono ?_; rintro e w3 ⟨rfl, rfl⟩)
              | (go_at_call 28; refine (nums_any ((H9.addLits [.int .i64 c.seq, .int .i64 (goneN c.del)] 3 (by simp [maxLen]) (b := w5.heap.size) rfl).up2).drew _ [c.seq, goneN c.del] Reads.row (seq_ok Hsq.out) (by simp only [List.length_append, List.length_cons, List.length_nil, row, List.length_drop, byts_length]; omega)).mono ?_; rintro e w6 ⟨rfl, H10⟩; have H11 := H10.up2.drop1; have k6 := blk_cell H11.up2.blk 3; have k7 := blk_cell H11.up2.blk 2; have k8 := blk_cell H11.up2.blk 1; clear H10 k3 k2))
          have H12 := Lib.hid H11
          clear H9 H11
          cases hdel : c.del with
          | true =>
            rw [hdel] at k7 H12
            have HF : Hid (Hold w ((Wr w1.heap.size (encUp l (k + 1))).sep Asrt.emp) w6) := Lib.hid (by
              have := H12.out.up2.drop1
              rw [encs_cell] at this
              rw [encUp, ← Hc.out, ← Hn.out, encC, hdel]
              simpa [List.append_assoc, byts] using this)
            clear hdel
            go_wp2_with fail
            go_roundw
            case rel => exact ⟨k + 1, by omega, by go_num, HF.out⟩
            case measure => simp [intOf]; omega
          | false =>
            rw [hdel] at k7 H12
            have Hv := Lib.hid H12.out
            have h9v := enc_le9 (u := c.val.size) (by omega)
            have h9s := enc_le9 (clamp_le c.seq)
            have h90 := enc_le9 (u := 0) (by omega)
            have hdel' := Lib.hid hdel
            clear hdel H12
            go_wp2_with (with_reducible refine wpList_conv Hv.out rfl _ rfl c.val rfl Try.underlying9 Try.underlying24 Try.underlying5 (by omega) ?_; intro v7 w7 H13; obtain ⟨ao7, cap7, rfl⟩ := H13.own.shape; clear Hv)
            have H14 := (H13.addLits [.slice ao7 (byts c.val).length cap7] 24 (by simp [maxLen]) (b := w7.heap.size) rfl).up3
            clear H13
            refine (wbytes_any H14 _ _ [byts c.val] (readsRows_one Reads.row) (by rw [encs_cell]; simp only [List.length_append, rows_one, row, List.length_drop, byts_length]; simp; omega)).mono ?_
            rintro e w8 ⟨rfl, H15⟩
            have HF : Hid (Hold w ((Wr w1.heap.size (encUp l (k + 1))).sep Asrt.emp) w8) := Lib.hid (by
              have := H15.up2.drop1.up2.drop1.up2.drop1
              rw [encs_cell, rows_one] at this
              rw [encUp, ← Hc.out, ← Hn.out, encC, hdel'.out]
              simpa [List.append_assoc, byts] using this)
            clear H14 H15
            go_wp2_with fail
            go_roundw
            case rel => exact ⟨k + 1, by omega, by go_num, HF.out⟩
            case measure => simp [intOf]; omega
      · obtain rfl : k = l.length := by omega
        have hle : (encUp l l.length).length ≤ 21000 * l.length := encUp_length l Hall.out _ (Nat.le_refl _)
        have hR : Hid (encR l = encUp l l.length) := Lib.hid (by rw [encR, if_pos Hr.out, encL])
        go_wp2_with fail
        refine (out_any H (by omega)).mono ?_
        rintro e w2 ⟨v', rfl, ho, hb⟩
        have HO := Lib.hid ho
        have hbl := (H.keeps hb).old
        clear ho hb hlt hk hle
        go_wp2
        go_ret2
        exact ⟨_, by rw [Hr.out]; rfl, by rw [hR.out]; exact HO.out.from fun k hk => Nat.le_trans H.old.size (HO.out.lt k hk).1, hbl⟩
  · have hz : ((riseN l : Int) != 0) = true := by simp [hr]
    have hR : Hid (encR l = []) := Lib.hid (by rw [encR, if_neg hr])
    clear hr
    go_wp2
    go_ret2
    exact ⟨_, rfl, by rw [hR.out]; exact Own.nil _ _ _ _, hb1⟩
end Go.Proofs.Ytgmnpgohkabfcaa.Bl
