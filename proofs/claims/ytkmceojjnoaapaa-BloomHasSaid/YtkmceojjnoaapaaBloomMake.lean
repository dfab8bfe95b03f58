/-
  Bloom (chapter 6): contracts of Make in the program and in the reference.
-/
import Derived.Test.YtkmceojjnoaapaaBloomWalks
import Derived.StillTailTactics
import Derived.WalkLawsBesides
namespace Go.Proofs.Ytkmceojjnoaapaa.Bloom
open Go.RowKit BloomP L
def keysOf (ss : List ByteArray) : List (List UInt8) := ss.map fun s => s.data.toList
theorem u8s_set (l : List UInt8) (i : Nat) (c : UInt8) : (u8s l).set i (.int .u8 c.toNat) = u8s (l.set i c) := by
  simp [u8s, List.map_set]
theorem setBit_cell (l : List UInt8) (p : Nat) : (u8s l).set (p / 8) (.int .u8 (bits .or .u8 ((l[p / 8]?.getD 0).toNat : Int) ((2 : Int) ^ (p % 8) % 256))) = u8s (setBit l p) := by
  have h8 : p % 8 < 8 := Nat.mod_lt _ (by omega)
  have hc := (l[p / 8]?.getD 0).toNat_lt
  rw [mask_int _ h8, u8_or_nat _ _ (by omega) (mask_lt _ h8), ← mask_toNat _ h8, ← UInt8.toNat_or, u8s_set]
  rfl
theorem setKeys_snoc (m : Nat) (b : List UInt8) (ks : List (List UInt8)) (k : List UInt8) : setKeys m b (ks ++ [k]) = setKey m (setKeys m b ks) k 6 := by simp [setKeys]
theorem keys_take (ss : List ByteArray) (k : Nat) (h : k < ss.length) : (keysOf ss).take (k + 1) = (keysOf ss).take k ++ [(ss.getD k ByteArray.empty).data.toList] := by
  rw [List.take_succ_eq_append_getElem (by simpa [keysOf] using h)]
  simp [keysOf, List.getD, h]
set_option maxHeartbeats 1600000 in
theorem make_any (v : Value) (n : Nat) (ss : List ByteArray) (w : World) (hv : Sl w 1 v n (strs ss)) (hn : n ≤ 1000000) (hs : ∀ s ∈ ss, s.size ≤ 9223372036854775807) :
    Calls Try.prog 8 #[v] w fun e w' => ∃ v', e = .returned v' ∧ w'.ownsRow w.heap.size 5 1 v' (room n) (u8s (make (keysOf ss))) ∧ Below w.heap.size w w' := by
  have hlen := hv.run_len Try.underlying22
  obtain ⟨i5, hi, hz0, hz1, hz2⟩ := info_parts Try.info5
  have hss : Hid (ss.length = n) := by have := hv.length; show _ = _; simpa [strs] using this
  obtain ⟨m, hmm⟩ : ∃ m, m = room n := ⟨_, rfl⟩
  have hmk : Hid (u8s (make (keysOf ss)) = u8s (setKeys (8 * m) (List.replicate m 0) (keysOf ss))) := by show _ = _; rw [hmm]; unfold make; rw [show (keysOf ss).length = n from by simpa [keysOf] using hss.out]
  have hm8 : 8 ≤ m := by rw [hmm]; exact room_pos n
  have hm9 : m ≤ 1250001 := by rw [hmm]; unfold room; omega
  have hz : Hid ((madeCells (Value.int .u8 0).cells (m * 1)).toList = u8s (List.replicate m 0)) := made_u8 m
  have hmr : Hid (m = room n) := hmm
  by_cases hm : (8 : Int) < (10 * (n : Int) + 7) / 8
  all_goals
    go_enter Try.func8, Try.ntmps8
    go_wp2_with (at_make; refine wpList_make_full _ rfl _ _ 24 rfl w.heap.size 5 i5 (.int .u8 0) 1 Try.underlying24 hi hz0 hz1 .i64 .i64 _ _ m rfl rfl (by rw [hmm]; unfold room; omega) (by rw [hmm]; unfold room; omega) (by rw [hz2]; omega) (by unfold maxLen; omega) (Nat.le_refl _) ?_; intro w1 hown hgrow; clear hmm)
    rw [hz.out] at hown
    have hb1 : Below w.heap.size w w1 := (Below.refl _ _).grown hgrow (Nat.le_refl _) (by simp)
    clear hgrow
    go_loopw [17] (fun i wr => ∃ k : Nat, k ≤ n ∧ i = .int .i64 k ∧ wr.ownsRow w.heap.size 5 1 (.slice (some ⟨w.heap.size, 0, none⟩) m m) m (u8s (setKeys (8 * m) (List.replicate m 0) ((keysOf ss).take k))) ∧ Below w.heap.size w wr) (fun i _ => n - (intOf i).toNat)
    case atStart => exact ⟨0, Nat.zero_le _, rfl, hown, hb1⟩
    case round =>
      obtain ⟨k, hk, rfl, hownr, hbr⟩ := hrel
      by_cases hlt : k < n
      · obtain ⟨s, hse⟩ : ∃ s, s = ss.getD k ByteArray.empty := ⟨_, rfl⟩
        obtain ⟨A, hA, hblk, hcell⟩ := run_indexAt_sl (P := Try.prog) (hv.below' hbr) Try.underlying22 Try.size9 .i64 (k : Int) (by omega) (by omega)
        have hc := hcell 0 (by omega)
        rw [strs_get _ _ (by rw [hss.out]; omega)] at hc
        simp only [add_zero, Int.toNat_natCast, Nat.mul_one, Nat.add_zero] at hc
        rw [← hse] at hc
        have hS := Lib.hid hse
        clear hcell hse
        have hsz : s.size ≤ 9223372036854775807 := by
          rw [hS.out]
          apply hs
          rw [List.getD, List.getElem?_eq_getElem (by rw [hss.out]; omega)]
          simp
        go_wp2_with (go_at_call 15; refine (places_any s _ _ hsz (by omega) (by omega)).mono ?_; rintro e w2 ⟨rfl, hb2⟩)
        have hown2 := own_below hownr hb2
        have hbr2 : Below w.heap.size w w2 := hbr.trans (hb2.mono hbr.size)
        have hS2 : Hid (setKeys (8 * m) (List.replicate m 0) ((keysOf ss).take (k + 1)) = setKey (8 * m) (setKeys (8 * m) (List.replicate m 0) ((keysOf ss).take k)) s.data.toList 6) := by
          show _ = _
          rw [keys_take ss k (by rw [hss.out]; omega), setKeys_snoc, ← hS.out]
        obtain ⟨cur, hcur⟩ : ∃ cur, cur = setKeys (8 * m) (List.replicate m 0) ((keysOf ss).take k) := ⟨_, rfl⟩
        rw [← hcur] at hown2
        have hC := Lib.hid hcur
        have hcl : Hid (cur.length = m) := by show _ = _; rw [hcur, setKeys_length]; simp
        clear hcur hown hownr hbr hb2 hb1
        go_loopw [26] (fun i wr => ∃ j : Nat, j ≤ 6 ∧ i = .int .i64 j ∧ wr.ownsRow w.heap.size 5 1 (.slice (some ⟨w.heap.size, 0, none⟩) m m) m (u8s (setKey (8 * m) cur s.data.toList j)) ∧ Below w.heap.size w wr) (fun i _ => 6 - (intOf i).toNat)
        case atStart => exact ⟨0, Nat.zero_le _, rfl, hown2, hbr2⟩
        case round =>
          obtain ⟨j, hj, rfl, hownj, hbj⟩ := hrel
          by_cases hltj : j < 6
          · have hidx := run_index6 (fun i => (place s.data.toList ((m : Int) * 8).toNat i : Nat)) j hltj
            have hp := place_lt s.data.toList j (show 0 < ((m : Int) * 8).toNat by omega)
            obtain ⟨p, hpe⟩ : ∃ p, p = place s.data.toList ((m : Int) * 8).toNat j := ⟨_, rfl⟩
            simp only [← hpe] at hidx hp
            have eplace : place s.data.toList ((m : Int) * 8).toNat j = place s.data.toList (8 * m) j := by congr 1; omega
            have Eplace := Lib.hid eplace
            have HP := Lib.hid hpe
            clear eplace hpe
            have hjl : Hid ((setKey (8 * m) cur s.data.toList j).length = m) := by show _ = _; rw [setKey_length]; exact hcl.out
            obtain ⟨nw, hnw⟩ : ∃ nw, nw = setKey (8 * m) cur s.data.toList j := ⟨_, rfl⟩
            rw [← hnw] at hownj hjl
            have HN := Lib.hid hnw
            clear hnw
            have hcc : wr.cell? ⟨w.heap.size, p / 8, none⟩ = some (.int .u8 (nw[p / 8]?.getD 0).toNat) := by
              rw [hownj.cellAt (p / 8) (by omega)]
              have : p / 8 < nw.length := by rw [hjl.out]; omega
              simp [u8s, this]
            have hff := hownj.frozenAt (p / 8)
            have h7 := i64_and7 p
            have h7b : (0 : Int) ≤ (p : Int) % 8 := by omega
            have h7c : (p : Int) % 8 < 8 := by omega
            go_wp2
            go_region
            go_wp2
            have hst := hownj.stored (p / 8) (.int .u8 (bits .or .u8 ((nw[p / 8]?.getD 0).toNat : Int) ((2 : Int) ^ (p % 8) % 256)))
            rw [setBit_cell] at hst
            have hkey : setKey (8 * m) cur s.data.toList (j + 1) = setBit nw p := by rw [HN.out, HP.out, Eplace.out]; rfl
            go_roundw
            case rel => exact ⟨j + 1, by omega, by go_num, by rw [hkey]; exact hst.1, (hbj.setCell (Nat.le_refl _) _).drew⟩
            case measure => simp [intOf]; omega
          · go_wp2
            obtain rfl : j = 6 := by omega
            go_roundw
            case rel => exact ⟨k + 1, by omega, by go_num, by rw [hS2.out, ← hC.out]; exact hownj, hbj⟩
            case measure => simp [intOf]; omega
      · go_wp2
        go_ret
        obtain rfl : k = n := by omega
        refine ⟨_, rfl, ?_, hbr⟩
        rw [← hmr.out, hmk.out]
        rwa [List.take_of_length_le (by simp [keysOf, hss.out])] at hownr
set_option maxHeartbeats 1600000 in
theorem make_ref (v : Value) (n : Nat) (ss : List ByteArray) (w : World) (hv : Sl w 1 v n (strs ss)) (hn : n ≤ 1000000) (hs : ∀ s ∈ ss, s.size ≤ 9223372036854775807) :
    Calls Try.prog 9 #[v] w fun e w' => ∃ v', e = .returned v' ∧ w'.ownsRow w.heap.size 5 1 v' (room n) (u8s (make (keysOf ss))) ∧ Below w.heap.size w w' := by
  have hlen := hv.run_len Try.underlying22
  obtain ⟨i5, hi, hz0, hz1, hz2⟩ := info_parts Try.info5
  have hss : Hid (ss.length = n) := by have := hv.length; show _ = _; simpa [strs] using this
  obtain ⟨m, hmm⟩ : ∃ m, m = room n := ⟨_, rfl⟩
  have hmk : Hid (u8s (make (keysOf ss)) = u8s (setKeys (8 * m) (List.replicate m 0) (keysOf ss))) := by show _ = _; rw [hmm]; unfold make; rw [show (keysOf ss).length = n from by simpa [keysOf] using hss.out]
  have hm8 : 8 ≤ m := by rw [hmm]; exact room_pos n
  have hm9 : m ≤ 1250001 := by rw [hmm]; unfold room; omega
  have hz : Hid ((madeCells (Value.int .u8 0).cells (m * 1)).toList = u8s (List.replicate m 0)) := made_u8 m
  have hmr : Hid (m = room n) := hmm
  by_cases hm : (8 : Int) < (10 * (n : Int) + 7) / 8
  all_goals
    go_enter Try.func9, Try.ntmps9
    go_wp2_with (at_make; refine wpList_make_full _ rfl _ _ 24 rfl w.heap.size 5 i5 (.int .u8 0) 1 Try.underlying24 hi hz0 hz1 .i64 .i64 _ _ m rfl rfl (by rw [hmm]; unfold room; omega) (by rw [hmm]; unfold room; omega) (by rw [hz2]; omega) (by unfold maxLen; omega) (Nat.le_refl _) ?_; intro w1 hown hgrow; clear hmm)
    rw [hz.out] at hown
    have hb1 : Below w.heap.size w w1 := (Below.refl _ _).grown hgrow (Nat.le_refl _) (by simp)
    clear hgrow
    go_loopw [4] (fun i wr => ∃ k : Nat, k ≤ n ∧ i = .int .i64 k ∧ wr.ownsRow w.heap.size 5 1 (.slice (some ⟨w.heap.size, 0, none⟩) m m) m (u8s (setKeys (8 * m) (List.replicate m 0) ((keysOf ss).take k))) ∧ Below w.heap.size w wr) (fun i _ => n - (intOf i).toNat)
    case atStart => exact ⟨0, Nat.zero_le _, rfl, hown, hb1⟩
    case round =>
      obtain ⟨k, hk, rfl, hownr, hbr⟩ := hrel
      by_cases hlt : k < n
      · obtain ⟨s, hse⟩ : ∃ s, s = ss.getD k ByteArray.empty := ⟨_, rfl⟩
        have hS := Lib.hid hse
        clear hse
        have hsz : s.size ≤ 9223372036854775807 := by
          rw [hS.out]
          apply hs
          rw [List.getD, List.getElem?_eq_getElem (by rw [hss.out]; omega)]
          simp
        go_wp2
        have hS2 : Hid (setKeys (8 * m) (List.replicate m 0) ((keysOf ss).take (k + 1)) = setKey (8 * m) (setKeys (8 * m) (List.replicate m 0) ((keysOf ss).take k)) s.data.toList 6) := by
          show _ = _
          rw [keys_take ss k (by rw [hss.out]; omega), setKeys_snoc, ← hS.out]
        obtain ⟨cur, hcur⟩ : ∃ cur, cur = setKeys (8 * m) (List.replicate m 0) ((keysOf ss).take k) := ⟨_, rfl⟩
        rw [← hcur] at hownr
        have hC := Lib.hid hcur
        have hcl : Hid (cur.length = m) := by show _ = _; rw [hcur, setKeys_length]; simp
        clear hcur hown hb1
        go_loopw [5] (fun i wr => ∃ j : Nat, j ≤ 6 ∧ i = .int .i64 j ∧ wr.ownsRow w.heap.size 5 1 (.slice (some ⟨w.heap.size, 0, none⟩) m m) m (u8s (setKey (8 * m) cur s.data.toList j)) ∧ Below w.heap.size w wr) (fun i _ => 6 - (intOf i).toNat)
        case atStart => exact ⟨0, Nat.zero_le _, rfl, hownr, hbr⟩
        case round =>
          obtain ⟨j, hj, rfl, hownj, hbj⟩ := hrel
          by_cases hltj : j < 6
          · obtain ⟨A, hA, hblk, hcell⟩ := run_indexAt_sl (P := Try.prog) (hv.below' hbj) Try.underlying22 Try.size9 .i64 (k : Int) (by omega) (by omega)
            have hc := hcell 0 (by omega)
            rw [strs_get _ _ (by rw [hss.out]; omega)] at hc
            simp only [add_zero, Int.toNat_natCast, Nat.mul_one, Nat.add_zero] at hc
            rw [← hS.out] at hc
            clear hcell
            have hp := place_lt s.data.toList j (show 0 < (8 * (m : Int)).toNat by omega)
            obtain ⟨p, hpe⟩ : ∃ p, p = place s.data.toList (8 * (m : Int)).toNat j := ⟨_, rfl⟩
            simp only [← hpe] at hp
            have eplace : place s.data.toList (8 * (m : Int)).toNat j = place s.data.toList (8 * m) j := by congr 1
            have Eplace := Lib.hid eplace
            have HP := Lib.hid hpe
            clear eplace hpe
            have hjl : Hid ((setKey (8 * m) cur s.data.toList j).length = m) := by show _ = _; rw [setKey_length]; exact hcl.out
            obtain ⟨nw, hnw⟩ : ∃ nw, nw = setKey (8 * m) cur s.data.toList j := ⟨_, rfl⟩
            rw [← hnw] at hownj hjl
            have HN := Lib.hid hnw
            clear hnw
            have hcc : wr.cell? ⟨w.heap.size, p / 8, none⟩ = some (.int .u8 (nw[p / 8]?.getD 0).toNat) := by
              rw [hownj.cellAt (p / 8) (by omega)]
              have : p / 8 < nw.length := by rw [hjl.out]; omega
              simp [u8s, this]
            have hff := hownj.frozenAt (p / 8)
            have h7b : (0 : Int) ≤ (p : Int) % 8 := by omega
            have h7c : (p : Int) % 8 < 8 := by omega
            go_wp2_with fail
            refine (bit_any s j _ _ hsz (by omega) (by omega) hltj).mono ?_
            rintro e w1 ⟨he, rfl⟩
            rw [← HP.out] at he
            subst he
            go_wp2
            have hst := hownj.stored (p / 8) (.int .u8 (bits .or .u8 ((nw[p / 8]?.getD 0).toNat : Int) ((2 : Int) ^ (p % 8) % 256)))
            rw [setBit_cell] at hst
            have hkey : setKey (8 * m) cur s.data.toList (j + 1) = setBit nw p := by rw [HN.out, HP.out, Eplace.out]; rfl
            go_roundw
            case rel => exact ⟨j + 1, by omega, by go_num, by rw [hkey]; exact hst.1, hbj.setCell (Nat.le_refl _) _⟩
            case measure => simp [intOf]; omega
          · go_wp2
            obtain rfl : j = 6 := by omega
            go_roundw
            case rel => exact ⟨k + 1, by omega, by go_num, by rw [hS2.out, ← hC.out]; exact hownj, hbj⟩
            case measure => simp [intOf]; omega
      · go_wp2
        go_ret
        obtain rfl : k = n := by omega
        refine ⟨_, rfl, ?_, hbr⟩
        rw [← hmr.out, hmk.out]
        rwa [List.take_of_length_le (by simp [keysOf, hss.out])] at hownr
end Go.Proofs.Ytkmceojjnoaapaa.Bloom
