/-
  'cell' of chapter 7: the cell that is taken behind one of a key.
-/
import Derived.Test.YtgmnpgohkabfcaaBlockDecPure
import Derived.Test.YtgmnpgohkabfcaaOctetRdNums
import Derived.Test.YtgmnpgohkabfcaaOctetRd2
import Derived.Test.YtgmnpgohkabfcaaAssoc
namespace Go.Proofs.Ytgmnpgohkabfcaa.Bl
open Go.RowKit L Oct
/-- one number's variable, when k numbers were taken -/
def T1 (bn : Nat) (l : List UInt8) (bad : Bool) (k : Nat) : Asrt := Blk bn #[.int .i64 (if k = 0 then 0 else takesAt l bad 0)] 3
theorem t1_step (bn : Nat) (l : List UInt8) (bad : Bool) (W0 : World) : ∀ k, k < 1 → ∀ (w : World) (Q : Asrt), Hold W0 ((T1 bn l bad k).sep Q) w →
    (([.pointer (some ⟨bn, 0, none⟩)] : List Value).getD k undef = .pointer none ∧ Hold W0 ((T1 bn l bad (k + 1)).sep Q) w) ∨
    ∃ A old, ([.pointer (some ⟨bn, 0, none⟩)] : List Value).getD k undef = .pointer (some A) ∧ w.cell? A = some old ∧ w.frozen? A = false ∧ Hold W0 ((T1 bn l bad (k + 1)).sep Q) (w.setCell A (.int .i64 (takesAt l bad k))) := by
  intro k hk w Q h
  match k, hk with
  | 0, _ =>
    exact .inr ⟨⟨bn, 0, none⟩, _, rfl, blk_cell h.blk 0, blk_free h.blk 0, h.setBlk 0 _⟩
/-- a cell's number and another variable, when k numbers were taken -/
def T2 (bc bd : Nat) (key : ByteArray) (l : List UInt8) (bad : Bool) (k : Nat) : Asrt :=
  (Blk bc #[.string key, .string ⟨#[]⟩, .bool false, .int .i64 (if k = 0 then 0 else takesAt l bad 0)] 36).sep (Blk bd #[.int .i64 (if k < 2 then 0 else takesAt l bad 1)] 3)
theorem t2_step (bc bd : Nat) (key : ByteArray) (l : List UInt8) (bad : Bool) (W0 : World) : ∀ k, k < 2 → ∀ (w : World) (Q : Asrt), Hold W0 ((T2 bc bd key l bad k).sep Q) w →
    (([.pointer (some ⟨bc, 3, none⟩), .pointer (some ⟨bd, 0, none⟩)] : List Value).getD k undef = .pointer none ∧ Hold W0 ((T2 bc bd key l bad (k + 1)).sep Q) w) ∨
    ∃ A old, ([.pointer (some ⟨bc, 3, none⟩), .pointer (some ⟨bd, 0, none⟩)] : List Value).getD k undef = .pointer (some A) ∧ w.cell? A = some old ∧ w.frozen? A = false ∧ Hold W0 ((T2 bc bd key l bad (k + 1)).sep Q) (w.setCell A (.int .i64 (takesAt l bad k))) := by
  intro k hk w Q h
  have h1 := Hold.assoc.1 h
  match k, hk with
  | 0, _ =>
    exact .inr ⟨⟨bc, 3, none⟩, _, rfl, blk_cell h1.blk 3, blk_free h1.blk 3, Hold.assoc.2 (h1.setBlk 3 _)⟩
  | 1, _ =>
    exact .inr ⟨⟨bd, 0, none⟩, _, rfl, blk_cell h1.up2.blk 0, blk_free h1.up2.blk 0, Hold.assoc.2 (h1.up2.setBlk 0 _).up2⟩
def RetCell (W0 : World) (R : Asrt) (b : Nat) (D : Cl × List UInt8 × Bool) (e : Ending) (w' : World) : Prop := e = .returned D.1.agg ∧ Hold W0 ((Rd b D.2.1 D.2.2).sep R) w'
set_option maxRecDepth 100000 in
set_option maxHeartbeats 1600000 in
theorem cell_any {W0 w : World} {R : Asrt} {b : Nat} {l : List UInt8} {bad : Bool} (H : Hold W0 ((Rd b l bad).sep R) w) (ahead : ByteArray) (hl : l.length ≤ 140737488355328) (ha : ahead.size ≤ 140737488355328) :
    Calls Try.prog 37 #[.pointer (some ⟨b, 0, none⟩), .string ahead] w (RetCell W0 R b (cellD ahead l bad)) := by
  have H1 := ((H.addBlk (cs := #[.string ⟨#[]⟩, .string ⟨#[]⟩, .bool false, .int .i64 0]) (t := 36) (b := w.heap.size) rfl).addBlk (cs := #[.int .i64 0]) (t := 3) (b := w.heap.size + 1) (by simp)).addBlk (cs := #[.int .i64 0]) (t := 3) (b := w.heap.size + 1 + 1) (by simp)
  have HH := Lib.hid (H1.addLits [.pointer (some ⟨w.heap.size + 1, 0, none⟩)] 79 (by simp [maxLen]) (b := w.heap.size + 1 + 1 + 1) (by simp))
  clear H1
  go_enter Try.func37, Try.ntmps37
  go_wp2_with fail
  obtain ⟨bc, hbc⟩ : ∃ bc, bc = w.heap.size := ⟨_, rfl⟩
  obtain ⟨bn, hbn⟩ : ∃ bn, bn = w.heap.size + 1 := ⟨_, rfl⟩
  obtain ⟨bd, hbd⟩ : ∃ bd, bd = w.heap.size + 1 + 1 := ⟨_, rfl⟩
  rw [← hbd, ← hbn, ← hbc] at HH
  rw [← hbd, ← hbn, ← hbc]
  have H2 := HH.out.up5.up4
  refine (rnumsTo_any (T1 bn l bad) [.pointer (some ⟨bn, 0, none⟩)] _ (l := l) (bad := bad) H2 hl Reads.row (t1_step bn l bad W0)).mono ?_
  rintro e w1 ⟨rfl, H3a⟩
  have H3 : Hold W0 ((Blk bn #[.int .i64 (takesAt l bad 0)] 3).sep ((Rd b (left (dec 0 0 l)) (bad || (dec 0 0 l).isNone)).sep _)) w1 := H3a
  have H4 := H3.up3.drop1
  clear HH H2 H3a H3 H hbc hbn hbd
  have hl1 := left_dec' l
  obtain ⟨l1, hl1e⟩ : ∃ l1, l1 = left (dec 0 0 l) := ⟨_, rfl⟩
  obtain ⟨b1, hb1e⟩ : ∃ b1, b1 = (bad || (dec 0 0 l).isNone) := ⟨_, rfl⟩
  obtain ⟨n, hn⟩ : ∃ n, n = takesAt l bad 0 := ⟨_, rfl⟩
  rw [← hl1e, ← hb1e, ← hn] at H4
  rw [← hl1e] at hl1
  have Hn : Hid (n = got 0 (dec 0 0 l)) := Lib.hid hn
  have Hl1 := Lib.hid hl1e
  have Hb1 := Lib.hid hb1e
  clear hn hl1e hb1e
  go_wp2_with fail
  refine (rbytes_any H4.up2 (by omega)).mono ?_
  rintro e w2 ⟨v2, rfl, H5⟩
  obtain ⟨ao2, cap2, rfl⟩ := H5.own.shape
  have kn := blk_cell H5.up3.blk 0
  have hl2 := left_decRow l1
  have hx2 := got_decRow l1
  obtain ⟨l2, hl2e⟩ : ∃ l2, l2 = left (decRow l1) := ⟨_, rfl⟩
  obtain ⟨b2, hb2e⟩ : ∃ b2, b2 = (b1 || (decRow l1).isNone) := ⟨_, rfl⟩
  obtain ⟨x, hx⟩ : ∃ x, x = got [] (decRow l1) := ⟨_, rfl⟩
  rw [← hl2e, ← hb2e, ← hx] at H5
  rw [← hl2e] at hl2
  rw [← hx] at hx2
  rw [← hx]
  have Hl2 := Lib.hid hl2e
  have Hb2 := Lib.hid hb2e
  have Hx := Lib.hid hx
  clear hl2e hb2e hx H4
  by_cases hah : ahead.size < n
  · have hg : decide ((ahead.size : Int) < (n : Int)) = true := by simpa using hah
    have hg' : decide (ahead.size < n) = true := by simpa using hah
    have hD : Hid (cellD ahead l bad = (default, [], true)) := Lib.hid (by unfold cellD; simp only; rw [if_pos (by rw [← Hn.out]; exact hah)])
    clear hah
    go_wp2_with fail
    refine (bad_any H5.up2).mono ?_
    rintro e w3 ⟨rfl, H6⟩
    have H7 := H6.perm (B := (Blk bc #[.string ⟨#[]⟩, .string ⟨#[]⟩, .bool false, .int .i64 0] 36).sep ((Rd b [] true).sep (R.sep ((Row 5 1 (.slice ao2 x.length cap2) x.length (u8s x)).sep ((Blk bn #[.int .i64 n] 3).sep (Blk bd #[.int .i64 0] 3)))))) (by ac_rfl)
    have k0 := blk_cell H7.blk 0
    have k1 := blk_cell H7.blk 1
    have k2 := blk_cell H7.blk 2
    have k3 := blk_cell H7.blk 3
    have f0 := blk_free H7.blk 0
    have f1 := blk_free H7.blk 1
    have f2 := blk_free H7.blk 2
    have f3 := blk_free H7.blk 3
    have s0 := blk_same H7.blk 0 (v := .string ⟨#[]⟩) rfl
    have s1 := blk_same H7.blk 1 (v := .string ⟨#[]⟩) rfl
    have s2 := blk_same H7.blk 2 (v := .bool false) rfl
    have s3 := blk_same H7.blk 3 (v := .int .i64 0) rfl
    have HF := Lib.hid (H7.drop1.perm (B := ((Row 5 1 (.slice ao2 x.length cap2) x.length (u8s x)).sep ((Blk bn #[.int .i64 n] 3).sep (Blk bd #[.int .i64 0] 3))).sep ((Rd b [] true).sep R)) (by ac_rfl)).drop1
    clear H5 H6 H7 kn
    go_wp2
    refine bodyPost_ret (v := .agg #[.string ⟨#[]⟩, .string ⟨#[]⟩, .bool false, .int .i64 0]) (by simp [results, Try.results37, go_sem, k0, k1, k2, k3]) rfl ⟨by rw [hD.out]; rfl, by rw [hD.out]; exact HF.out⟩
  · have hg : decide ((ahead.size : Int) < (n : Int)) = false := by simpa using hah
    have hg' : decide (ahead.size < n) = false := by simpa using hah
    have hD : Hid (cellD ahead l bad = if got 0 (dec 0 0 (left (dec 0 0 l2))) = 0 then (⟨ahead.extract 0 n ++ ⟨x.toArray⟩, ⟨(got [] (decRow (left (dec 0 0 (left (dec 0 0 l2)))))).toArray⟩, false, ((got 0 (dec 0 0 l2) : Nat) : Int)⟩, left (decRow (left (dec 0 0 (left (dec 0 0 l2))))), (takes l2 b2 2).2 || (decRow (left (dec 0 0 (left (dec 0 0 l2))))).isNone)
        else (⟨ahead.extract 0 n ++ ⟨x.toArray⟩, ByteArray.empty, true, ((got 0 (dec 0 0 l2) : Nat) : Int)⟩, left (dec 0 0 (left (dec 0 0 l2))), (takes l2 b2 2).2)) := Lib.hid (by
      unfold cellD
      simp only [← Hn.out, ← Hl1.out, ← Hb1.out, ← Hl2.out, ← Hx.out, ← Hb2.out]
      rw [if_neg hah]
      rfl)
    have hcv := H5.own.sl.run_string (src := 24) (dst := 9) Try.underlying24 Try.underlying5 Try.underlying9
    have hcv' : (convert 24 9 (.slice ao2 x.length cap2)).run Try.prog w2.drew = .ok (.string ⟨x.toArray⟩) w2.drew := (Sl.drew H5.own.sl).run_string (src := 24) (dst := 9) Try.underlying24 Try.underlying5 Try.underlying9
    have H6 := H5.perm (B := (Blk bc #[.string ⟨#[]⟩, .string ⟨#[]⟩, .bool false, .int .i64 0] 36).sep ((Blk bd #[.int .i64 0] 3).sep ((Rd b l2 b2).sep (((Row 5 1 (.slice ao2 x.length cap2) x.length (u8s x)).sep (Blk bn #[.int .i64 n] 3)).sep R)))) (by ac_rfl)
    have k0 := blk_cell H6.blk 0
    have f0 := blk_free H6.blk 0
    have H7 := Lib.hid (H6.setBlk 0 (.string (ahead.extract 0 n ++ ⟨x.toArray⟩)))
    clear hah H5
    have hn0 : (0 : Int) ≤ (n : Int) := by omega
    have hn1 : (n : Int) ≤ (ahead.size : Int) := by simpa using hg'
    go_wp2_with fail
    have hadd : (ahead.extract 0 n).size + (ByteArray.mk x.toArray).size ≤ 9223372036854775807 := by
      have e1 : (ahead.extract 0 n).size = n := by rw [ByteArray.size_extract]; omega
      have e2 : (ByteArray.mk x.toArray).size = x.length := by simp [ByteArray.size]
      omega
    have hrun := fun w' : World => run_string_add_sum (P := Try.prog) (w := w') _ _ hadd
    have H8 := Hold.assoc.1 H7.out.up4.drew
    have e1 := blk_cell H8.up2.blk 0
    have e2 := H8.own.sl.run_string (src := 24) (dst := 9) Try.underlying24 Try.underlying5 Try.underlying9
    have E := Lib.hid (And.intro e1 e2)
    clear hadd e1 e2 H8
    go_region_held3 (fun w' => w'.cell? ⟨bn, 0, none⟩ = some (.int .i64 n) ∧ (convert 24 9 (.slice ao2 x.length cap2)).run Try.prog w' = .ok (.string ⟨x.toArray⟩) w') (first | exact E.out | go_keep) (fail)
    obtain ⟨K, hK⟩ : ∃ K, K = ahead.extract 0 n ++ ⟨x.toArray⟩ := ⟨_, rfl⟩
    obtain ⟨w3, hw3⟩ : ∃ w3, w3 = (w2.setCell ⟨bc, 0, none⟩ (.string (ahead.extract 0 n ++ ⟨x.toArray⟩))).drew := ⟨_, rfl⟩
    have H9 : Hold W0 ((Blk bc #[.string K, .string ⟨#[]⟩, .bool false, .int .i64 0] 36).sep ((Blk bd #[.int .i64 0] 3).sep ((Rd b l2 b2).sep (((Row 5 1 (.slice ao2 x.length cap2) x.length (u8s x)).sep (Blk bn #[.int .i64 n] 3)).sep R)))) w3 := by rw [hw3, hK]; exact H7.out.drew
    rw [← hK] at hD
    rw [← hw3]
    clear hrun E H7 H6 hcv hcv' kn k0 f0 hn0 hn1 hg hg'
    clear hK hw3
    go_wp2_with fail
    have H10 := (H9.addLits [.pointer (some ⟨bc, 3, none⟩), .pointer (some ⟨bd, 0, none⟩)] 79 (by simp [maxLen]) (b := w3.heap.size) rfl).perm (B := ((Blk bc #[.string K, .string ⟨#[]⟩, .bool false, .int .i64 0] 36).sep (Blk bd #[.int .i64 0] 3)).sep ((Rd b l2 b2).sep ((Row 79 1 (.slice (some ⟨w3.heap.size, 0, none⟩) 2 2) 2 [.pointer (some ⟨bc, 3, none⟩), .pointer (some ⟨bd, 0, none⟩)]).sep (((Row 5 1 (.slice ao2 x.length cap2) x.length (u8s x)).sep (Blk bn #[.int .i64 n] 3)).sep R)))) (by simp only [List.length_cons, List.length_nil]; ac_rfl)
    refine (rnumsTo_any (T2 bc bd K l2 b2) [.pointer (some ⟨bc, 3, none⟩), .pointer (some ⟨bd, 0, none⟩)] _ (l := l2) (bad := b2) H10 (by omega) Reads.row (t2_step bc bd K l2 b2 W0)).mono ?_
    rintro e w4 ⟨rfl, H11a⟩
    have H11 : Hold W0 (((Blk bc #[.string K, .string ⟨#[]⟩, .bool false, .int .i64 (got 0 (dec 0 0 l2) : Nat)] 36).sep (Blk bd #[.int .i64 (got 0 (dec 0 0 (left (dec 0 0 l2))) : Nat)] 3)).sep ((Rd b (left (dec 0 0 (left (dec 0 0 l2)))) (takes l2 b2 2).2).sep _)) w4 := H11a
    have hl3 := left_dec' l2
    have hl4 := left_dec' (left (dec 0 0 l2))
    obtain ⟨q, hq⟩ : ∃ q, q = got 0 (dec 0 0 l2) := ⟨_, rfl⟩
    obtain ⟨d, hd⟩ : ∃ d, d = got 0 (dec 0 0 (left (dec 0 0 l2))) := ⟨_, rfl⟩
    obtain ⟨l4, hl4e⟩ : ∃ l4, l4 = left (dec 0 0 (left (dec 0 0 l2))) := ⟨_, rfl⟩
    obtain ⟨b4, hb4e⟩ : ∃ b4, b4 = (takes l2 b2 2).2 := ⟨_, rfl⟩
    rw [← hq, ← hd, ← hl4e, ← hb4e] at H11 hD
    rw [← hl4e] at hl4
    have H12 := Hold.assoc.1 H11
    have kd := blk_cell H12.up2.blk 0
    have k2 := blk_cell H12.blk 2
    have f2 := blk_free H12.blk 2
    clear H9 H10 H11a H11 hq hd hl4e hb4e
    by_cases hdz : d = 0
    · have hz : ((d : Int) != 0) = false := by simpa using hdz
      have hD2 := Lib.hid (hD.out.trans (if_pos hdz))
      clear hdz hD
      have H13 : Hold W0 ((Blk bc #[.string K, .string ⟨#[]⟩, .bool false, .int .i64 q] 36).sep _) (w4.setCell ⟨bc, 2, none⟩ (.bool false)) := H12.setBlk 2 (.bool false)
      have hd2 := blk_cell H13.blk 2
      have hf1 := blk_free H13.blk 1
      have H14 := Lib.hid H13.up3
      clear H12 H13
      go_wp2_with fail
      refine (rbytes_any H14.out (by omega)).mono ?_
      rintro e w6 ⟨v6, rfl, H15⟩
      obtain ⟨ao6, cap6, rfl⟩ := H15.own.shape
      have hcv := H15.own.sl.run_string (src := 24) (dst := 9) Try.underlying24 Try.underlying5 Try.underlying9
      have H16 := H15.up3
      have kf1 := blk_free H16.blk 1
      have kk1 := blk_cell H16.blk 1
      have H17 := Lib.hid (H16.setBlk 1 (.string ⟨(got [] (decRow l4)).toArray⟩))
      clear H14 H15 H16 hd2 hf1
      go_upto_region 12 with fail
      obtain ⟨w7, hw7⟩ : ∃ w7, w7 = w6.setCell ⟨bc, 1, none⟩ (.string ⟨(got [] (decRow l4)).toArray⟩) := ⟨_, rfl⟩
      have HZ0 := H17.out
      rw [← hw7] at HZ0
      have HZ : Hold W0 ((Blk bc #[.string K, .string ⟨(got [] (decRow l4)).toArray⟩, .bool false, .int .i64 q] 36).sep _) w7 := HZ0
      rw [← hw7]
      clear hw7
      have k0 := blk_cell HZ.blk 0
      have k1 := blk_cell HZ.blk 1
      have k2 := blk_cell HZ.blk 2
      have k3 := blk_cell HZ.blk 3
      have f0 := blk_free HZ.blk 0
      have f1 := blk_free HZ.blk 1
      have f2 := blk_free HZ.blk 2
      have f3 := blk_free HZ.blk 3
      have s0 := blk_same HZ.blk 0 (v := .string K) rfl
      have s1 := blk_same HZ.blk 1 (v := .string ⟨(got [] (decRow l4)).toArray⟩) rfl
      have s2 := blk_same HZ.blk 2 (v := .bool false) rfl
      have s3 := blk_same HZ.blk 3 (v := .int .i64 q) rfl
      have HF := Lib.hid (HZ.drop1.perm (B := ((Row 5 1 (.slice ao6 (got [] (decRow l4)).length cap6) (got [] (decRow l4)).length (u8s (got [] (decRow l4)))).sep ((Blk bd #[.int .i64 d] 3).sep ((Row 79 1 (.slice (some ⟨w3.heap.size, 0, none⟩) 2 2) 2 [.pointer (some ⟨bc, 3, none⟩), .pointer (some ⟨bd, 0, none⟩)]).sep ((Row 5 1 (.slice ao2 x.length cap2) x.length (u8s x)).sep (Blk bn #[.int .i64 n] 3))))).sep ((Rd b (left (decRow l4)) (b4 || (decRow l4).isNone)).sep R)) (by ac_rfl)).drop1
      clear HZ HZ0
      go_wp2
      refine bodyPost_ret (v := .agg #[.string K, .string ⟨(got [] (decRow l4)).toArray⟩, .bool false, .int .i64 q]) (by simp [results, Try.results37, go_sem, k0, k1, k2, k3]) rfl ⟨by rw [hD2.out]; rfl, by rw [hD2.out]; exact HF.out⟩
    · have hz : ((d : Int) != 0) = true := by simpa using hdz
      have hD2 := Lib.hid (hD.out.trans (if_neg hdz))
      clear hdz hD
      have H13 := Lib.hid (H12.setBlk 2 (.bool true))
      have hd2 := blk_cell H13.out.blk 2
      clear H12
      go_upto_region 12 with fail
      clear hd2 f2 kd
      obtain ⟨w7, hw7⟩ : ∃ w7, w7 = w4.setCell ⟨bc, 2, none⟩ (.bool true) := ⟨_, rfl⟩
      have HZ0 := H13.out
      rw [← hw7] at HZ0
      have HZ : Hold W0 ((Blk bc #[.string K, .string ⟨#[]⟩, .bool true, .int .i64 q] 36).sep _) w7 := HZ0
      rw [← hw7]
      clear hw7
      have k0 := blk_cell HZ.blk 0
      have k1 := blk_cell HZ.blk 1
      have k2 := blk_cell HZ.blk 2
      have k3 := blk_cell HZ.blk 3
      have f0 := blk_free HZ.blk 0
      have f1 := blk_free HZ.blk 1
      have f2 := blk_free HZ.blk 2
      have f3 := blk_free HZ.blk 3
      have s0 := blk_same HZ.blk 0 (v := .string K) rfl
      have s1 := blk_same HZ.blk 1 (v := .string ⟨#[]⟩) rfl
      have s2 := blk_same HZ.blk 2 (v := .bool true) rfl
      have s3 := blk_same HZ.blk 3 (v := .int .i64 q) rfl
      have HF := Lib.hid (HZ.drop1.perm (B := ((Blk bd #[.int .i64 d] 3).sep ((Row 79 1 (.slice (some ⟨w3.heap.size, 0, none⟩) 2 2) 2 [.pointer (some ⟨bc, 3, none⟩), .pointer (some ⟨bd, 0, none⟩)]).sep ((Row 5 1 (.slice ao2 x.length cap2) x.length (u8s x)).sep (Blk bn #[.int .i64 n] 3)))).sep ((Rd b l4 b4).sep R)) (by ac_rfl)).drop1
      clear HZ HZ0
      go_wp2
      refine bodyPost_ret (v := .agg #[.string K, .string ⟨#[]⟩, .bool true, .int .i64 q]) (by simp [results, Try.results37, go_sem, k0, k1, k2, k3]) rfl ⟨by rw [hD2.out]; rfl, by rw [hD2.out]; exact HF.out⟩
end Go.Proofs.Ytgmnpgohkabfcaa.Bl
