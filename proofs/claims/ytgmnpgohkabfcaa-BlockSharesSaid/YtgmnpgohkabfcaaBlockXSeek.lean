/-
  The reference's First and Seek of chapter 7: what they answer.
-/
import Derived.Test.YtgmnpgohkabfcaaBlockSeek
import Derived.Test.YtgmnpgohkabfcaaBlockXDec
namespace Go.Proofs.Ytgmnpgohkabfcaa.Bl
open Go.RowKit L Oct
def FirstRel (w : World) (b6 : Nat) (l : List Cl) (key : ByteArray) (q : Int) (i : Value) (wr : World) : Prop :=
  ∃ k : Nat, k ≤ l.length ∧ i = .int .i64 k ∧ (∀ j, j < k → hits key q (l.getD j default) = false) ∧ Hold w ((Blk b6 #[.string ⟨#[]⟩, .string ⟨#[]⟩, .bool false, .int .i64 0] 36).sep Asrt.emp) wr
def RetFirst (w : World) (l : List Cl) (key : ByteArray) (q : Int) (e : Ending) (w' : World) : Prop := e = .returned (.tuple #[(seekC l key q).1.agg, .bool (seekC l key q).2]) ∧ Below w.heap.size w w'
set_option maxRecDepth 100000 in
set_option maxHeartbeats 1600000 in
theorem first_any (v : Value) (l : List Cl) (key : ByteArray) (q : Int) (w : World) (h : Sl w 4 v l.length (cls l)) : Calls Try.prog 42 #[v, .string key, .int .i64 q] w (RetFirst w l key q) := by
  have H0 := (Hold.start w).addBlk (cs := #[.string ⟨#[]⟩, .string ⟨#[]⟩, .bool false, .int .i64 0]) (t := 36) (b := w.heap.size) rfl
  obtain ⟨b6, hb6⟩ : ∃ b6, b6 = w.heap.size := ⟨_, rfl⟩
  rw [← hb6] at H0
  have hlen := h.run_len Try.underlying22
  have hmx := h.le'
  obtain ⟨ao, cap, rfl⟩ := h.shape
  go_enter Try.func42, Try.ntmps42
  go_wp2
  rw [← hb6]
  clear hb6
  go_loopw [8] (fun i wr => FirstRel w b6 l key q i wr) (fun i _ => l.length - (intOf i).toNat)
  case atStart => exact ⟨0, Nat.zero_le _, rfl, fun j hj => by omega, H0⟩
  case round =>
    clear H0
    obtain ⟨k, hk, rfl, hall, H⟩ := hrel
    have Hall := Lib.hid hall
    clear hall
    by_cases hlt : k < l.length
    · obtain ⟨A, c, hA, _, hcells, Hc⟩ := (h.below' H.old).atCl (P := Try.prog) Try.underlying22 Try.size36 k _ rfl hlt
      obtain ⟨c0, c1, c2, c3⟩ := hcells
      have H3 := Lib.hid H
      cases hhit : hits key q c with
      | true =>
        have hh := hhit
        simp only [hits, Bool.and_eq_true] at hh
        obtain ⟨hh1, hh2⟩ := hh
        have hS : Hid (seekC l key q = (c, true)) := Lib.hid (by rw [seekC_at hlt Hall.out (by rw [← Hc.out]; exact hhit), ← Hc.out])
        clear hhit H
        have H4 := H3.out
        have e0 := blk_cell H4.blk 0
        have e1 := blk_cell H4.blk 1
        have e2 := blk_cell H4.blk 2
        have e3 := blk_cell H4.blk 3
        have f0 := blk_free H4.blk 0
        have f1 := blk_free H4.blk 1
        have f2 := blk_free H4.blk 2
        have f3 := blk_free H4.blk 3
        have HZ := ((((H4.setBlk 0 (.string c.key)).setBlk 1 (.string c.val)).setBlk 2 (.bool c.del)).setBlk 3 (.int .i64 c.seq))
        have HH := Lib.hid HZ.old
        have k0 : _ = some (Value.string c.key) := blk_cell HZ.blk 0
        have k1 : _ = some (Value.string c.val) := blk_cell HZ.blk 1
        have k2 : _ = some (Value.bool c.del) := blk_cell HZ.blk 2
        have k3 : _ = some (Value.int .i64 c.seq) := blk_cell HZ.blk 3
        have KK := Lib.hid (And.intro k0 (And.intro k1 (And.intro k2 k3)))
        clear HZ H4 H3 k0 k1 k2 k3
        go_wp2
        obtain ⟨k0, k1, k2, k3⟩ := KK.out
        refine bodyPost_ret (v := .tuple #[.agg #[.string c.key, .string c.val, .bool c.del, .int .i64 c.seq], .bool true]) (by simp [results, Try.results42, go_sem, k0, k1, k2, k3]) rfl ⟨by rw [hS.out]; rfl, HH.out⟩
      | false =>
        have hN : Hid (∀ j, j < k + 1 → hits key q (l.getD j default) = false) := Lib.hid fun j hj => by
          by_cases e : j = k
          · subst e; rw [← Hc.out]; exact hhit
          · exact Hall.out j (by omega)
        have hh := hhit
        simp only [hits, Bool.and_eq_false_iff] at hh
        clear hhit H
        rcases hh with hh1 | hh1
        · go_wp2
          go_roundw
          case rel => exact ⟨k + 1, by omega, by go_num, hN.out, H3.out⟩
          case measure => simp [intOf]; omega
        · cases hkk : (c.key.toList == key.toList) with
          | true =>
            go_wp2
            go_roundw
            case rel => exact ⟨k + 1, by omega, by go_num, hN.out, H3.out⟩
            case measure => simp [intOf]; omega
          | false =>
            go_wp2
            go_roundw
            case rel => exact ⟨k + 1, by omega, by go_num, hN.out, H3.out⟩
            case measure => simp [intOf]; omega
    · have hS : Hid (seekC l key q = (⟨⟨#[]⟩, ⟨#[]⟩, false, 0⟩, false)) := Lib.hid (seekC_none fun j hj => Hall.out j (by omega))
      have k0 := blk_cell H.blk 0
      have k1 := blk_cell H.blk 1
      have k2 := blk_cell H.blk 2
      have k3 := blk_cell H.blk 3
      have f0 := blk_free H.blk 0
      have f1 := blk_free H.blk 1
      have f2 := blk_free H.blk 2
      have f3 := blk_free H.blk 3
      have s0 := blk_same H.blk 0 (v := .string ⟨#[]⟩) rfl
      have s1 := blk_same H.blk 1 (v := .string ⟨#[]⟩) rfl
      have s2 := blk_same H.blk 2 (v := .bool false) rfl
      have s3 := blk_same H.blk 3 (v := .int .i64 0) rfl
      have HH := Lib.hid H.old
      clear H
      go_wp2
      refine bodyPost_ret (v := .tuple #[zeroC, .bool false]) (by simp [results, Try.results42, go_sem, k0, k1, k2, k3, zeroC]) rfl ⟨by rw [hS.out]; rfl, HH.out⟩
set_option maxRecDepth 100000 in
set_option maxHeartbeats 1600000 in
theorem xseek_any (v : Value) (b : List UInt8) (key : ByteArray) (q : Int) (w : World) (h : Sl w 1 v b.length (u8s b)) (hn : b.length ≤ 100000) : Calls Try.prog 17 #[v, .string key, .int .i64 q] w (RetSeek w b key q) := by
  have H0 := (Hold.start w).addBlk (cs := #[.string ⟨#[]⟩, .string ⟨#[]⟩, .bool false, .int .i64 0]) (t := 36) (b := w.heap.size) rfl
  obtain ⟨b6, hb6⟩ : ∃ b6, b6 = w.heap.size := ⟨_, rfl⟩
  rw [← hb6] at H0
  go_enter Try.func17, Try.ntmps17
  go_wp2_with fail
  rw [← hb6]
  clear hb6
  refine (xdecode_any v b _ (h.below' H0.old) hn).mono ?_
  rintro e w1 ⟨hb1, ⟨l, v1, hok, rfl, ho⟩ | ⟨hno, rfl⟩⟩
  · have H1 := H0.keeps hb1
    have hsl := ho.sl
    have Hok := Lib.hid hok
    clear H0 ho hb1 hok
    go_wp2_with fail
    refine (first_any v1 l key q _ hsl).mono ?_
    rintro e w2 ⟨rfl, hb2⟩
    obtain ⟨c, hc⟩ : ∃ c, c = (seekC l key q).1 := ⟨_, rfl⟩
    obtain ⟨ok, hok⟩ : ∃ ok, ok = (seekC l key q).2 := ⟨_, rfl⟩
    rw [← hc, ← hok, Cl.agg]
    have HC := Lib.hid (And.intro hc hok)
    have H3 := Lib.hid ((H1.keeps hb2).addBlk (cs := #[.string c.key, .string c.val, .bool c.del, .int .i64 c.seq]) (t := 36) (b := w2.heap.size) rfl)
    clear H1 hb2 hsl hc hok
    go_upto_region 5 with fail
    obtain ⟨b12, hb12⟩ : ∃ b12, b12 = w2.heap.size := ⟨_, rfl⟩
    obtain ⟨w3, hw3⟩ : ∃ w3, w3 = w2.alloc (.cells #[.string c.key, .string c.val, .bool c.del, .int .i64 c.seq] 36) := ⟨_, rfl⟩
    rw [← hb12, ← hw3] at H3
    rw [← hb12, ← hw3]
    clear hb12 hw3
    have H4 := H3.out.up2
    have d0 := blk_cell H3.out.blk 0
    have d1 := blk_cell H3.out.blk 1
    have d2 := blk_cell H3.out.blk 2
    have d3 := blk_cell H3.out.blk 3
    have e0 := blk_cell H4.blk 0
    have e1 := blk_cell H4.blk 1
    have e2 := blk_cell H4.blk 2
    have e3 := blk_cell H4.blk 3
    have f0 := blk_free H4.blk 0
    have f1 := blk_free H4.blk 1
    have f2 := blk_free H4.blk 2
    have f3 := blk_free H4.blk 3
    have HZ := ((((H4.setBlk 0 (.string c.key)).setBlk 1 (.string c.val)).setBlk 2 (.bool c.del)).setBlk 3 (.int .i64 c.seq))
    have HH := Lib.hid HZ.old
    have k0 : _ = some (Value.string c.key) := blk_cell HZ.blk 0
    have k1 : _ = some (Value.string c.val) := blk_cell HZ.blk 1
    have k2 : _ = some (Value.bool c.del) := blk_cell HZ.blk 2
    have k3 : _ = some (Value.int .i64 c.seq) := blk_cell HZ.blk 3
    have KK := Lib.hid (And.intro k0 (And.intro k1 (And.intro k2 k3)))
    clear HZ H4 H3 k0 k1 k2 k3
    go_wp2
    obtain ⟨k0, k1, k2, k3⟩ := KK.out
    refine bodyPost_ret (v := .tuple #[.agg #[.string c.key, .string c.val, .bool c.del, .int .i64 c.seq], .bool ok, .int .i64 0]) (by simp [results, Try.results17, go_sem, k0, k1, k2, k3]) rfl ⟨HH.out, .inl ⟨l, Hok.out, by rw [← HC.out.1, ← HC.out.2]; rfl⟩⟩
  · have H1 := H0.keeps hb1
    have Hno := Lib.hid hno
    clear H0 hb1 hno
    have k0 := blk_cell H1.blk 0
    have k1 := blk_cell H1.blk 1
    have k2 := blk_cell H1.blk 2
    have k3 := blk_cell H1.blk 3
    have f0 := blk_free H1.blk 0
    have f1 := blk_free H1.blk 1
    have f2 := blk_free H1.blk 2
    have f3 := blk_free H1.blk 3
    have s0 := blk_same H1.blk 0 (v := .string ⟨#[]⟩) rfl
    have s1 := blk_same H1.blk 1 (v := .string ⟨#[]⟩) rfl
    have s2 := blk_same H1.blk 2 (v := .bool false) rfl
    have s3 := blk_same H1.blk 3 (v := .int .i64 0) rfl
    have HH := Lib.hid H1.old
    clear H1
    go_wp2
    refine bodyPost_ret (v := .tuple #[zeroC, .bool false, .int .i64 3]) (by simp [results, Try.results17, go_sem, k0, k1, k2, k3, zeroC]) rfl ⟨HH.out, .inr ⟨Hno.out, rfl⟩⟩
end Go.Proofs.Ytgmnpgohkabfcaa.Bl
