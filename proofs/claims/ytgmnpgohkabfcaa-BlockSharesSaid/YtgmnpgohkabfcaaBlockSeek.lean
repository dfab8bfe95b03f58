/-
  Seek of chapter 7, and the reference's First: what they answer.
-/
import Derived.Test.YtgmnpgohkabfcaaBlockDec
namespace Go.Proofs.Ytgmnpgohkabfcaa.Bl
open Go.RowKit L Oct
def hits (key : ByteArray) (q : Int) (c : Cl) : Bool := (c.key.toList == key.toList) && decide (c.seq ≤ q)
/-- the first cell of a key that is not above a number -/
def seekC (l : List Cl) (key : ByteArray) (q : Int) : Cl × Bool := match l.find? (hits key q) with | some c => (c, true) | none => (⟨⟨#[]⟩, ⟨#[]⟩, false, 0⟩, false)
def zeroC : Value := .agg #[.string ⟨#[]⟩, .string ⟨#[]⟩, .bool false, .int .i64 0]
theorem find_at {l : List Cl} {p : Cl → Bool} : ∀ {k : Nat}, k < l.length → (∀ j, j < k → p (l.getD j default) = false) → p (l.getD k default) = true → l.find? p = some (l.getD k default) := by
  induction l with
  | nil => intro k hk; simp at hk
  | cons c r ih =>
    intro k hk h1 h2
    cases k with
    | zero =>
      have h2' : p c = true := by simpa [List.getD] using h2
      rw [List.find?_cons_of_pos h2']; rfl
    | succ k =>
      have h0 := h1 0 (by omega)
      have h0' : ¬ p c = true := by simpa [List.getD] using h0
      rw [List.find?_cons_of_neg h0']
      have := ih (k := k) (by simpa using hk) (fun j hj => by simpa [List.getD] using h1 (j + 1) (by omega)) (by simpa [List.getD] using h2)
      simpa [List.getD] using this
theorem find_none {l : List Cl} {p : Cl → Bool} (h : ∀ j, j < l.length → p (l.getD j default) = false) : l.find? p = none := by
  rw [List.find?_eq_none]
  intro x hx
  obtain ⟨i, hi, rfl⟩ := List.getElem_of_mem hx
  have := h i hi
  rw [getD_get hi] at this
  simp [this]
theorem seekC_at {l : List Cl} {key : ByteArray} {q : Int} {k : Nat} (hk : k < l.length) (h1 : ∀ j, j < k → hits key q (l.getD j default) = false) (h2 : hits key q (l.getD k default) = true) : seekC l key q = (l.getD k default, true) := by
  rw [seekC, find_at hk h1 h2]
theorem seekC_none {l : List Cl} {key : ByteArray} {q : Int} (h : ∀ j, j < l.length → hits key q (l.getD j default) = false) : seekC l key q = (⟨⟨#[]⟩, ⟨#[]⟩, false, 0⟩, false) := by
  rw [seekC, find_none h]
def RetSeek (w : World) (b : List UInt8) (key : ByteArray) (q : Int) (e : Ending) (w' : World) : Prop :=
  Below w.heap.size w w' ∧ ((∃ l, DecOk b l ∧ e = .returned (.tuple #[(seekC l key q).1.agg, .bool (seekC l key q).2, .int .i64 0])) ∨ ((∀ l, ¬ DecOk b l) ∧ e = .returned (.tuple #[zeroC, .bool false, .int .i64 3])))
def SeekRel (w : World) (b6 : Nat) (l : List Cl) (v1 : Value) (key : ByteArray) (q : Int) (i : Value) (wr : World) : Prop :=
  ∃ k : Nat, k ≤ l.length ∧ i = .int .i64 k ∧ (∀ j, j < k → hits key q (l.getD j default) = false) ∧ Hold w ((Blk b6 #[.string ⟨#[]⟩, .string ⟨#[]⟩, .bool false, .int .i64 0] 36).sep ((Row 36 4 v1 l.length (cls l)).sep Asrt.emp)) wr
set_option maxRecDepth 100000 in
set_option maxHeartbeats 1600000 in
theorem seek_any (v : Value) (b : List UInt8) (key : ByteArray) (q : Int) (w : World) (h : Sl w 1 v b.length (u8s b)) (hn : b.length ≤ 100000) : Calls Try.prog 16 #[v, .string key, .int .i64 q] w (RetSeek w b key q) := by
  have H0 := (Hold.start w).addBlk (cs := #[.string ⟨#[]⟩, .string ⟨#[]⟩, .bool false, .int .i64 0]) (t := 36) (b := w.heap.size) rfl
  obtain ⟨b6, hb6⟩ : ∃ b6, b6 = w.heap.size := ⟨_, rfl⟩
  rw [← hb6] at H0
  go_enter Try.func16, Try.ntmps16
  go_wp2_with fail
  rw [← hb6]
  clear hb6
  refine (decode_any v b _ (h.below' H0.old) hn).mono ?_
  rintro e w1 ⟨hb1, ⟨l, v1, hok, rfl, ho⟩ | ⟨hno, rfl⟩⟩
  · have H1 := (H0.addRow hb1 ho).up2
    obtain ⟨ao, cap, rfl⟩ := ho.shape
    have hlen := ho.sl.run_len Try.underlying22
    have hmx := ho.sl.le'
    have Hok := Lib.hid hok
    clear H0 ho hb1 hok
    go_wp2
    go_loopw [20] (fun i wr => SeekRel w b6 l (.slice ao l.length cap) key q i wr) (fun i _ => l.length - (intOf i).toNat)
    case atStart => exact ⟨0, Nat.zero_le _, rfl, fun j hj => by omega, H1⟩
    case round =>
      clear H1
      obtain ⟨k, hk, rfl, hall, H⟩ := hrel
      have Hall := Lib.hid hall
      clear hall
      by_cases hlt : k < l.length
      · obtain ⟨A, c, hA, _, hcells, Hc⟩ := H.up2.sl.atCl (P := Try.prog) Try.underlying22 Try.size36 k _ rfl hlt
        obtain ⟨c0, c1, c2, c3⟩ := hcells
        have H2 := H.addBlk (cs := #[.string c.key, .string c.val, .bool c.del, .int .i64 c.seq]) (t := 36) (b := wr.heap.size) rfl
        have H3 := Lib.hid H2
        cases hhit : hits key q c with
        | true =>
          have hh := hhit
          simp only [hits, Bool.and_eq_true] at hh
          obtain ⟨hh1, hh2⟩ := hh
          have hS : Hid (seekC l key q = (c, true)) := Lib.hid (by rw [seekC_at hlt Hall.out (by rw [← Hc.out]; exact hhit), ← Hc.out])
          clear hhit H2 H
          go_upto_region 6 with fail
          obtain ⟨b12, hb12⟩ : ∃ b12, b12 = wr.heap.size := ⟨_, rfl⟩
          obtain ⟨w2, hw2⟩ : ∃ w2, w2 = wr.alloc (.cells #[.string c.key, .string c.val, .bool c.del, .int .i64 c.seq] 36) := ⟨_, rfl⟩
          rw [← hb12, ← hw2] at H3
          rw [← hb12, ← hw2]
          clear hb12 hw2 c0 c1 c2 c3 hh1 hh2
          have H4 := H3.out.up2
          have d0 := blk_cell H3.out.blk 0
          have d1 := blk_cell H3.out.blk 1
          have d2 := blk_cell H3.out.blk 2
          have d3 := blk_cell H3.out.blk 3
          have e0 := blk_cell H4.blk 0
          have e1 := blk_cell H4.blk 1
          have e2 := blk_cell H4.blk 2
          have e3 := blk_cell H4.blk 3
          have f0 := blk_free H4.blk 0
          have f1 := blk_free H4.blk 1
          have f2 := blk_free H4.blk 2
          have f3 := blk_free H4.blk 3
          have HZ := ((((H4.setBlk 0 (.string c.key)).setBlk 1 (.string c.val)).setBlk 2 (.bool c.del)).setBlk 3 (.int .i64 c.seq))
          have HH := Lib.hid HZ.old
          have k0 : _ = some (Value.string c.key) := blk_cell HZ.blk 0
          have k1 : _ = some (Value.string c.val) := blk_cell HZ.blk 1
          have k2 : _ = some (Value.bool c.del) := blk_cell HZ.blk 2
          have k3 : _ = some (Value.int .i64 c.seq) := blk_cell HZ.blk 3
          have KK := Lib.hid (And.intro k0 (And.intro k1 (And.intro k2 k3)))
          clear HZ H4 H3 k0 k1 k2 k3
          go_wp2
          obtain ⟨k0, k1, k2, k3⟩ := KK.out
          refine bodyPost_ret (v := .tuple #[.agg #[.string c.key, .string c.val, .bool c.del, .int .i64 c.seq], .bool true, .int .i64 0]) (by simp [results, Try.results16, go_sem, k0, k1, k2, k3]) rfl ⟨HH.out, .inl ⟨l, Hok.out, by rw [hS.out]; rfl⟩⟩
        | false =>
          have hN : Hid (∀ j, j < k + 1 → hits key q (l.getD j default) = false) := Lib.hid fun j hj => by
            by_cases e : j = k
            · subst e; rw [← Hc.out]; exact hhit
            · exact Hall.out j (by omega)
          have hh := hhit
          simp only [hits, Bool.and_eq_false_iff] at hh
          have HG := Lib.hid H2.drop1
          clear hhit H2 H H3
          rcases hh with hh1 | hh1
          · go_wp2
            go_roundw
            case rel => exact ⟨k + 1, by omega, by go_num, hN.out, HG.out⟩
            case measure => simp [intOf]; omega
          · cases hkk : (c.key.toList == key.toList) with
            | true =>
              go_wp2
              go_roundw
              case rel => exact ⟨k + 1, by omega, by go_num, hN.out, HG.out⟩
              case measure => simp [intOf]; omega
            | false =>
              go_wp2
              go_roundw
              case rel => exact ⟨k + 1, by omega, by go_num, hN.out, HG.out⟩
              case measure => simp [intOf]; omega
      · have hS : Hid (seekC l key q = (⟨⟨#[]⟩, ⟨#[]⟩, false, 0⟩, false)) := Lib.hid (seekC_none fun j hj => Hall.out j (by omega))
        have k0 := blk_cell H.blk 0
        have k1 := blk_cell H.blk 1
        have k2 := blk_cell H.blk 2
        have k3 := blk_cell H.blk 3
        have f0 := blk_free H.blk 0
        have f1 := blk_free H.blk 1
        have f2 := blk_free H.blk 2
        have f3 := blk_free H.blk 3
        have s0 := blk_same H.blk 0 (v := .string ⟨#[]⟩) rfl
        have s1 := blk_same H.blk 1 (v := .string ⟨#[]⟩) rfl
        have s2 := blk_same H.blk 2 (v := .bool false) rfl
        have s3 := blk_same H.blk 3 (v := .int .i64 0) rfl
        have HH := Lib.hid H.old
        clear H
        go_wp2
        refine bodyPost_ret (v := .tuple #[zeroC, .bool false, .int .i64 0]) (by simp [results, Try.results16, go_sem, k0, k1, k2, k3, zeroC]) rfl ⟨HH.out, .inl ⟨l, Hok.out, by rw [hS.out]; rfl⟩⟩
  · have H1 := H0.keeps hb1
    have hlen := (Sl.nil w1 4).run_len Try.underlying22
    have Hno := Lib.hid hno
    clear H0 hb1 hno
    go_wp2
    go_loopw [20] (fun i wr => i = .int .i64 0 ∧ wr = w1) (fun _ _ => 0)
    case atStart => exact ⟨rfl, rfl⟩
    case round =>
      obtain ⟨rfl, rfl⟩ := hrel
      have k0 := blk_cell H1.blk 0
      have k1 := blk_cell H1.blk 1
      have k2 := blk_cell H1.blk 2
      have k3 := blk_cell H1.blk 3
      have f0 := blk_free H1.blk 0
      have f1 := blk_free H1.blk 1
      have f2 := blk_free H1.blk 2
      have f3 := blk_free H1.blk 3
      have s0 := blk_same H1.blk 0 (v := .string ⟨#[]⟩) rfl
      have s1 := blk_same H1.blk 1 (v := .string ⟨#[]⟩) rfl
      have s2 := blk_same H1.blk 2 (v := .bool false) rfl
      have s3 := blk_same H1.blk 3 (v := .int .i64 0) rfl
      have HH := Lib.hid H1.old
      clear H1
      go_wp2
      refine bodyPost_ret (v := .tuple #[zeroC, .bool false, .int .i64 3]) (by simp [results, Try.results16, go_sem, k0, k1, k2, k3, zeroC]) rfl ⟨HH.out, .inr ⟨Hno.out, rfl⟩⟩
end Go.Proofs.Ytgmnpgohkabfcaa.Bl
