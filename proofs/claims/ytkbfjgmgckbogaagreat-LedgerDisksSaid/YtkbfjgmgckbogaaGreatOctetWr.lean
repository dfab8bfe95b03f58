/-
  The Writer of chapter 1: Nums, Raw, Bytes, Out: what they lay.
-/
import Derived.Test.YtkbfjgmgckbogaaGreatF5
import Derived.Test.YtkbfjgmgckbogaaGreatF10
namespace Go.Proofs.YtkbfjgmgckbogaaGreat.Oct
open Go.RowKit L
/-- a Writer at a block of its own, and what was laid -/
def Wr (b : Nat) (l : List UInt8) : Asrt where
  at_ F w := ∃ v, w.heap[b]? = some (.cells #[v] 88 (0, 0)) ∧ Own w 0 5 1 v l.length (u8s l) ∧ v.ownBlock ≠ some b ∧ ∀ k, F k ↔ k = b ∨ v.ownBlock = some k
  stay := by
    rintro F w w' ⟨v, h1, h2, h3, h4⟩ hk
    have hr : (Row 5 1 v l.length (u8s l)).at_ (fun k => v.ownBlock = some k) w := ⟨h2, fun k => Iff.rfl⟩
    exact ⟨v, by rw [hk b ((h4 b).2 (.inl rfl))]; exact h1, ((Row 5 1 v l.length (u8s l)).stay hr fun k e => hk k ((h4 k).2 (.inr e))).1, h3, h4⟩
  lt := by
    rintro F w ⟨v, h1, h2, h3, h4⟩ k hk
    rcases (h4 k).1 hk with rfl | h
    · exact (Array.getElem?_eq_some_iff.1 h1).1
    · exact (h2.lt k h).2
/-- a Writer as it is made -/
theorem addWr {W0 w : World} {R : Asrt} (h : Hold W0 R w) {b : Nat} (hb : w.heap.size = b) : Hold W0 ((Wr b []).sep R) (w.alloc (.cells #[.slice none 0 0] 88)) := by
  subst hb
  exact h.add ((Below.refl _ _).alloc (Nat.le_refl _) _) (A := Wr w.heap.size []) (F := fun k => k = w.heap.size)
    ⟨.slice none 0 0, heap_alloc_new w _, Own.nil _ _ _ _, by simp [Value.ownBlock], fun k => by simp [Value.ownBlock]⟩ fun k hk => by omega

/-- what an append and the store back make of a Writer -/
theorem wr_step {W0 w w1 : World} {R : Asrt} {b : Nat} {l x : List UInt8} {F : Nat → Prop} {v v' : Value} {o : Obj}
    (hup : ∀ (w' : World) (A' : Asrt) (F' : Nat → Prop), Keeps F w w' → A'.at_ F' w' → (∀ k, F' k → F k ∨ w.heap.size ≤ k) → Hold W0 (A'.sep R) w')
    (hb : w.heap[b]? = some (.cells #[v] 88 (0, 0))) (hne : v.ownBlock ≠ some b) (hF : ∀ k, F k ↔ k = b ∨ v.ownBlock = some k)
    (hown : Own w1 0 5 1 v' (l.length + x.length) (u8s l ++ u8s x)) (hk : Keeps (fun k => v.ownBlock = some k) (w.alloc o) w1)
    (hsub : ∀ k, v'.ownBlock = some k → v.ownBlock = some k ∨ (w.alloc o).heap.size ≤ k) :
    w1.heap[b]? = some (.cells #[v] 88 (0, 0)) ∧ Hold W0 ((Wr b (l ++ x)).sep R) (w1.setCell ⟨b, 0, none⟩ v') := by
  have hblt : b < w.heap.size := (Array.getElem?_eq_some_iff.1 hb).1
  have hb1 : w1.heap[b]? = some (.cells #[v] 88 (0, 0)) := by
    rw [hk.block b (by simp; omega) hne, Below.heap_alloc _ _ _ hblt]; exact hb
  refine ⟨hb1, hup _ (Wr b (l ++ x)) (fun k => k = b ∨ v'.ownBlock = some k) ?_ ⟨v', ?_, ?_, ?_, fun k => Iff.rfl⟩ ?_⟩
  · refine Keeps.setCell (((Keeps.refl F w).alloc o).trans hk fun k hk' hv => (hF k).2 (.inr hv)) (fun _ => (hF b).2 (.inl rfl)) _
  · exact blk_set hb1 0 v'
  · have hne' : v'.ownBlock ≠ some b := by
      intro e
      rcases hsub b e with h | h
      · exact hne h
      · simp at h; omega
    have hr : (Row 5 1 v' (l ++ x).length (u8s (l ++ x))).at_ (fun k => v'.ownBlock = some k) w1 := ⟨by rw [u8s_append, List.length_append]; exact hown, fun k => Iff.rfl⟩
    exact ((Row 5 1 v' (l ++ x).length (u8s (l ++ x))).stay hr fun k hk' => Below.heap_setCell _ _ _ _ (fun e => hne' (by rw [hk', e]))).1
  · intro e
    rcases hsub b e with h | h
    · exact hne h
    · simp at h; omega
  · rintro k (rfl | hk')
    · exact .inl ((hF k).2 (.inl rfl))
    · rcases hsub k hk' with h | h
      · exact .inl ((hF k).2 (.inr h))
      · right; simp at h; omega
/-- the same, where no literal was laid ahead -/
theorem wr_step0 {W0 w w1 : World} {R : Asrt} {b : Nat} {l x : List UInt8} {F : Nat → Prop} {v v' : Value}
    (hup : ∀ (w' : World) (A' : Asrt) (F' : Nat → Prop), Keeps F w w' → A'.at_ F' w' → (∀ k, F' k → F k ∨ w.heap.size ≤ k) → Hold W0 (A'.sep R) w')
    (hb : w.heap[b]? = some (.cells #[v] 88 (0, 0))) (hne : v.ownBlock ≠ some b) (hF : ∀ k, F k ↔ k = b ∨ v.ownBlock = some k)
    (hown : Own w1 0 5 1 v' (l.length + x.length) (u8s l ++ u8s x)) (hk : Keeps (fun k => v.ownBlock = some k) w w1)
    (hsub : ∀ k, v'.ownBlock = some k → v.ownBlock = some k ∨ w.heap.size ≤ k) :
    w1.heap[b]? = some (.cells #[v] 88 (0, 0)) ∧ Hold W0 ((Wr b (l ++ x)).sep R) (w1.setCell ⟨b, 0, none⟩ v') := by
  have hblt : b < w.heap.size := (Array.getElem?_eq_some_iff.1 hb).1
  have hb1 : w1.heap[b]? = some (.cells #[v] 88 (0, 0)) := by
    rw [hk.block b hblt hne]; exact hb
  have hne' : v'.ownBlock ≠ some b := by
    intro e
    rcases hsub b e with h | h
    · exact hne h
    · omega
  refine ⟨hb1, hup _ (Wr b (l ++ x)) (fun k => k = b ∨ v'.ownBlock = some k) ?_ ⟨v', ?_, ?_, hne', fun k => Iff.rfl⟩ ?_⟩
  · exact Keeps.setCell ((Keeps.refl F w).trans hk fun k hk' hv => (hF k).2 (.inr hv)) (fun _ => (hF b).2 (.inl rfl)) _
  · exact blk_set hb1 0 v'
  · have hr : (Row 5 1 v' (l ++ x).length (u8s (l ++ x))).at_ (fun k => v'.ownBlock = some k) w1 := ⟨by rw [u8s_append, List.length_append]; exact hown, fun k => Iff.rfl⟩
    exact ((Row 5 1 v' (l ++ x).length (u8s (l ++ x))).stay hr fun k hk' => Below.heap_setCell _ _ _ _ (fun e => hne' (by rw [hk', e]))).1
  · rintro k (rfl | hk')
    · exact .inl ((hF k).2 (.inl rfl))
    · rcases hsub k hk' with h | h
      · exact .inl ((hF k).2 (.inr h))
      · exact .inr h

set_option maxHeartbeats 800000 in
theorem raw_any {W0 w : World} {R : Asrt} {b : Nat} {l : List UInt8} (h : Hold W0 ((Wr b l).sep R) w) (v : Value) (x : List UInt8) (hx : Reads W0 R 1 v x.length (u8s x)) (hn : l.length + x.length ≤ 140737488355328) :
    Calls Tryz.prog 73 #[.pointer (some ⟨b, 0, none⟩), v] w fun e w' => e = .returned (.tuple #[]) ∧ Hold W0 ((Wr b (l ++ x)).sep R) w' := by
  obtain ⟨i5, hi, hz0, hz1, hz2⟩ := info_parts Tryz.info5
  have hsx := hx.at h.drop1
  obtain ⟨F, ⟨vw, hb, hown, hne, hF⟩, hge, hup⟩ := h.take
  have hc0 : w.cell? ⟨b, 0, none⟩ = some vw := blk_cell hb 0
  clear hx
  go_enter Tryz.func73, Tryz.ntmps73
  go_wp2_with (at_builtin; refine wpList_append_row _ rfl _ _ 22 rfl 5 i5 (.int .u8 0) 1 1 Tryz.underlying22 hi hz0 hz1 hz2 rfl (by decide) _ l.length (u8s l) rfl hown _ x.length (u8s x) rfl hsx (u8s_one x) (by unfold maxLen; omega) (by omega) ?_; intro v' w1 hown' hk hsub hnil; obtain ⟨ao', cap', rfl⟩ := hown'.shape; obtain ⟨hb1, hH⟩ := wr_step0 hup hb hne hF hown' hk hsub; have hc1 : w1.cell? ⟨b, 0, none⟩ = some vw := blk_cell hb1 0; have hf1 := blk_free hb1 0)
  go_end0
  exact ⟨rfl, hH⟩
theorem or128 (u : Nat) : bits .or .u8 ((u : Int) % 256) 128 = ((UInt8.ofNat (u % 128 + 128)).toNat : Int) := by
  have h1 : ((u : Int) % 256) = ((u % 256 : Nat) : Int) := by omega
  rw [h1, show (128 : Int) = ((128 : Nat) : Int) from rfl, u8_or_nat _ _ (by omega) (by omega), UInt8.toNat_ofNat']
  congr 1
  show u % 256 ||| 128 = (u % 128 + 128) % 256
  have h2 : ∀ a : Fin 256, (a.val ||| 128) = (a.val % 128 + 128) % 256 := by decide +kernel
  have := h2 ⟨u % 256, by omega⟩
  simp only at this
  rw [this]
  omega
theorem byte_lt (u : Nat) : ((u : Int) % 256) = ((UInt8.ofNat u).toNat : Int) := by
  rw [UInt8.toNat_ofNat']
  show _ = ((u % 256 : Nat) : Int)
  omega
theorem u8s_single (c : UInt8) : u8s [c] = [.int .u8 c.toNat] := rfl
set_option maxRecDepth 100000 in
set_option maxHeartbeats 2000000 in
theorem nums_any {W0 w : World} {R : Asrt} {b : Nat} {l : List UInt8} (h : Hold W0 ((Wr b l).sep R) w) (va : Value) (zs : List Int) (ha : Reads W0 R 1 va zs.length (ints zs)) (hz : ∀ z ∈ zs, -9223372036854775808 ≤ z ∧ z ≤ 9223372036854775807)
    (hn : l.length + 9 * zs.length ≤ 140737488355328) :
    Calls Tryz.prog 43 #[.pointer (some ⟨b, 0, none⟩), va] w fun e w' => e = .returned (.tuple #[]) ∧ Hold W0 ((Wr b (l ++ encs zs)).sep R) w' := by
  obtain ⟨i5, hi, hz0, hz1, hz2⟩ := info_parts Tryz.info5
  have hlen := (ha.at h.drop1).run_len Tryz.underlying120
  have Ha := Lib.hid ha
  have Hz := Lib.hid hz
  clear ha hz
  go_enter Tryz.func43, Tryz.ntmps43
  go_wp2
  go_loopw [11] (fun i wr => ∃ k : Nat, k ≤ zs.length ∧ i = .int .i64 k ∧ Hold W0 ((Wr b (l ++ encs (zs.take k))).sep R) wr) (fun i _ => zs.length - (intOf i).toNat)
  case atStart => exact ⟨0, Nat.zero_le _, rfl, by simpa [encs] using h⟩
  case round =>
    obtain ⟨k, hk, rfl, hH⟩ := hrel
    by_cases hlt : k < zs.length
    · obtain ⟨z, hze⟩ : ∃ z, z = zs[k] := ⟨_, rfl⟩
      obtain ⟨A, hA, hblk, hcell⟩ := run_indexAt_sl (P := Tryz.prog) (Ha.out.at hH.drop1) Tryz.underlying120 Tryz.size3 .i64 (k : Int) (by omega) (by omega)
      have hc := hcell 0 (by omega)
      have hzb := Hz.out z (by rw [hze]; exact List.getElem_mem _)
      simp only [add_zero, Int.toNat_natCast, Nat.mul_one, Nat.add_zero, ints, List.getD, List.getElem?_map, List.getElem?_eq_getElem hlt, Option.map_some, Option.getD_some] at hc
      rw [← hze] at hc
      have htk : zs.take (k + 1) = zs.take k ++ [z] := by rw [List.take_succ_eq_append_getElem hlt, hze]
      have Htk : Hid (encs (zs.take (k + 1)) = encs (zs.take k) ++ enc (clamp z)) := by show _ = _; rw [htk, encs_snoc]
      have hle : (encs (zs.take k)).length ≤ 9 * k := by have := encs_length (zs.take k); simp at this; omega
      clear hcell hze htk
      obtain ⟨B, hB⟩ : ∃ B, B = l ++ encs (zs.take k) := ⟨_, rfl⟩
      have hBl : B.length ≤ l.length + 9 * k := by rw [hB, List.length_append]; omega
      rw [← hB] at hH
      have HB := Lib.hid hB
      clear hB
      have hcl := clamp_le z
      have h9 := enc_le9 hcl
      have hcz : z ≤ 0 ∧ clamp z = 0 ∨ 0 < z ∧ z ≤ 4611686018427387904 ∧ (clamp z : Int) = z ∨ 4611686018427387904 < z ∧ clamp z = 4611686018427387904 := by unfold clamp; omega
      obtain ⟨C, hC⟩ : ∃ C, C = clamp z := ⟨_, rfl⟩
      rw [← hC] at hcz h9 hcl Htk
      clear hC
      rcases hcz with ⟨hz1', hz2'⟩ | ⟨hz1', hz2', hz3'⟩ | ⟨hz1', hz2'⟩
      all_goals
        go_wp2
        go_loopw [6] (fun x wr => ∃ (u : Nat) (l1 : List UInt8), u ≤ 4611686018427387904 ∧ x = .int .u64 u ∧ Hold W0 ((Wr b l1).sep R) wr ∧ l1 ++ enc u = B ++ enc C) (fun x _ => (intOf x).toNat)
        case atStart => exact ⟨C, B, hcl, by first | (rw [hz3']) | (rw [hz2']; rfl), hH, rfl⟩
        case round =>
          obtain ⟨u, l1, hu, rfl, hHi, hl1⟩ := hrel
          have hll : l1.length + (enc u).length ≤ l.length + 9 * zs.length := by
            have := congrArg List.length hl1
            simp only [List.length_append] at this
            omega
          have hep := enc_pos u
          have Hl1 := Lib.hid hl1
          clear hl1
          obtain ⟨F, ⟨vw, hb, hown, hne, hF⟩, _, hup⟩ := hHi.take
          have Hup := Lib.hid hup
          have HF := Lib.hid hF
          clear hup hF
          have hc0 : wr.cell? ⟨b, 0, none⟩ = some vw := blk_cell hb 0
          by_cases h128 : u < 128
          · obtain ⟨c, rfl⟩ : ∃ c : UInt8, u = c.toNat := ⟨UInt8.ofNat u, by rw [UInt8.toNat_ofNat']; show u = u % 256; omega⟩
            go_wp2_with (at_builtin; refine wpList_append_row _ rfl _ _ 22 rfl 5 i5 (.int .u8 0) 1 1 Tryz.underlying22 hi hz0 hz1 hz2 rfl (by decide) _ l1.length (u8s l1) rfl (hown.alloc _) _ 1 (u8s [c]) rfl (sl_built wr (u8s [c]) 5 (by simp [u8s, maxLen])) (u8s_one _) (by unfold maxLen; omega) (by omega) ?_; intro v' w1 hown' hk hsub hnil; obtain ⟨ao', cap', rfl⟩ := hown'.shape; obtain ⟨hb1, hH'⟩ := wr_step (x := [c]) Hup.out hb hne HF.out hown' hk hsub; have hc1 : w1.cell? ⟨b, 0, none⟩ = some vw := blk_cell hb1 0; have hf1 := blk_free hb1 0)
            have hfin : l ++ encs (zs.take (k + 1)) = l1 ++ [c] := by
              rw [Htk.out, ← List.append_assoc, ← HB.out, ← Hl1.out, enc_lt h128]
              congr 2
              apply UInt8.toNat_inj.1
              simp
            go_roundw
            case rel => exact ⟨k + 1, by omega, by go_num, by rw [hfin]; exact hH'⟩
            case measure => simp [intOf]; omega
          · obtain ⟨c, hcu⟩ : ∃ c, c = UInt8.ofNat (u % 128 + 128) := ⟨_, rfl⟩
            have hor := or128 u
            rw [← hcu] at hor
            have Hcu := Lib.hid hcu
            clear hcu
            go_wp2_with (at_builtin; refine wpList_append_row _ rfl _ _ 22 rfl 5 i5 (.int .u8 0) 1 1 Tryz.underlying22 hi hz0 hz1 hz2 rfl (by decide) _ l1.length (u8s l1) rfl (hown.alloc _) _ 1 (u8s [c]) rfl (sl_built wr (u8s [c]) 5 (by simp [u8s, maxLen])) (u8s_one _) (by unfold maxLen; omega) (by omega) ?_; intro v' w1 hown' hk hsub hnil; obtain ⟨ao', cap', rfl⟩ := hown'.shape; obtain ⟨hb1, hH'⟩ := wr_step (x := [c]) Hup.out hb hne HF.out hown' hk hsub; have hc1 : w1.cell? ⟨b, 0, none⟩ = some vw := blk_cell hb1 0; have hf1 := blk_free hb1 0)
            have hfin : (l1 ++ [c]) ++ enc (u / 128) = B ++ enc C := by
              rw [← Hl1.out, enc_ge (u := u) (by omega), List.append_assoc, ← Hcu.out]
              rfl
            go_roundw
            case rel => exact ⟨u / 128, l1 ++ [c], by omega, by go_num, hH', hfin⟩
            case measure => simp [intOf]; omega
    · go_wp2
      go_end0
      obtain rfl : k = zs.length := by omega
      exact ⟨rfl, by simpa using hH⟩
theorem rows_length_le (ls : List (List UInt8)) (k : Nat) : (rows (ls.take k)).length ≤ (rows ls).length := by
  conv => rhs; rw [← List.take_append_drop k ls, rows_append, List.length_append]
  omega
set_option maxHeartbeats 800000 in
theorem wbytes_any {W0 w : World} {R : Asrt} {b : Nat} {l : List UInt8} (h : Hold W0 ((Wr b l).sep R) w) (va : Value) (vs : List Value) (ls : List (List UInt8)) (ha : ReadsRows W0 R va vs (u8ss ls))
    (hn : l.length + (rows ls).length + 9 ≤ 140737488355328) :
    Calls Tryz.prog 44 #[.pointer (some ⟨b, 0, none⟩), va] w fun e w' => e = .returned (.tuple #[]) ∧ Hold W0 ((Wr b (l ++ rows ls)).sep R) w' := by
  have hll : (u8ss ls).length = ls.length := by simp [u8ss]
  have hsl := ha.outer h.drop1
  rw [hll] at hsl
  have hlen := hsl.run_len Tryz.underlying44
  have hmx := hsl.le
  unfold maxLen at hmx
  have Ha := Lib.hid ha
  have Hll := Lib.hid hll
  clear ha hsl hll
  go_enter Tryz.func44, Tryz.ntmps44
  go_wp2
  go_loopw [8] (fun i wr => ∃ k : Nat, k ≤ ls.length ∧ i = .int .i64 k ∧ Hold W0 ((Wr b (l ++ rows (ls.take k))).sep R) wr) (fun i _ => ls.length - (intOf i).toNat)
  case atStart => exact ⟨0, Nat.zero_le _, rfl, by simpa [rows] using h⟩
  case round =>
    obtain ⟨k, hk, rfl, hH⟩ := hrel
    by_cases hlt : k < ls.length
    · have hsl := Ha.out.outer hH.drop1
      rw [Hll.out] at hsl
      obtain ⟨A, hA, hblk, hcell⟩ := run_indexAt_sl (P := Tryz.prog) hsl Tryz.underlying44 Tryz.size22 .i64 (k : Int) (by omega) (by omega)
      have hc := hcell 0 (by omega)
      simp only [add_zero, Int.toNat_natCast, Nat.mul_one, Nat.add_zero] at hc
      obtain ⟨x, hx⟩ : ∃ x, x = ls.getD k [] := ⟨_, rfl⟩
      have hin := Ha.out.inner (i := k) (by rw [Hll.out]; exact hlt)
      rw [u8ss_get, ← hx, u8s_length] at hin
      obtain ⟨v, hv⟩ : ∃ v, v = vs.getD k undef := ⟨_, rfl⟩
      rw [← hv] at hc hin
      have htk : rows (ls.take (k + 1)) = rows (ls.take k) ++ row x := by
        rw [List.take_succ_eq_append_getElem hlt, rows_snoc, hx]
        simp [List.getD, hlt]
      have hbd := rows_length_le ls (k + 1)
      rw [htk, List.length_append] at hbd
      have hrow : (row x).length = (enc x.length).length + x.length := by simp [row]
      have hlv := (hin.at hH.drop1).run_len Tryz.underlying22
      have hxl := (hin.at hH.drop1).le
      unfold maxLen at hxl
      have Hin := Lib.hid hin
      have Htk := Lib.hid htk
      have Hrow := Lib.hid hrow
      clear hsl hcell hx hin hv htk hrow hlen
      have hcap : clamp (x.length : Int) = x.length := by have := Hrow.out; unfold clamp; omega
      have he9 : (rows (ls.take k)).length ≤ (rows ls).length := rows_length_le ls k
      have Hcap := Lib.hid hcap
      clear hcap
      go_wp2_with fail
      have h1 := (hH.addLit (.int .i64 (x.length : Int)) 3).up2
      refine (nums_any h1 _ [(x.length : Int)] Reads.row (by intro z hz; simp at hz; omega) (by simp only [List.length_append, List.length_singleton]; omega)).mono ?_
      rintro e w1 ⟨rfl, h2⟩
      rw [show encs [(x.length : Int)] = enc x.length from by simp [encs, Hcap.out]] at h2
      have h3 := h2.up2.drop1
      clear h1 h2
      go_wp2_with fail
      refine (raw_any h3 v x Hin.out (by have := Hrow.out; simp only [List.length_append]; omega)).mono ?_
      rintro e w2 ⟨rfl, h4⟩
      rw [show l ++ rows (ls.take k) ++ enc x.length ++ x = l ++ rows (ls.take (k + 1)) from by rw [Htk.out, row]; simp] at h4
      go_wp2
      go_roundw
      case rel => exact ⟨k + 1, by omega, by go_num, h4⟩
      case measure => simp [intOf]; omega
    · go_wp2
      go_end0
      obtain rfl : k = ls.length := by omega
      exact ⟨rfl, by simpa using hH⟩
theorem out_any {W0 w : World} {R : Asrt} {b : Nat} {l : List UInt8} (h : Hold W0 ((Wr b l).sep R) w) (hn : l.length ≤ 140737488355328) :
    Calls Tryz.prog 46 #[.pointer (some ⟨b, 0, none⟩)] w (RetV fun v' w' => Own w' w.heap.size 5 1 v' l.length (u8s l) ∧ Below w.heap.size w w') := by
  obtain ⟨F, ⟨vw, hb, hown, hne, hF⟩, _, _⟩ := h.take
  have hc0 : w.cell? ⟨b, 0, none⟩ = some vw := blk_cell hb 0
  go_enter Tryz.func46, Tryz.ntmps46
  go_wp2_with fail
  refine (clone_any vw l _ (Own.sl hown) hn).mono ?_
  rintro e w1 ⟨v', rfl, hr⟩
  have Hr := Lib.hid hr
  clear hr
  go_wp2
  go_ret
  exact ⟨v', rfl, Hr.out⟩
end Go.Proofs.YtkbfjgmgckbogaaGreat.Oct
