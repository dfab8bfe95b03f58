/-
  'BlockDecodes' answers true: the program's Decode and Seek hand back what the reference's do. Conditions: none beside what a row says of every argument.
-/
import Derived.Test.YtgmnpgohkabfcaaBlockLib
import Derived.Test.YtgmnpgohkabfcaaBlockYes
import Derived.Test.YtgmnpgohkabfcaaApp8
namespace Go.Proofs.Ytgmnpgohkabfcaa.blockDecodes
open Go.RowKit L Oct Bl
set_option maxRecDepth 1000000 in
set_option maxHeartbeats 3200000 in
theorem walk {w : World} (v0 : Value) (l0 : List UInt8) (h0 : Sl w 1 v0 l0.length (u8s l0)) (_b0 : l0.length ≤ 140737488351232) (a1 : ByteArray) (_w1 : a1.size ≤ 140737488351232) (a2 : Int) (_w2 : (Lit.int .i64 a2).wf = true) :
    Calls Try.prog 4 #[v0, .string a1, .int .i64 a2] w fun e w' => e = .returned (.bool true) ∧ Below w.heap.size w w' := by
  have hlen := h0.run_len Try.underlying24
  clear _w2 _w1 _b0
  go_enter Try.func4, Try.ntmps4
  by_cases hl : 2000 < l0.length
  · have g1 : decide ((2000 : Int) < (l0.length : Int)) = true := by simp; omega
    go_wp2
    go_ret
    exact ⟨rfl, Below.refl _ _⟩
  · have g1 : decide ((2000 : Int) < (l0.length : Int)) = false := by simp; omega
    by_cases hk : 200 < a1.size
    · have g2 : decide ((200 : Int) < (a1.size : Int)) = true := by simp; omega
      go_wp2
      go_ret
      exact ⟨rfl, Below.refl _ _⟩
    · have g2 : decide ((200 : Int) < (a1.size : Int)) = false := by simp; omega
      have hs1 := h0.below' (below_one w (.cells #[] 5))
      have H1 : Hold w ((Row 5 1 (.slice (some ⟨w.heap.size, 0, none⟩) 0 0) ([] : List UInt8).length (u8s [])).sep Asrt.emp) (w.alloc (.cells #[] 5)) := (Hold.start w).addEmpty 5
      have hll : l0.length ≤ 100000 := by omega
      clear g1 g2
      go_wp2_with (at_builtin; refine wpList_app8 H1 rfl _ _ rfl rfl rfl hs1 (by simp only [List.length_nil]; omega) ?_; intro ao2 n2 cap2 w2 N2 H2)
      rw [List.nil_append] at H2
      have s2 := H2.sl
      obtain rfl : n2 = l0.length := by rw [N2.out, List.nil_append]
      have b2 := H2.old
      clear H1 H2 hs1
      by_cases hex : ∃ l, DecOk l0 l
      · obtain ⟨l, hok⟩ := hex
        have Hok := Lib.hid hok
        clear hok
        refine (decode_any _ l0 _ s2 hll).mono ?_
        intro e w3 hr
        obtain ⟨v3, rfl, ho3, hb3⟩ := ret_yes Hok.out hr
        have b3 := b2.trans (hb3.mono b2.size)
        have s3 := ho3.sl
        clear hr ho3 hb3 b2 s2
        go_wp2_with fail
        refine (xdecode_any v0 l0 _ (h0.below' b3) hll).mono ?_
        intro e w4 hr
        obtain ⟨v4, rfl, ho4, hb4⟩ := ret_yes Hok.out hr
        have b4 := b3.trans (hb4.mono b3.size)
        have s4 := s3.below' hb4
        have t4 := ho4.sl
        clear hr ho4 hb4 b3 s3
        go_wp2_with fail
        refine (seek_any v0 l0 a1 a2 _ (h0.below' b4) hll).mono ?_
        intro e w5 hr
        obtain ⟨rfl, hb5⟩ := seek_yes Hok.out hr
        have b5 := b4.trans (hb5.mono b4.size)
        have s5 := s4.below' hb5
        have t5 := t4.below' hb5
        obtain ⟨c, hc⟩ : ∃ c, c = (seekC l a1 a2).1 := ⟨_, rfl⟩
        obtain ⟨ok, hok⟩ : ∃ ok, ok = (seekC l a1 a2).2 := ⟨_, rfl⟩
        rw [← hc, ← hok, Cl.agg]
        have HC := Lib.hid (And.intro hc hok)
        clear hr hb5 b4 s4 t4 hc hok
        have H5 := ((Hold.start w).keeps b5).addBlk (cs := #[.string c.key, .string c.val, .bool c.del, .int .i64 c.seq]) (t := 36) (b := w5.heap.size) rfl
        have s6 := s5.below' (below_one w5 (.cells #[.string c.key, .string c.val, .bool c.del, .int .i64 c.seq] 36))
        have t6 := t5.below' (below_one w5 (.cells #[.string c.key, .string c.val, .bool c.del, .int .i64 c.seq] 36))
        obtain ⟨b11, hb11⟩ : ∃ b11, b11 = w5.heap.size := ⟨_, rfl⟩
        obtain ⟨w6, hw6⟩ : ∃ w6, w6 = w5.alloc (.cells #[.string c.key, .string c.val, .bool c.del, .int .i64 c.seq] 36) := ⟨_, rfl⟩
        rw [← hb11, ← hw6] at H5
        rw [← hw6] at s6 t6
        go_wp2_with fail
        rw [← hb11, ← hw6]
        clear hb11 hw6 b5 s5 t5
        refine (xseek_any v0 l0 a1 a2 _ (h0.below' H5.old) hll).mono ?_
        intro e w7 hr
        obtain ⟨rfl, hb7⟩ := seek_yes Hok.out hr
        rw [← HC.out.1, ← HC.out.2, Cl.agg]
        have H7 := (H5.keeps hb7).addBlk (cs := #[.string c.key, .string c.val, .bool c.del, .int .i64 c.seq]) (t := 36) (b := w7.heap.size) rfl
        have s7 := (s6.below' hb7).below' (below_one w7 (.cells #[.string c.key, .string c.val, .bool c.del, .int .i64 c.seq] 36))
        have t7 := (t6.below' hb7).below' (below_one w7 (.cells #[.string c.key, .string c.val, .bool c.del, .int .i64 c.seq] 36))
        clear H5 s6 t6 hr hb7
        obtain ⟨b14, hb14⟩ : ∃ b14, b14 = w7.heap.size := ⟨_, rfl⟩
        obtain ⟨w8, hw8⟩ : ∃ w8, w8 = w7.alloc (.cells #[.string c.key, .string c.val, .bool c.del, .int .i64 c.seq] 36) := ⟨_, rfl⟩
        rw [← hb14, ← hw8] at H7
        rw [← hw8] at s7 t7
        go_wp2_with fail
        rw [← hb14, ← hw8]
        clear hb14 hw8
        refine (cells_same _ _ l _ s7 t7).mono ?_
        rintro e w9 ⟨rfl, hd⟩
        have H9 := H7.keeps hd.below
        have k0 := blk_cell H9.blk 0
        have k1 := blk_cell H9.blk 1
        have k2 := blk_cell H9.blk 2
        have k3 := blk_cell H9.blk 3
        have m0 := blk_cell H9.up2.blk 0
        have m1 := blk_cell H9.up2.blk 1
        have m2 := blk_cell H9.up2.blk 2
        have m3 := blk_cell H9.up2.blk 3
        have hq := fun w' : World => run_eqC c c w'
        simp only [eqC_self, Cl.agg] at hq
        have hoo : (ok == ok) = true := by simp
        have HH := Lib.hid H9.old
        clear H7 s7 t7 hd H9
        go_wp2_with fail
        refine (known_any _).mono ?_
        rintro e w10 ⟨rfl, hb10⟩
        have HF := Lib.hid (HH.out.trans (hb10.mono HH.out.size))
        clear hb10
        go_wp2
        go_ret
        exact ⟨rfl, HF.out⟩
      · have Hno : Hid (∀ l, ¬ DecOk l0 l) := Lib.hid fun l hl => hex ⟨l, hl⟩
        clear hex
        refine (decode_any _ l0 _ s2 hll).mono ?_
        intro e w3 hr
        obtain ⟨rfl, hb3⟩ := ret_no Hno.out hr
        have b3 := b2.trans (hb3.mono b2.size)
        clear hr hb3 b2 s2
        go_wp2_with fail
        refine (xdecode_any v0 l0 _ (h0.below' b3) hll).mono ?_
        intro e w4 hr
        obtain ⟨rfl, hb4⟩ := ret_no Hno.out hr
        have b4 := b3.trans (hb4.mono b3.size)
        clear hr hb4 b3
        go_wp2_with fail
        refine (seek_any v0 l0 a1 a2 _ (h0.below' b4) hll).mono ?_
        intro e w5 hr
        obtain ⟨rfl, hb5⟩ := seek_no Hno.out hr
        have b5 := b4.trans (hb5.mono b4.size)
        have s5 := Sl.nil w5 4
        have t5 := Sl.nil w5 4
        have hz : zeroC = Cl.agg ⟨⟨#[]⟩, ⟨#[]⟩, false, 0⟩ := rfl
        obtain ⟨c, hc⟩ : ∃ c : Cl, c = ⟨⟨#[]⟩, ⟨#[]⟩, false, 0⟩ := ⟨_, rfl⟩
        obtain ⟨ok, hok⟩ : ∃ ok, ok = false := ⟨_, rfl⟩
        rw [← hc] at hz
        rw [hz, ← hok, Cl.agg]
        have HC := Lib.hid (And.intro hz hok)
        clear hr hb5 b4 hc hz hok
        have H5 := ((Hold.start w).keeps b5).addBlk (cs := #[.string c.key, .string c.val, .bool c.del, .int .i64 c.seq]) (t := 36) (b := w5.heap.size) rfl
        have s6 := s5.below' (below_one w5 (.cells #[.string c.key, .string c.val, .bool c.del, .int .i64 c.seq] 36))
        have t6 := t5.below' (below_one w5 (.cells #[.string c.key, .string c.val, .bool c.del, .int .i64 c.seq] 36))
        obtain ⟨b11, hb11⟩ : ∃ b11, b11 = w5.heap.size := ⟨_, rfl⟩
        obtain ⟨w6, hw6⟩ : ∃ w6, w6 = w5.alloc (.cells #[.string c.key, .string c.val, .bool c.del, .int .i64 c.seq] 36) := ⟨_, rfl⟩
        rw [← hb11, ← hw6] at H5
        rw [← hw6] at s6 t6
        go_wp2_with fail
        rw [← hb11, ← hw6]
        clear hb11 hw6 b5 s5 t5
        refine (xseek_any v0 l0 a1 a2 _ (h0.below' H5.old) hll).mono ?_
        intro e w7 hr
        obtain ⟨rfl, hb7⟩ := seek_no Hno.out hr
        rw [HC.out.1, ← HC.out.2, Cl.agg]
        have H7 := (H5.keeps hb7).addBlk (cs := #[.string c.key, .string c.val, .bool c.del, .int .i64 c.seq]) (t := 36) (b := w7.heap.size) rfl
        have s7 := (s6.below' hb7).below' (below_one w7 (.cells #[.string c.key, .string c.val, .bool c.del, .int .i64 c.seq] 36))
        have t7 := (t6.below' hb7).below' (below_one w7 (.cells #[.string c.key, .string c.val, .bool c.del, .int .i64 c.seq] 36))
        clear H5 s6 t6 hr hb7
        obtain ⟨b14, hb14⟩ : ∃ b14, b14 = w7.heap.size := ⟨_, rfl⟩
        obtain ⟨w8, hw8⟩ : ∃ w8, w8 = w7.alloc (.cells #[.string c.key, .string c.val, .bool c.del, .int .i64 c.seq] 36) := ⟨_, rfl⟩
        rw [← hb14, ← hw8] at H7
        rw [← hw8] at s7 t7
        go_wp2_with fail
        rw [← hb14, ← hw8]
        clear hb14 hw8
        refine (cells_same _ _ [] _ s7 t7).mono ?_
        rintro e w9 ⟨rfl, hd⟩
        have H9 := H7.keeps hd.below
        have k0 := blk_cell H9.blk 0
        have k1 := blk_cell H9.blk 1
        have k2 := blk_cell H9.blk 2
        have k3 := blk_cell H9.blk 3
        have m0 := blk_cell H9.up2.blk 0
        have m1 := blk_cell H9.up2.blk 1
        have m2 := blk_cell H9.up2.blk 2
        have m3 := blk_cell H9.up2.blk 3
        have hq := fun w' : World => run_eqC c c w'
        simp only [eqC_self, Cl.agg] at hq
        have hoo : (ok == ok) = true := by simp
        have HH := Lib.hid H9.old
        clear H7 s7 t7 hd H9
        go_wp2_with fail
        refine (known_any _).mono ?_
        rintro e w10 ⟨rfl, hb10⟩
        have HF := Lib.hid (HH.out.trans (hb10.mono HH.out.size))
        clear hb10
        go_wp2
        go_ret
        exact ⟨rfl, HF.out⟩
end Go.Proofs.Ytgmnpgohkabfcaa.blockDecodes
