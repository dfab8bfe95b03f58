/-
  'BlockSeeks' answers true: by a greater number a newer cell is found, or the same; none newer than the number. Conditions: none beside what a row says of every argument.
-/
import Derived.Test.YtgmnpgohkabfcaaBlockLib
import Derived.Test.YtgmnpgohkabfcaaBlockYes
import Derived.Test.YtgmnpgohkabfcaaBlockBackPure
import Derived.Test.YtgmnpgohkabfcaaBlockEncLe
import Derived.Test.YtgmnpgohkabfcaaArgCells
namespace Go.Proofs.Ytgmnpgohkabfcaa.blockSeeks
open Go.RowKit L Oct Bl
set_option maxRecDepth 1000000 in
set_option maxHeartbeats 3200000 in
theorem walk {w : World} (v0 : Value) (l0 : List Cl) (h0 : Sl w 4 v0 l0.length (cls l0)) (_b0 : l0.length * 48 ≤ 140737488351232) (i0 : ∀ c ∈ l0, CellIn c) (a1 : ByteArray) (_w1 : a1.size ≤ 140737488351232) (a2 : Int) (_w2 : (Lit.int .i64 a2).wf = true) (a3 : Int) (_w3 : (Lit.int .i64 a3).wf = true) :
    Calls Try.prog 7 #[v0, .string a1, .int .i64 a2, .int .i64 a3] w fun e w' => e = .returned (.bool true) ∧ Below w.heap.size w w' := by
  have Hi := Lib.hid i0
  clear i0 _b0 _w1 _w2 _w3
  go_enter Try.func7, Try.ntmps7
  go_wp2_with fail
  refine (heavy_any v0 l0 w h0 fun c hc => ⟨(Hi.out c hc).1, (Hi.out c hc).2.1⟩).mono ?_
  rintro e w1 ⟨b, rfl, hhv, hb1⟩
  cases b with
  | true =>
    go_wp2
    go_ret
    exact ⟨rfl, hb1⟩
  | false =>
    obtain ⟨hwt, hl⟩ := hhv rfl
    clear hhv
    go_wp2_with fail
    refine (xrise_any v0 l0 _ (h0.below' hb1)).mono ?_
    rintro e w2 ⟨rfl, hb2⟩
    have b2 := hb1.trans (hb2.mono hb1.size)
    have h11 := riseN_small l0
    clear hb1 hb2
    by_cases hr : riseN l0 = 0
    · have hz : ((riseN l0 : Int) != 0) = false := by simp [hr]
      have hR : Hid (encR l0 = encL l0) := Lib.hid (by rw [encR, if_pos hr])
      have hle := encL_le hr hl hwt
      have Hr := Lib.hid hr
      have Hok : Hid (DecOk (encL l0) l0) := Lib.hid ⟨hr, rfl⟩
      clear hr
      by_cases hk : 200 < a1.size
      · have g1 : decide ((200 : Int) < (a1.size : Int)) = true := by simp; omega
        go_wp2
        go_ret
        exact ⟨rfl, b2⟩
      · have g1 : decide ((200 : Int) < (a1.size : Int)) = false := by simp; omega
        by_cases hab : a3 < a2
        · have g2 : decide (a3 < a2) = true := by simpa using hab
          go_wp2
          go_ret
          exact ⟨rfl, b2⟩
        · have g2 : decide (a3 < a2) = false := by simpa using hab
          have hmore := Lib.hid (fun hx => seek_more Hr.out (key := a1) (a := a2) (b := a3) (by omega) hx)
          have hnot := Lib.hid (fun hx => seek_not_above (l := l0) (key := a1) (b := a3) hx)
          clear hab
          go_wp2_with fail
          refine (encode_any v0 l0 _ (h0.below' b2) (by omega)).mono ?_
          rintro e w3 ⟨v3, rfl, ho3, hb3⟩
          rw [hR.out] at ho3
          have b3 := b2.trans (hb3.mono b2.size)
          have s3 := ho3.sl
          clear ho3 hb3 b2 g1 g2
          go_wp2_with fail
          refine (seek_any v3 (encL l0) a1 a2 _ s3 hle).mono ?_
          intro e w4 hr
          obtain ⟨rfl, hb4⟩ := seek_yes Hok.out hr
          have H4 := ((Hold.start w).keeps (b3.trans (hb4.mono b3.size)))
          have s4 := s3.below' hb4
          obtain ⟨x, hx⟩ : ∃ x, x = (seekC l0 a1 a2).1 := ⟨_, rfl⟩
          obtain ⟨ok, hok⟩ : ∃ ok, ok = (seekC l0 a1 a2).2 := ⟨_, rfl⟩
          rw [← hx, ← hok] at hmore
          rw [← hx, ← hok, Cl.agg]
          have H5 := H4.addBlk (cs := #[.string x.key, .string x.val, .bool x.del, .int .i64 x.seq]) (t := 36) (b := w4.heap.size) rfl
          have s5 := s4.below' (below_one w4 (.cells #[.string x.key, .string x.val, .bool x.del, .int .i64 x.seq] 36))
          clear hr hb4 b3 s3 hx hok H4 s4
          obtain ⟨b11, hb11⟩ : ∃ b11, b11 = w4.heap.size := ⟨_, rfl⟩
          obtain ⟨w5, hw5⟩ : ∃ w5, w5 = w4.alloc (.cells #[.string x.key, .string x.val, .bool x.del, .int .i64 x.seq] 36) := ⟨_, rfl⟩
          rw [← hb11, ← hw5] at H5
          rw [← hw5] at s5
          go_wp2_with fail
          rw [← hb11, ← hw5]
          clear hb11 hw5
          refine (seek_any v3 (encL l0) a1 a3 _ s5 hle).mono ?_
          intro e w6 hr
          obtain ⟨rfl, hb6⟩ := seek_yes Hok.out hr
          obtain ⟨y, hy⟩ : ∃ y, y = (seekC l0 a1 a3).1 := ⟨_, rfl⟩
          obtain ⟨ys, hys⟩ : ∃ ys, ys = (seekC l0 a1 a3).2 := ⟨_, rfl⟩
          rw [← hy, ← hys] at hmore hnot
          rw [← hy, ← hys, Cl.agg]
          have H7 := (H5.keeps hb6).addBlk (cs := #[.string y.key, .string y.val, .bool y.del, .int .i64 y.seq]) (t := 36) (b := w6.heap.size) rfl
          clear hr hb6 hy hys H5 s5
          obtain ⟨b14, hb14⟩ : ∃ b14, b14 = w6.heap.size := ⟨_, rfl⟩
          obtain ⟨w7, hw7⟩ : ∃ w7, w7 = w6.alloc (.cells #[.string y.key, .string y.val, .bool y.del, .int .i64 y.seq] 36) := ⟨_, rfl⟩
          rw [← hb14, ← hw7] at H7
          go_upto_region 8 with fail
          rw [← hb14, ← hw7]
          clear hb14 hw7
          have k0 := blk_cell H7.blk 0
          have k3 := blk_cell H7.blk 3
          have m0 := blk_cell H7.up2.blk 0
          have m3 := blk_cell H7.up2.blk 3
          have HH := Lib.hid H7.old
          clear H7
          cases ok with
          | true =>
            obtain ⟨q1, q2, q3, q4⟩ := hmore.out rfl
            subst q1
            have q5 := hnot.out rfl
            clear hmore hnot
            go_wp2_with fail
            refine (known_any _).mono ?_
            rintro e w8 ⟨rfl, hb8⟩
            have HF := Lib.hid (HH.out.trans (hb8.mono HH.out.size))
            clear hb8
            go_wp2
            go_ret
            exact ⟨rfl, HF.out⟩
          | false =>
            cases ys with
            | true =>
              have q5 := hnot.out rfl
              clear hmore hnot
              go_wp2_with fail
              refine (known_any _).mono ?_
              rintro e w8 ⟨rfl, hb8⟩
              have HF := Lib.hid (HH.out.trans (hb8.mono HH.out.size))
              clear hb8
              go_wp2
              go_ret
              exact ⟨rfl, HF.out⟩
            | false =>
              clear hmore hnot
              go_wp2_with fail
              refine (known_any _).mono ?_
              rintro e w8 ⟨rfl, hb8⟩
              have HF := Lib.hid (HH.out.trans (hb8.mono HH.out.size))
              clear hb8
              go_wp2
              go_ret
              exact ⟨rfl, HF.out⟩
    · have hz : ((riseN l0 : Int) != 0) = true := by simp [hr]
      clear hr
      go_wp2
      go_ret
      exact ⟨rfl, b2⟩
end Go.Proofs.Ytgmnpgohkabfcaa.blockSeeks
