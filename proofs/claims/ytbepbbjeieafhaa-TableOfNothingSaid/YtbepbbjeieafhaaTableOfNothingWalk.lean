/-
  'TableOfNothing' answers true: a nil Table has no cell; none is built of none. Conditions: none beside what a row says of every argument.
-/
import Derived.Test.YtbepbbjeieafhaaM8
namespace Go.Proofs.Ytbepbbjeieafhaa.tableOfNothing
open Go.RowKit L Oct Bl Tb
theorem build_none : buildN [] = 1 := rfl
theorem buildR_none : buildR [] = [] := rfl
set_option maxRecDepth 100000 in
set_option maxHeartbeats 1600000 in
theorem walk {w : World} (a0 : ByteArray) (_w0 : a0.size ≤ 140737488351232) (a1 : Int) (_w1 : (Lit.int .i64 a1).wf = true) :
    Calls Try.prog 8 #[.string a0, .int .i64 a1] w fun e w' => e = .returned (.bool true) ∧ Below w.heap.size w w' := by
  by_cases hk : 200 < a0.size
  · have g1 : decide ((200 : Int) < (a0.size : Int)) = true := by simp; omega
    go_enter Try.func8, Try.ntmps8
    go_wp2
    go_ret
    exact ⟨rfl, Below.refl _ _⟩
  · have g1 : decide ((200 : Int) < (a0.size : Int)) = false := by simp; omega
    go_enter Try.func8, Try.ntmps8
    go_wp2_with fail
    refine (get_nil w a0 a1).mono ?_
    rintro e w1 ⟨rfl, hb1⟩
    unfold zeroC
    have H1 := ((Hold.start w).keeps hb1).addBlk (cs := #[.string ⟨#[]⟩, .string ⟨#[]⟩, .bool false, .int .i64 0]) (t := 39) (b := w1.heap.size) rfl
    clear hb1 g1 hk
    go_upto_region 5 with fail
    obtain ⟨b6, hb6⟩ : ∃ b6, b6 = w1.heap.size := ⟨_, rfl⟩
    obtain ⟨w2, hw2⟩ : ∃ w2, w2 = w1.alloc (.cells #[.string ⟨#[]⟩, .string ⟨#[]⟩, .bool false, .int .i64 0] 39) := ⟨_, rfl⟩
    rw [← hb6, ← hw2] at H1
    rw [← hb6, ← hw2]
    clear hb6 hw2
    go_wp2_with fail
    refine (build_any _ [] w2 (Sl.nil w2 4) (fun h => by rw [build_none] at h; cases h)).mono ?_
    rintro e w3 ⟨v3, rfl, ho3, hb3⟩
    rw [build_none]
    rw [buildR_none] at ho3
    have hlen3 := ho3.sl.run_len Try.underlying24
    have H3 := H1.keeps hb3
    have k0 := blk_cell H3.blk 0
    have k1 := blk_cell H3.blk 1
    have k2 := blk_cell H3.blk 2
    have k3 := blk_cell H3.blk 3
    have hlen0 := (Sl.nil w3 4).run_len Try.underlying22
    have hq := fun w' : World => run_eqC ⟨⟨#[]⟩, ⟨#[]⟩, false, 0⟩ ⟨⟨#[]⟩, ⟨#[]⟩, false, 0⟩ w'
    simp only [eqC_self, Cl.agg] at hq
    have HH := Lib.hid H3.old
    clear H1 H3 ho3 hb3
    go_wp2_with (first
      | (go_at_call 20; refine (scan_nil _ _ _).mono ?_; rintro e w4 ⟨rfl, rfl⟩)
      | (go_at_call 21; refine (len_nil _).mono ?_; rintro e w4 ⟨rfl, rfl⟩)
      | (go_at_call 25; refine (first8_nil _).mono ?_; rintro e w4 ⟨rfl, rfl⟩)
      | (go_at_call 26; refine (last8_nil _).mono ?_; rintro e w4 ⟨rfl, rfl⟩)
      | (go_at_call 22; refine (blocks8_nil _).mono ?_; rintro e w4 ⟨rfl, rfl⟩)
      | (go_at_call 13; refine (Tb.known_any _).mono ?_; rintro e w5 ⟨rfl, hb5⟩; have HF := Lib.hid (HH.out.trans (hb5.mono HH.out.size)); clear hb5)
      | fail)
    go_ret
    exact ⟨rfl, HF.out⟩
end Go.Proofs.Ytbepbbjeieafhaa.tableOfNothing
