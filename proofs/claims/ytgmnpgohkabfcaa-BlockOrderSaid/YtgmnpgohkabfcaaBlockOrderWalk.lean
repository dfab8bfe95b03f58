/-
  'BlockOrder' answers true: of two cells just one is ahead, unless they have one key and one number; and what is ahead of what is ahead is ahead. Conditions: none beside what a row says of every argument.
-/
import Derived.Test.YtgmnpgohkabfcaaBlockLib
import Derived.Test.YtgmnpgohkabfcaaBlockOrderPure
import Derived.Test.YtgmnpgohkabfcaaArgCells
import Derived.Test.YtgmnpgohkabfcaaAssoc
namespace Go.Proofs.Ytgmnpgohkabfcaa.blockOrder
open Go.RowKit L Oct Bl
def cb (b : Nat) (c : Cl) : Asrt := Blk b #[.string c.key, .string c.val, .bool c.del, .int .i64 c.seq] 36
structure Three (w : World) (b3 b4 b5 : Nat) (a b c : Cl) (w' : World) : Prop where
  hold : Hold w ((cb b3 a).sep ((cb b4 b).sep ((cb b5 c).sep Asrt.emp))) w'
def Cells4 (p : Nat) (a : Cl) (w' : World) : Prop := w'.cell? ⟨p, 0, none⟩ = some (.string a.key) ∧ w'.cell? ⟨p, 1, none⟩ = some (.string a.val) ∧ w'.cell? ⟨p, 2, none⟩ = some (.bool a.del) ∧ w'.cell? ⟨p, 3, none⟩ = some (.int .i64 a.seq)
theorem cb_cells {W0 w : World} {R : Asrt} {p : Nat} {a : Cl} (h : Hold W0 ((cb p a).sep R) w) : Cells4 p a w :=
  ⟨blk_cell (Hold.blk h) 0, blk_cell (Hold.blk h) 1, blk_cell (Hold.blk h) 2, blk_cell (Hold.blk h) 3⟩
theorem three_all {w : World} {b3 b4 b5 : Nat} {a b c : Cl} {w' : World} (h : Three w b3 b4 b5 a b c w') : Three w b3 b4 b5 a b c w' ∧ Cells4 b3 a w' ∧ Cells4 b4 b w' ∧ Cells4 b5 c w' :=
  ⟨h, cb_cells h.hold, cb_cells (Hold.up2 h.hold), cb_cells (Hold.up3 h.hold)⟩
theorem three_next {w : World} {b3 b4 b5 : Nat} {a b c : Cl} {w1 w' : World} (hb : Below w1.heap.size w1 w') (h : Three w b3 b4 b5 a b c w1) : Three w b3 b4 b5 a b c w' ∧ Cells4 b3 a w' ∧ Cells4 b4 b w' ∧ Cells4 b5 c w' := three_all ⟨Hold.keeps h.hold hb⟩
set_option maxRecDepth 1000000 in
set_option maxHeartbeats 3200000 in
theorem walk {w : World} (c0 : Cl) (i0 : CellIn c0) (c1 : Cl) (i1 : CellIn c1) (c2 : Cl) (i2 : CellIn c2) :
    Calls Try.prog 6 #[c0.agg, c1.agg, c2.agg] w fun e w' => e = .returned (.bool true) ∧ Below w.heap.size w w' := by
  show Calls Try.prog 6 #[.agg #[.string c0.key, .string c0.val, .bool c0.del, .int .i64 c0.seq], .agg #[.string c1.key, .string c1.val, .bool c1.del, .int .i64 c1.seq], .agg #[.string c2.key, .string c2.val, .bool c2.del, .int .i64 c2.seq]] w _
  have H := (((((Hold.start w).addBlk (cs := #[.string c0.key, .string c0.val, .bool c0.del, .int .i64 c0.seq]) (t := 36) (b := w.heap.size) rfl).addBlk (cs := #[.string c1.key, .string c1.val, .bool c1.del, .int .i64 c1.seq]) (t := 36) (b := w.heap.size + 1) (by simp)).up2).addBlk (cs := #[.string c2.key, .string c2.val, .bool c2.del, .int .i64 c2.seq]) (t := 36) (b := w.heap.size + 1 + 1) (by simp)).up2.up3.up2
  obtain ⟨hk0, hv0, _⟩ := i0
  obtain ⟨hk1, hv1, _⟩ := i1
  obtain ⟨hk2, hv2, _⟩ := i2
  go_enter Try.func6, Try.ntmps6
  by_cases hl : 10000 < c0.key.size + c1.key.size + c2.key.size
  · have g1 : decide ((10000 : Int) < (c0.key.size : Int) + (c1.key.size : Int) + (c2.key.size : Int)) = true := by simp; omega
    go_wp2
    go_ret
    exact ⟨rfl, H.old⟩
  · have g1 : decide ((10000 : Int) < (c0.key.size : Int) + (c1.key.size : Int) + (c2.key.size : Int)) = false := by simp; omega
    go_upto_region 3 with fail
    have hT : Three w w.heap.size (w.heap.size + 1) (w.heap.size + 1 + 1) c0 c1 c2 _ := ⟨H⟩
    obtain ⟨b3, hb3⟩ : ∃ b3, b3 = w.heap.size := ⟨_, rfl⟩
    obtain ⟨b4, hb4⟩ : ∃ b4, b4 = w.heap.size + 1 := ⟨_, rfl⟩
    obtain ⟨b5, hb5⟩ : ∃ b5, b5 = w.heap.size + 1 + 1 := ⟨_, rfl⟩
    obtain ⟨w2, hw2⟩ : ∃ w2, w2 = ((w.alloc (.cells #[.string c0.key, .string c0.val, .bool c0.del, .int .i64 c0.seq] 36)).alloc (.cells #[.string c1.key, .string c1.val, .bool c1.del, .int .i64 c1.seq] 36)).alloc (.cells #[.string c2.key, .string c2.val, .bool c2.del, .int .i64 c2.seq] 36) := ⟨_, rfl⟩
    rw [← hw2, ← hb5, ← hb4, ← hb3] at hT
    rw [← hw2, ← hb5, ← hb4, ← hb3]
    clear hb3 hb4 hb5 hw2 H g1 hl
    obtain ⟨_, ⟨a0, a1, a2, a3⟩, ⟨d0, d1, d2, d3⟩, _⟩ := three_all hT
    have hone : Hid (c0.key.toList = c1.key.toList → c0.seq = c1.seq → lessC c0 c1 = false ∧ lessC c1 c0 = false) := Lib.hid fun h1 h2 => ⟨lessC_one h1 h2, lessC_one h1.symm h2.symm⟩
    have htwo : Hid (¬ (c0.key.toList = c1.key.toList ∧ c0.seq = c1.seq) → lessC c0 c1 = !lessC c1 c0) := Lib.hid lessC_two
    have htr : Hid (lessC c0 c1 = true → lessC c1 c2 = true → lessC c0 c2 = true) := Lib.hid lessC_trans
    cases hKE : (c0.key.toList == c1.key.toList) <;> cases hSE : (c0.seq == c1.seq)
    all_goals
      have hxy : Hid ((lessC c0 c1 = false ∧ lessC c1 c0 = false ∧ (c0.key.toList == c1.key.toList) = true ∧ (c0.seq == c1.seq) = true) ∨ (lessC c0 c1 = !lessC c1 c0 ∧ ¬ ((c0.key.toList == c1.key.toList) = true ∧ (c0.seq == c1.seq) = true))) := Lib.hid (by
        by_cases h : c0.key.toList = c1.key.toList ∧ c0.seq = c1.seq
        · exact .inl ⟨(hone.out h.1 h.2).1, (hone.out h.1 h.2).2, by simpa using h.1, by simpa using h.2⟩
        · exact .inr ⟨htwo.out h, by simpa using h⟩)
      go_upto_region 4 with fail
      clear a0 a1 a2 a3 d0 d1 d2 d3
      have hT := three_all ⟨hT.hold.drew⟩
      go_region_held3 (fun w' => Three w b3 b4 b5 c0 c1 c2 w' ∧ (w'.cell? ⟨b3, 0, none⟩ = some (.string c0.key) ∧ w'.cell? ⟨b3, 1, none⟩ = some (.string c0.val) ∧ w'.cell? ⟨b3, 2, none⟩ = some (.bool c0.del) ∧ w'.cell? ⟨b3, 3, none⟩ = some (.int .i64 c0.seq)) ∧ (w'.cell? ⟨b4, 0, none⟩ = some (.string c1.key) ∧ w'.cell? ⟨b4, 1, none⟩ = some (.string c1.val) ∧ w'.cell? ⟨b4, 2, none⟩ = some (.bool c1.del) ∧ w'.cell? ⟨b4, 3, none⟩ = some (.int .i64 c1.seq)) ∧ (w'.cell? ⟨b5, 0, none⟩ = some (.string c2.key) ∧ w'.cell? ⟨b5, 1, none⟩ = some (.string c2.val) ∧ w'.cell? ⟨b5, 2, none⟩ = some (.bool c2.del) ∧ w'.cell? ⟨b5, 3, none⟩ = some (.int .i64 c2.seq))) (first | exact hT | go_keep)
        (first | (go_at_call 20; refine (less_any _ _ _).mono ?_; rintro e w5 ⟨rfl, hb5⟩; have hT := three_next hb5 hT.1; clear hb5))
      rw [hKE, hSE] at hxy
      generalize hX : lessC c0 c1 = x at *
      generalize hY : lessC c1 c0 = y at *
      clear hX hY hone htwo
      obtain ⟨hT1, ⟨a0, a1, a2, a3⟩, ⟨d0, d1, d2, d3⟩, ⟨e0, e1, e2, e3⟩⟩ := hT
      cases x <;> cases y
      all_goals
        first
        | (exfalso; have hbad := hxy.out; simp at hbad; done)
        | (clear hxy
           go_wp2_with fail
           refine (known_any _).mono ?_
           rintro e w6 ⟨rfl, hb6⟩
           have HF := Lib.hid (Hold.keeps hT1.hold hb6).old
           clear hb6 hT1 a0 a1 a2 a3 d0 d1 d2 d3 e0 e1 e2 e3
           go_wp2
           go_ret
           exact ⟨rfl, HF.out⟩)
        | (clear hxy
           go_wp2_with fail
           refine (less_any c1 c2 _).mono ?_
           rintro e w6 ⟨rfl, hb6⟩
           have hT := three_next hb6 hT1
           clear hb6 hT1 a0 a1 a2 a3 d0 d1 d2 d3 e0 e1 e2 e3
           obtain ⟨hT1, ⟨a0, a1, a2, a3⟩, ⟨d0, d1, d2, d3⟩, ⟨e0, e1, e2, e3⟩⟩ := hT
           cases hz : lessC c1 c2 with
           | false =>
             clear htr
             go_wp2_with fail
             refine (known_any _).mono ?_
             rintro e w7 ⟨rfl, hb7⟩
             have HF := Lib.hid (Hold.keeps hT1.hold hb7).old
             clear hb7 hT1 a0 a1 a2 a3 d0 d1 d2 d3 e0 e1 e2 e3
             go_wp2
             go_ret
             exact ⟨rfl, HF.out⟩
           | true =>
             have hz2 := htr.out (by trivial) hz
             clear htr
             go_wp2_with fail
             refine (less_any c0 c2 _).mono ?_
             rintro e w7 ⟨rfl, hb7⟩
             have hT := three_next hb7 hT1
             rw [hz2]
             clear hb7 hT1 a0 a1 a2 a3 d0 d1 d2 d3 e0 e1 e2 e3 hz hz2
             obtain ⟨hT1, _⟩ := hT
             go_wp2_with fail
             refine (known_any _).mono ?_
             rintro e w8 ⟨rfl, hb8⟩
             have HF := Lib.hid (Hold.keeps hT1.hold hb8).old
             clear hb8 hT1
             go_wp2
             go_ret
             exact ⟨rfl, HF.out⟩)
end Go.Proofs.Ytgmnpgohkabfcaa.blockOrder
