/-
  'BlockLooks' answers true: the program's Less, Is and Size of cells hand back what the reference's do. Conditions: none beside what a row says of every argument.
-/
import Derived.Test.YtgmnpgohkabfcaaBlockLib
import Derived.Test.YtgmnpgohkabfcaaArgCells
import Derived.Test.YtgmnpgohkabfcaaAssoc
import Derived.Deep.DrawnRows
namespace Go.Proofs.Ytgmnpgohkabfcaa.blockLooks
open Go.RowKit L Oct Bl
structure Two (w : World) (b2 b3 : Nat) (a b : Cl) (w' : World) : Prop where
  hold : Hold w ((Blk b2 #[.string a.key, .string a.val, .bool a.del, .int .i64 a.seq] 36).sep ((Blk b3 #[.string b.key, .string b.val, .bool b.del, .int .i64 b.seq] 36).sep Asrt.emp)) w'
def S (w : World) (b2 b3 : Nat) (a b : Cl) (w' : World) : Prop := Two w b2 b3 a b w' ∧
  (w'.cell? ⟨b2, 0, none⟩ = some (.string a.key) ∧ w'.cell? ⟨b2, 1, none⟩ = some (.string a.val) ∧ w'.cell? ⟨b2, 2, none⟩ = some (.bool a.del) ∧ w'.cell? ⟨b2, 3, none⟩ = some (.int .i64 a.seq)) ∧
  (w'.cell? ⟨b3, 0, none⟩ = some (.string b.key) ∧ w'.cell? ⟨b3, 1, none⟩ = some (.string b.val) ∧ w'.cell? ⟨b3, 2, none⟩ = some (.bool b.del) ∧ w'.cell? ⟨b3, 3, none⟩ = some (.int .i64 b.seq))
theorem two_all {w : World} {b2 b3 : Nat} {a b : Cl} {w' : World} (h : Two w b2 b3 a b w') : S w b2 b3 a b w' :=
  ⟨h, ⟨blk_cell (Hold.blk h.hold) 0, blk_cell (Hold.blk h.hold) 1, blk_cell (Hold.blk h.hold) 2, blk_cell (Hold.blk h.hold) 3⟩, ⟨blk_cell (Hold.blk (Hold.up2 h.hold)) 0, blk_cell (Hold.blk (Hold.up2 h.hold)) 1, blk_cell (Hold.blk (Hold.up2 h.hold)) 2, blk_cell (Hold.blk (Hold.up2 h.hold)) 3⟩⟩
theorem two_next {w : World} {b2 b3 : Nat} {a b : Cl} {w1 w' : World} (hb : Below w1.heap.size w1 w') (h : Two w b2 b3 a b w1) : S w b2 b3 a b w' := two_all ⟨Hold.keeps h.hold hb⟩
set_option maxRecDepth 1000000 in
set_option maxHeartbeats 3200000 in
theorem walk {w : World} (c0 : Cl) (i0 : CellIn c0) (c1 : Cl) (i1 : CellIn c1) :
    Calls Try.prog 9 #[c0.agg, c1.agg] w fun e w' => e = .returned (.bool true) ∧ Below w.heap.size w w' := by
  show Calls Try.prog 9 #[.agg #[.string c0.key, .string c0.val, .bool c0.del, .int .i64 c0.seq], .agg #[.string c1.key, .string c1.val, .bool c1.del, .int .i64 c1.seq]] w _
  have H := (((Hold.start w).addBlk (cs := #[.string c0.key, .string c0.val, .bool c0.del, .int .i64 c0.seq]) (t := 36) (b := w.heap.size) rfl).addBlk (cs := #[.string c1.key, .string c1.val, .bool c1.del, .int .i64 c1.seq]) (t := 36) (b := w.heap.size + 1) (by simp)).up2
  obtain ⟨hk0, hv0, _⟩ := i0
  obtain ⟨hk1, hv1, _⟩ := i1
  go_enter Try.func9, Try.ntmps9
  by_cases hl : 40000 < c0.key.size + c0.val.size + c1.key.size + c1.val.size
  · have g1 : decide ((40000 : Int) < (c0.key.size : Int) + (c0.val.size : Int) + (c1.key.size : Int) + (c1.val.size : Int)) = true := by simp; omega
    go_wp2
    go_ret
    exact ⟨rfl, H.old⟩
  · have g1 : decide ((40000 : Int) < (c0.key.size : Int) + (c0.val.size : Int) + (c1.key.size : Int) + (c1.val.size : Int)) = false := by simp; omega
    go_upto_region 3 with fail
    have hT : S w w.heap.size (w.heap.size + 1) c0 c1 _ := two_all ⟨H⟩
    obtain ⟨b2, hb2⟩ : ∃ b2, b2 = w.heap.size := ⟨_, rfl⟩
    obtain ⟨b3, hb3⟩ : ∃ b3, b3 = w.heap.size + 1 := ⟨_, rfl⟩
    obtain ⟨w2, hw2⟩ : ∃ w2, w2 = (w.alloc (.cells #[.string c0.key, .string c0.val, .bool c0.del, .int .i64 c0.seq] 36)).alloc (.cells #[.string c1.key, .string c1.val, .bool c1.del, .int .i64 c1.seq] 36) := ⟨_, rfl⟩
    rw [← hw2, ← hb3, ← hb2] at hT
    rw [← hw2, ← hb3, ← hb2]
    clear hb2 hb3 hw2 H
    have e1 : (lessC c0 c1 == lessC c0 c1) = true := by simp
    have e2 : (isC c0 == isC c0) = true := by simp
    have hT := two_all ⟨Hold.drew hT.1.hold⟩
    go_region_held3 (fun w' => Two w b2 b3 c0 c1 w' ∧
      (w'.cell? ⟨b2, 0, none⟩ = some (.string c0.key) ∧ w'.cell? ⟨b2, 1, none⟩ = some (.string c0.val) ∧ w'.cell? ⟨b2, 2, none⟩ = some (.bool c0.del) ∧ w'.cell? ⟨b2, 3, none⟩ = some (.int .i64 c0.seq)) ∧
      (w'.cell? ⟨b3, 0, none⟩ = some (.string c1.key) ∧ w'.cell? ⟨b3, 1, none⟩ = some (.string c1.val) ∧ w'.cell? ⟨b3, 2, none⟩ = some (.bool c1.del) ∧ w'.cell? ⟨b3, 3, none⟩ = some (.int .i64 c1.seq)))
      (first | exact hT | go_keep)
      (first
        | (go_at_call 20; refine (less_any c0 c1 _).mono ?_; rintro e w5 ⟨rfl, hb5⟩; have hT := two_next hb5 hT.1; clear hb5)
        | (go_at_call 21; refine (xless_any c0 c1 _).mono ?_; rintro e w5 ⟨rfl, hb5⟩; have hT := two_next hb5 hT.1; clear hb5)
        | (go_at_call 22; refine (is_any c0 _).mono ?_; rintro e w5 ⟨rfl, hb5⟩; have hT := two_next hb5 hT.1; clear hb5)
        | (go_at_call 23; refine (xis_any c0 _).mono ?_; rintro e w5 ⟨rfl, hb5⟩; have hT := two_next hb5 hT.1; clear hb5)
        | (go_at_call 24; refine (size_any c0 _ (by omega)).mono ?_; rintro e w5 ⟨rfl, hb5⟩; have hT := two_next hb5 hT.1; clear hb5)
        | (go_at_call 25; refine (xsize_any c0 _ (by omega)).mono ?_; rintro e w5 ⟨rfl, hb5⟩; have hT := two_next hb5 hT.1; clear hb5)
        | (go_at_call 13; refine (known_any _).mono ?_; rintro e w5 ⟨rfl, hb5⟩; have hT := two_next hb5 hT.1; clear hb5))
    go_wp2
    go_ret
    exact ⟨rfl, hT.1.hold.old⟩
end Go.Proofs.Ytgmnpgohkabfcaa.blockLooks
