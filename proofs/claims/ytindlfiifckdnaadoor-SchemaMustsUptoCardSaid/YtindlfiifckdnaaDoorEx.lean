/-
  An object of which a part is not named; a store into a block. Over any program.
-/
import Derived.Test.YtindlfiifckdnaaDoorAssoc
namespace Go.Proofs.YtindlfiifckdnaaDoor.L
open Go.RowKit
/-- some object of a family -/
def ExA {α : Type} (f : α → Asrt) : Asrt where
  at_ F w := ∃ a, (f a).at_ F w
  stay := by
    rintro F w w' ⟨a, h⟩ hk
    exact ⟨a, (f a).stay h hk⟩
  lt := by
    rintro F w ⟨a, h⟩ k hk
    exact (f a).lt h k hk
section
variable {W0 w : World} {R : Asrt} {α : Type} {f : α → Asrt}
theorem Hold.unex (h : Hold W0 ((ExA f).sep R) w) : ∃ a, Hold W0 ((f a).sep R) w := by
  obtain ⟨h1, F, hF, F1, F2, h2, h3, ⟨a, h4⟩, h5⟩ := h
  exact ⟨a, h1, F, hF, F1, F2, h2, h3, h4, h5⟩
theorem Hold.toex (a : α) (h : Hold W0 ((f a).sep R) w) : Hold W0 ((ExA f).sep R) w := by
  obtain ⟨h1, F, hF, F1, F2, h2, h3, h4, h5⟩ := h
  exact ⟨h1, F, hF, F1, F2, h2, h3, ⟨a, h4⟩, h5⟩
theorem Hold.setB {b : Nat} {cs : Array Value} {t : TypeId} (h : Hold W0 ((Blk b cs t).sep R) w) (j : Nat) (v : Value) : Hold W0 ((Blk b (cs.setIfInBounds j v) t).sep R) (w.setCell ⟨b, j, none⟩ v) := by
  obtain ⟨F, ⟨hb, hF⟩, hge, hup⟩ := h.take
  exact hup _ (Blk b (cs.setIfInBounds j v) t) F ((Keeps.refl F w).setCell (fun _ => (hF b).2 rfl) _) ⟨blk_set hb j v, hF⟩ (fun k hk => .inl hk)
theorem emp_sep (A : Asrt) : Asrt.emp.sep A = A := Asrt.ext fun F w => by
  constructor
  · rintro ⟨F1, F2, h2, h3, h4, h5⟩
    have : F = F2 := by
      funext k
      exact propext ((h2 k).trans ⟨fun h => h.resolve_left (h4 k), .inr⟩)
    rw [this]; exact h5
  · intro h
    exact ⟨fun _ => False, F, fun k => by simp, fun _ h => h.elim, fun _ h => h, h⟩
end
end Go.Proofs.YtindlfiifckdnaaDoor.L
