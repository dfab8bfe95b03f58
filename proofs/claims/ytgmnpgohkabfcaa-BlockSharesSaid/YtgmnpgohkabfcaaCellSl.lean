/-
  Slices of cells: their literals and appends.
-/
import Derived.Test.YtgmnpgohkabfcaaCells
import Derived.Test.YtgmnpgohkabfcaaAssoc
import Derived.Test.YtgmnpgohkabfcaaGrow
import Derived.Test.YtgmnpgohkabfcaaFacts
namespace Go.Proofs.Ytgmnpgohkabfcaa.Bl
open Go.RowKit L
theorem elC : ElemOk Try.prog 22 36 4 48 := elemOk Try.underlying22 Try.info36 rfl (by decide)
/-- a slice literal of cells -/
theorem sl_builtC (w : World) (l : List Cl) (e : TypeId) (hm : l.length ≤ maxLen) {b : Nat} (hb : w.heap.size = b) : Sl (w.alloc (.cells (cls l).toArray e)) 4 (.slice (some ⟨b, 0, none⟩) l.length l.length) l.length (cls l) := by
  subst hb
  refine ⟨cls_length l, _, _, rfl, Nat.le_refl _, hm, (fun h => by cases h), fun a ha j hj => ?_⟩
  cases ha
  have hj' : j < (cls l).length := by rw [cls_length]; omega
  rw [Addr.add_lit, Nat.zero_add, World.cell?_alloc_at _ _ _ _ rfl]
  simp [List.getD, hj']
theorem own_litC (w : World) (l : List Cl) (e : TypeId) (hm : l.length ≤ maxLen) : Own (w.alloc (.cells (cls l).toArray e)) w.heap.size e 4 (.slice (some ⟨w.heap.size, 0, none⟩) l.length l.length) l.length (cls l) :=
  ⟨cls_length l, .inr ⟨w.heap.size, l.length, (cls l).toArray, rfl, Nat.le_refl _, Rowed.of (heap_alloc_new w _) _, Nat.le_refl _, hm, by simp [cls_length], by rw [List.take_of_length_le (by simp [cls_length])]⟩⟩
def lenOf : Value → Nat | .slice _ n _ => n | _ => 0
section
variable {W0 w : World} {R : Asrt} {v vx : Value} {L x : List Cl}
variable {ops : Array Oper} {rest : List Oper} {o : Oper} {a : Act} {Q : Exit → Act → World → Prop}
theorem wpList_appC (H : Hold W0 ((Row 36 4 v L.length (cls L)).sep R) w) (hgd : o.guard = none) (sx y : Operand)
    (ho : o.op = .call { callee := .builtin .append, args := #[sx, y], argTypes := #[22, 22] }) (hs : a.eval sx = v) (hx : a.eval y = vx) (hsx : Sl w 4 vx x.length (cls x))
    (hlen : (L.length + x.length) * 48 ≤ 140737488355328)
    (h : ∀ ao n cap w', Hid (n = (L ++ x).length) → Hold W0 ((Row 36 4 (.slice ao n cap) (L ++ x).length (cls (L ++ x))).sep R) w' → wpList Try.prog ops Q rest (a.put o.dst (.slice ao n cap)) w') : wpList Try.prog ops Q (o :: rest) a w := by
  refine wpList_app elC H hgd sx y ho hs hx hsx (cls_one _) (by omega) (by omega) ?_
  intro v' ys w' Y H'
  obtain ⟨ao, cap, rfl⟩ := H'.own.shape
  rw [Y.out, ← cls_append, ← List.length_append] at H'
  rw [← List.length_append]
  exact h ao _ cap w' (Lib.hid rfl) H'
end
end Go.Proofs.Ytgmnpgohkabfcaa.Bl
