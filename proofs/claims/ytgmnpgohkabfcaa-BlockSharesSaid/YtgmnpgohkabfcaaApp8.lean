/-
  append of bytes to owned bytes: the walk's law, with lists alone.
-/
import Derived.Test.YtgmnpgohkabfcaaOctetBase
import Derived.Test.YtgmnpgohkabfcaaConv
namespace Go.Proofs.Ytgmnpgohkabfcaa.Oct
open Go.RowKit L
section
variable {W0 w : World} {R : Asrt} {v vx : Value} {L x : List UInt8}
variable {ops : Array Oper} {rest : List Oper} {o : Oper} {a : Act} {Q : Exit → Act → World → Prop}
theorem wpList_app8 (H : Hold W0 ((Row 5 1 v L.length (u8s L)).sep R) w) (hgd : o.guard = none) (sx y : Operand)
    (ho : o.op = .call { callee := .builtin .append, args := #[sx, y], argTypes := #[24, 24] }) (hs : a.eval sx = v) (hx : a.eval y = vx) (hsx : Sl w 1 vx x.length (u8s x))
    (hlen : L.length + x.length ≤ 140737488355328)
    (h : ∀ ao n cap w', Hid (n = (L ++ x).length) → Hold W0 ((Row 5 1 (.slice ao n cap) (L ++ x).length (u8s (L ++ x))).sep R) w' → wpList Try.prog ops Q rest (a.put o.dst (.slice ao n cap)) w') : wpList Try.prog ops Q (o :: rest) a w := by
  refine wpList_app el8 H hgd sx y ho hs hx hsx (u8s_one _) (by omega) (by omega) ?_
  intro v' ys w' Y H'
  obtain ⟨ao, cap, rfl⟩ := H'.own.shape
  rw [Y.out, ← u8s_append, ← List.length_append] at H'
  rw [← List.length_append]
  exact h ao _ cap w' (Lib.hid rfl) H'
end
end Go.Proofs.Ytgmnpgohkabfcaa.Oct
