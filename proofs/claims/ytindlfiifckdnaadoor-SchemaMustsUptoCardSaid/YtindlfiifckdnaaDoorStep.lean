/-
  append to a slice that is held, as one step of a region that draws its order. Over any program.
-/
import Derived.Test.YtindlfiifckdnaaDoorGrow
import Derived.Deep.RegionLaw
import Derived.BigFrame
namespace Go.Proofs.YtindlfiifckdnaaDoor.L
open Go.RowKit
section
variable {P : Program} {W0 w : World} {R : Asrt} {t e : TypeId} {s bytes n m : Nat} {v vx : Value} {xs news : List Value}
variable {ops : Array Oper} {o : Oper} {a : Act} {K : Act → World → Prop} {Q : Exit → Act → World → Prop} {Z : Prop}
theorem step_app (E : ElemOk P t e s bytes) (H : Hold W0 ((Row e s v n xs).sep R) w) (hgd : Region.wanted o (yielded ops a.tmps) = true) (sx x : Operand)
    (ho : o.op = .call { callee := .builtin .append, args := #[sx, x], argTypes := #[t, t] }) (hs : a.eval sx = v) (hx : a.eval x = vx) (hsx : Sl w s vx m news) (h1 : ∀ u ∈ news, u.oneCell' = true)
    (h63 : n + m ≤ 140737488355328) (hlen : (n + m) * bytes ≤ 140737488355328)
    (h : ∀ v' ys w', Hid (ys = xs ++ news) → Hold W0 ((Row e s v' (n + m) ys).sep R) w' → K (a.put o.dst v') w') : if Region.wanted o (yielded ops a.tmps) = true then Oper.wp P o a w K Q else Z := by
  rw [if_pos hgd]
  obtain ⟨i, z, hi, hz, hsz, hby, hzs⟩ := E.info
  obtain ⟨v', w', hr, h2, h3, h4, _⟩ := run_append_row (P := P) w t o.type e i z s bytes E.sl hi hz hsz hby hzs E.pos v n xs H.own vx m news hsx h1 (by unfold maxLen; omega) hlen
  unfold Oper.wp execOp
  simp only [ho, resolve, invoke, builtin, Sem.run_bind, Sem.run_pure, Result.andThen_ok, List.map_toArray, List.map_cons, List.map_nil, hs, hx, hr]
  exact h _ _ _ (Lib.hid rfl) (H.grow h2 h3 h4)
theorem wp_app (E : ElemOk P t e s bytes) (H : Hold W0 ((Row e s v n xs).sep R) w) (sx x : Operand)
    (ho : o.op = .call { callee := .builtin .append, args := #[sx, x], argTypes := #[t, t] }) (hs : a.eval sx = v) (hx : a.eval x = vx) (hsx : Sl w s vx m news) (h1 : ∀ u ∈ news, u.oneCell' = true)
    (h63 : n + m ≤ 140737488355328) (hlen : (n + m) * bytes ≤ 140737488355328)
    (h : ∀ v' ys w', Hid (ys = xs ++ news) → Hold W0 ((Row e s v' (n + m) ys).sep R) w' → K (a.put o.dst v') w') : Oper.wp P o a w K Q := by
  obtain ⟨i, z, hi, hz, hsz, hby, hzs⟩ := E.info
  obtain ⟨v', w', hr, h2, h3, h4, _⟩ := run_append_row (P := P) w t o.type e i z s bytes E.sl hi hz hsz hby hzs E.pos v n xs H.own vx m news hsx h1 (by unfold maxLen; omega) hlen
  unfold Oper.wp execOp
  simp only [ho, resolve, invoke, builtin, Sem.run_bind, Sem.run_pure, Result.andThen_ok, List.map_toArray, List.map_cons, List.map_nil, hs, hx, hr]
  exact h _ _ _ (Lib.hid rfl) (H.grow h2 h3 h4)
theorem wpList_appG {rest : List Oper} (E : ElemOk P t e s bytes) (H : Hold W0 ((Row e s v n xs).sep R) w) (hw : Region.wanted o (yielded ops a.tmps) = true) (sx x : Operand)
    (ho : o.op = .call { callee := .builtin .append, args := #[sx, x], argTypes := #[t, t] }) (hs : a.eval sx = v) (hx : a.eval x = vx) (hsx : Sl w s vx m news) (h1 : ∀ u ∈ news, u.oneCell' = true)
    (h63 : n + m ≤ 140737488355328) (hlen : (n + m) * bytes ≤ 140737488355328)
    (h : ∀ v' ys w', Hid (ys = xs ++ news) → Hold W0 ((Row e s v' (n + m) ys).sep R) w' → wpList P ops Q rest (a.put o.dst v') w') : wpList P ops Q (o :: rest) a w :=
  Go.BigFrame.wpList_want hw fun _ hK => wp_app E H sx x ho hs hx hsx h1 h63 hlen fun v' ys w' h2 h3 => hK _ _ (h v' ys w' h2 h3)
theorem step_no {A B : Prop} (h : Region.wanted o (yielded ops a.tmps) = false) (hB : B) : if Region.wanted o (yielded ops a.tmps) = true then A else B := by rw [if_neg (by rw [h]; simp)]; exact hB
theorem step_yes {A B : Prop} (h : Region.wanted o (yielded ops a.tmps) = true) (hA : A) : if Region.wanted o (yielded ops a.tmps) = true then A else B := by rw [if_pos h]; exact hA
end
end Go.Proofs.YtindlfiifckdnaaDoor.L
