/-
  Are two cells alike: '==' and '!=' of api.Cell.
-/
import Derived.Test.YtgmnpgohkabfcaaCells
import Derived.Test.YtgmnpgohkabfcaaFacts
import Derived.Laws.StructEq
import Derived.WalkKit
namespace Go.Proofs.Ytgmnpgohkabfcaa.Bl
open Go.RowKit L
/-- are cells alike? -/
def eqC (a b : Cl) : Bool := (a.key.toList == b.key.toList) && (a.val.toList == b.val.toList) && (a.del == b.del) && (a.seq == b.seq)
theorem eqC_iff {a b : Cl} : eqC a b = true ↔ a = b := by
  obtain ⟨a1, a2, a3, a4⟩ := a
  obtain ⟨b1, b2, b3, b4⟩ := b
  have inj : ∀ {x y : ByteArray}, x.toList = y.toList → x = y := fun {x y} h => by
    rw [ByteArray.toList_eq, ByteArray.toList_eq] at h
    exact ByteArray.ext (Array.toList_inj.1 h)
  constructor
  · intro h
    simp only [eqC, Bool.and_eq_true, beq_iff_eq] at h
    obtain ⟨⟨⟨h1, h2⟩, h3⟩, h4⟩ := h
    rw [inj h1, inj h2, h3, h4]
  · intro h
    simp only [Cl.mk.injEq] at h
    obtain ⟨rfl, rfl, rfl, rfl⟩ := h
    simp [eqC]
theorem eqC_self (a : Cl) : eqC a a = true := eqC_iff.2 rfl
set_option maxRecDepth 100000 in
theorem run_eqIn (a b : Cl) (w : World) : (Op.equalIn 10000 36 a.agg b.agg).run Try.prog w = .ok (eqC a b) w := by
  have hp : Try.prog.stoodInHeld 36 = false := by kernel_rfl
  have ht : Try.prog.underlying 36 = some (.struct (Try.prog.fieldsOf 36)) := by kernel_rfl
  have hu9 := Try.underlying9
  have hu4 := Try.underlying4
  have hu3 := Try.underlying3
  rw [Cl.agg, Cl.agg, run_equalIn_agg w 9999 36 _ _ ht hp]
  simp only [Program.fieldsOf, Try.underlying36]
  simp [Op.eqFields, go_sem, hu9, hu4, hu3]
  unfold eqC
  by_cases h1 : a.key.toList = b.key.toList <;> by_cases h2 : a.val.toList = b.val.toList <;> by_cases h3 : a.del = b.del <;> by_cases h4 : a.seq = b.seq <;> simp [h1, h2, h3, h4]
theorem run_eqC (a b : Cl) (w : World) : (binOp .eql 36 a.agg b.agg).run Try.prog w = .ok (.bool (eqC a b)) w := by
  have := run_eqIn a b w
  rw [Cl.agg, Cl.agg] at this ⊢
  rw [run_eql_struct, this]
  rfl
theorem run_neC (a b : Cl) (w : World) : (binOp .neq 36 a.agg b.agg).run Try.prog w = .ok (.bool (!eqC a b)) w := by
  have := run_eqIn a b w
  rw [Cl.agg, Cl.agg] at this ⊢
  rw [run_neq_struct, this]
  rfl
end Go.Proofs.Ytgmnpgohkabfcaa.Bl
