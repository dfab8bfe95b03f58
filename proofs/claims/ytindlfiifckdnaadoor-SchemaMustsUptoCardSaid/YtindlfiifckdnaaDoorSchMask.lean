/-
  Masks of indexes in chapter 14's laws. Over any program.
-/
import Derived.Test.YtindlfiifckdnaaDoorGrow
import Derived.IntWalk
namespace Go.Proofs.YtindlfiifckdnaaDoor.Sc
open Go.RowKit L
theorem maskN (z : Int) (M : Nat) (hM : M ≤ 1073741823) : ∃ j : Nat, bits .and .i64 z (M : Int) = (j : Int) ∧ j ≤ M := by
  have e : (BitVec.ofInt 64 (M : Int)).toNat = M := by
    rw [BitVec.toNat_ofInt]
    omega
  have h : (BitVec.ofInt 64 z &&& BitVec.ofInt 64 (M : Int)).toNat ≤ (BitVec.ofInt 64 (M : Int)).toNat := by rw [BitVec.toNat_and]; exact Nat.and_le_right
  refine ⟨(BitVec.ofInt 64 z &&& BitVec.ofInt 64 (M : Int)).toNat, ?_, by omega⟩
  show IntKind.i64.wrap ((BitVec.ofInt 64 z &&& BitVec.ofInt 64 (M : Int)).toNat : Int) = _
  refine IntWalk.i64_in _ ?_
  omega
theorem mask16 (z : Int) : ∃ j : Nat, bits .and .i64 z 65535 = (j : Int) ∧ j ≤ 65535 := by simpa using maskN z 65535 (by omega)
theorem mask10 (z : Int) : ∃ j : Nat, bits .and .i64 z 1023 = (j : Int) ∧ j ≤ 1023 := by simpa using maskN z 1023 (by omega)
end Go.Proofs.YtindlfiifckdnaaDoor.Sc
