/-
  Masks and remainders of indexes. Over any program.
-/
import Derived.Test.YtindlfiifckdnaaDoorGrow
namespace Go.Proofs.YtindlfiifckdnaaDoor.L
open Go.RowKit
theorem mask30 (z : Int) : ∃ j : Nat, bits .and .i64 z 1073741823 = (j : Int) ∧ j ≤ 1073741823 := by
  refine ⟨(BitVec.ofInt 64 z &&& BitVec.ofInt 64 1073741823).toNat, ?_, ?_⟩
  · show IntKind.i64.wrap ((BitVec.ofInt 64 z &&& BitVec.ofInt 64 1073741823).toNat : Int) = _
    refine IntWalk.i64_in _ ?_
    have : (BitVec.ofInt 64 z &&& BitVec.ofInt 64 1073741823).toNat ≤ (BitVec.ofInt 64 1073741823).toNat := by rw [BitVec.toNat_and]; exact Nat.and_le_right
    have e : (BitVec.ofInt 64 1073741823).toNat = 1073741823 := by decide
    omega
  · have : (BitVec.ofInt 64 z &&& BitVec.ofInt 64 1073741823).toNat ≤ (BitVec.ofInt 64 1073741823).toNat := by rw [BitVec.toNat_and]; exact Nat.and_le_right
    have e : (BitVec.ofInt 64 1073741823).toNat = 1073741823 := by decide
    omega
/-- (at & mask) % n: a place below n -/
theorem place30 (z : Int) (n : Nat) (hn : 0 < n) : ∃ j m : Nat, bits .and .i64 z 1073741823 = (j : Int) ∧ j ≤ 1073741823 ∧ (j : Int) % (n : Int) = (m : Int) ∧ m < n := by
  obtain ⟨j, h1, h2⟩ := mask30 z
  exact ⟨j, j % n, h1, h2, by omega, Nat.mod_lt _ hn⟩
theorem u8_lit {z : Int} (h : (Lit.int .u8 z).wf = true) : ∃ y : UInt8, z = (y.toNat : Int) := ⟨toU8 z, (toU8_wf h).symm⟩
theorem xor_u8 (x y : UInt8) : bits .xor .u8 (x.toNat : Int) (y.toNat : Int) = ((x ^^^ y).toNat : Int) := by
  rw [u8_xor_nat _ _ x.toNat_lt y.toNat_lt, UInt8.toNat_xor]
theorem xor_ne (x y : UInt8) (h : y.toNat ≠ 0) : x ^^^ y ≠ x := by
  intro e
  have h1 : x.toBitVec ^^^ y.toBitVec = x.toBitVec := congrArg UInt8.toBitVec e
  have h2 : x.toBitVec ^^^ (x.toBitVec ^^^ y.toBitVec) = x.toBitVec ^^^ x.toBitVec := by rw [h1]
  rw [← BitVec.xor_assoc, BitVec.xor_self, BitVec.zero_xor] at h2
  apply h
  have := congrArg BitVec.toNat h2
  simpa using this
theorem i64_lit {z : Int} (h : (Lit.int .i64 z).wf = true) : -9223372036854775808 ≤ z ∧ z ≤ 9223372036854775807 := by
  simpa [Lit.wf, IntKind.min, IntKind.max, IntKind.signed, IntKind.bits] using h
end Go.Proofs.YtindlfiifckdnaaDoor.L
