/-
  The small functions of chapter 7 on one or two cells: Less, Is, Size; they are the reference's.
-/
import Derived.Test.YtgmnpgohkabfcaaFacts
import Derived.Test.YtgmnpgohkabfcaaCells
namespace Go.Proofs.Ytgmnpgohkabfcaa.Bl
open Go.RowKit L
def strEq (a b : ByteArray) : Bool := a.toList == b.toList
def strLt (a b : ByteArray) : Bool := Op.bytesLess a.toList b.toList
/-- a cell is ahead of another one -/
def lessC (a b : Cl) : Bool := strLt a.key b.key || (strEq a.key b.key && decide (b.seq < a.seq))
def isC (c : Cl) : Bool := decide (1 ≤ c.key.size) && decide (c.key.size ≤ 4096) && decide (c.val.size ≤ 16384) && (!c.del || (c.val.toList == [])) && decide (1 ≤ c.seq) && decide (c.seq ≤ 1099511627776)
theorem bytesLess_irrefl : ∀ a : List UInt8, Op.bytesLess a a = false
  | [] => rfl
  | x :: r => by simp [Op.bytesLess, bytesLess_irrefl r]
theorem below_two (w : World) (o1 o2 : Obj) : Below w.heap.size w ((w.alloc o1).alloc o2) := ((Below.refl _ _).alloc (Nat.le_refl _) _).alloc (by simp) _
theorem below_one (w : World) (o1 : Obj) : Below w.heap.size w (w.alloc o1) := (Below.refl _ _).alloc (Nat.le_refl _) _
set_option maxHeartbeats 400000 in
theorem less_any (a b : Cl) (w : World) : Calls Try.prog 20 #[a.agg, b.agg] w fun e w' => e = .returned (.bool (lessC a b)) ∧ Below w.heap.size w w' := by
  show Calls Try.prog 20 #[.agg #[.string a.key, .string a.val, .bool a.del, .int .i64 a.seq], .agg #[.string b.key, .string b.val, .bool b.del, .int .i64 b.seq]] w _
  go_enter Try.func20, Try.ntmps20
  go_wp2
  all_goals
    go_ret
    exact ⟨ret_bool (by simp_all [lessC, strLt, strEq, bytesLess_irrefl]), below_two _ _ _⟩
set_option maxHeartbeats 400000 in
theorem xless_any (a b : Cl) (w : World) : Calls Try.prog 21 #[a.agg, b.agg] w fun e w' => e = .returned (.bool (lessC a b)) ∧ Below w.heap.size w w' := by
  show Calls Try.prog 21 #[.agg #[.string a.key, .string a.val, .bool a.del, .int .i64 a.seq], .agg #[.string b.key, .string b.val, .bool b.del, .int .i64 b.seq]] w _
  go_enter Try.func21, Try.ntmps21
  go_wp2
  all_goals
    go_ret
    exact ⟨ret_bool (by simp_all [lessC, strLt, strEq, bytesLess_irrefl]), below_two _ _ _⟩
set_option maxHeartbeats 800000 in
theorem is_any (a : Cl) (w : World) : Calls Try.prog 22 #[a.agg] w fun e w' => e = .returned (.bool (isC a)) ∧ Below w.heap.size w w' := by
  show Calls Try.prog 22 #[.agg #[.string a.key, .string a.val, .bool a.del, .int .i64 a.seq]] w _
  go_enter Try.func22, Try.ntmps22
  go_wp2
  all_goals
    go_ret
    exact ⟨ret_bool (by grind [isC]), below_one _ _⟩
set_option maxHeartbeats 800000 in
theorem xis_any (a : Cl) (w : World) : Calls Try.prog 23 #[a.agg] w fun e w' => e = .returned (.bool (isC a)) ∧ Below w.heap.size w w' := by
  show Calls Try.prog 23 #[.agg #[.string a.key, .string a.val, .bool a.del, .int .i64 a.seq]] w _
  go_enter Try.func23, Try.ntmps23
  go_wp2
  all_goals
    go_ret
    exact ⟨ret_bool (by grind [isC]), below_one _ _⟩
theorem size_any (a : Cl) (w : World) (hl : a.key.size + a.val.size ≤ 1000000000000) : Calls Try.prog 24 #[a.agg] w fun e w' => e = .returned (.int .i64 (a.key.size + a.val.size + 16)) ∧ Below w.heap.size w w' := by
  show Calls Try.prog 24 #[.agg #[.string a.key, .string a.val, .bool a.del, .int .i64 a.seq]] w _
  go_enter Try.func24, Try.ntmps24
  go_wp2
  go_ret
  exact ⟨ret_int (by go_num), below_one _ _⟩
theorem xsize_any (a : Cl) (w : World) (hl : a.key.size + a.val.size ≤ 1000000000000) : Calls Try.prog 25 #[a.agg] w fun e w' => e = .returned (.int .i64 (a.key.size + a.val.size + 16)) ∧ Below w.heap.size w w' := by
  show Calls Try.prog 25 #[.agg #[.string a.key, .string a.val, .bool a.del, .int .i64 a.seq]] w _
  go_enter Try.func25, Try.ntmps25
  go_wp2
  go_ret
  exact ⟨ret_int (by go_num), below_one _ _⟩
end Go.Proofs.Ytgmnpgohkabfcaa.Bl
