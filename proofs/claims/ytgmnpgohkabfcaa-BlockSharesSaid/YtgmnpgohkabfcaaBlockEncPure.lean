/-
  Cells as bytes (chapter 7), in plain mathematics.
-/
import Derived.Test.YtgmnpgohkabfcaaBlockRise
import Derived.Test.YtgmnpgohkabfcaaBlockShared
import Derived.Test.YtgmnpgohkabfcaaOctetPure
namespace Go.Proofs.Ytgmnpgohkabfcaa.Bl
open Oct
/-- how many bytes of its key a cell does not say -/
def nAt (l : List Cl) (k : Nat) : Nat := if k % 4 = 0 then 0 else sharedN (l.getD (k - 1) default).key.data.toList (l.getD k default).key.data.toList
/-- a cell as bytes, n bytes of its key left out -/
def encC (n : Nat) (c : Cl) : List UInt8 := enc n ++ row (c.key.data.toList.drop n) ++ enc (clamp c.seq) ++ (if c.del then enc 1 else enc 0 ++ row c.val.data.toList)
/-- the first k cells as bytes -/
def encUp (l : List Cl) : Nat → List UInt8
  | 0 => []
  | k + 1 => encUp l k ++ encC (nAt l k) (l.getD k default)
def encL (l : List Cl) : List UInt8 := encUp l l.length
/-- how much cells weigh -/
def weight : List Cl → Nat
  | [] => 0
  | c :: r => c.key.size + c.val.size + 1 + weight r
theorem weight_take : ∀ (l : List Cl) (k : Nat), k < l.length → weight (l.take (k + 1)) = weight (l.take k) + ((l.getD k default).key.size + (l.getD k default).val.size + 1)
  | c :: r, 0, _ => by simp [weight]
  | c :: r, k + 1, h => by
    have := weight_take r k (by simpa using h)
    simp only [List.take_succ_cons, weight, this]
    have e : (c :: r).getD (k + 1) default = r.getD k default := by simp [List.getD]
    rw [e]; omega
theorem weight_take_le : ∀ (l : List Cl) (k : Nat), weight (l.take k) ≤ weight l
  | [], k => by simp
  | c :: r, 0 => by simp [weight]
  | c :: r, k + 1 => by
    have := weight_take_le r k
    simp only [List.take_succ_cons, weight]; omega
theorem encC_length (n : Nat) (c : Cl) (hn : n ≤ 4611686018427387904) (hk : c.key.size ≤ 4611686018427387904) (hv : c.val.size ≤ 4611686018427387904) : (encC n c).length ≤ c.key.size + c.val.size + 46 := by
  have h1 := enc_le9 hn
  have h2 := enc_le9 (clamp_le c.seq)
  have h3 : (row (c.key.data.toList.drop n)).length ≤ c.key.size + 9 := by
    have : (c.key.data.toList.drop n).length ≤ c.key.size := by simp
    have h9 := enc_le9 (u := (c.key.data.toList.drop n).length) (by omega)
    simp only [row, List.length_append]; omega
  have h4 : (row c.val.data.toList).length ≤ c.val.size + 9 := by
    have : c.val.data.toList.length = c.val.size := by simp
    have h9 := enc_le9 (u := c.val.data.toList.length) (by omega)
    simp only [row, List.length_append]; omega
  have h5 := enc_le9 (u := 0) (by omega)
  have h6 := enc_le9 (u := 1) (by omega)
  unfold encC
  simp only [List.length_append]
  split
  · omega
  · simp only [List.length_append]; omega
end Go.Proofs.Ytgmnpgohkabfcaa.Bl
