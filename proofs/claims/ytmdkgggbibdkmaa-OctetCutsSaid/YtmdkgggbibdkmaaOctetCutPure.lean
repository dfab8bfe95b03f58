/-
  Rows whose bytes are cut short: plain laws.
-/
import Derived.Test.YtmdkgggbibdkmaaOctetPure
namespace Go.Proofs.Ytmdkgggbibdkmaa.Oct
theorem dec_short : ∀ (v m i u : Nat), m < (enc v).length → dec i u ((enc v).take m) = none := by
  intro v
  induction v using Nat.strongRecOn with
  | _ v ih =>
    intro m i u hm
    by_cases h : v < 128
    · rw [enc_lt h] at hm ⊢
      have : m = 0 := by simpa using hm
      subst this
      rfl
    · cases m with
      | zero => rfl
      | succ m =>
        rw [enc_ge (by omega)] at hm ⊢
        rw [List.take_succ_cons]
        simp only [dec]
        have hc : (UInt8.ofNat (v % 128 + 128)).toNat = v % 128 + 128 := by
          rw [UInt8.toNat_ofNat']; show (v % 128 + 128) % 256 = _; omega
        rw [hc]
        split
        · rfl
        · rw [if_neg (by omega)]
          exact ih (v / 128) (by omega) m _ _ (by simpa using hm)
theorem decRow_short (l r : List UInt8) (m : Nat) (hl : l.length ≤ 4611686018427387904) (hm : m < (row l).length) : decRow ((row l ++ r).take m) = none := by
  have hrow : (row l).length = (enc l.length).length + l.length := by simp [row]
  rw [List.take_append_of_le_length (by omega)]
  by_cases h : m < (enc l.length).length
  · unfold decRow row
    rw [List.take_append_of_le_length (by omega), dec_short _ _ _ _ h]
  · have e : (row l).take m = enc l.length ++ l.take (m - (enc l.length).length) := by
      unfold row
      rw [List.take_append, List.take_of_length_le (by omega)]
    unfold decRow
    rw [e, dec_enc _ _ hl]
    have : (l.take (m - (enc l.length).length)).length < l.length := by rw [List.length_take]; omega
    simp only
    rw [if_neg (by omega)]
theorem decRow_nil : decRow [] = none := rfl
def ecut (ls : List (List UInt8)) (k : Nat) : Nat := (rows (ls.take k)).length
/-- what a Reader of the first m bytes holds behind k rows -/
def scut (ls : List (List UInt8)) (m k : Nat) : List UInt8 := if ecut ls k ≤ m then (rows (ls.drop k)).take (m - ecut ls k) else []
def bcut (ls : List (List UInt8)) (m k : Nat) : Bool := decide (m < ecut ls k)
section
variable {ls : List (List UInt8)} {k m : Nat}
theorem rows_take_succ (hk : k < ls.length) : rows (ls.take (k + 1)) = rows (ls.take k) ++ row (ls.getD k []) := by
  rw [List.take_succ_eq_append_getElem hk, rows_snoc]
  simp only [List.getD, List.getElem?_eq_getElem hk, Option.getD_some]
theorem rows_drop (hk : k < ls.length) : rows (ls.drop k) = row (ls.getD k []) ++ rows (ls.drop (k + 1)) := by
  show List.flatMap _ (ls.drop k) = _
  rw [List.drop_eq_getElem_cons hk, List.flatMap_cons]
  simp only [List.getD, List.getElem?_eq_getElem hk, Option.getD_some]
  rfl
theorem ecut_succ (hk : k < ls.length) : ecut ls (k + 1) = ecut ls k + (row (ls.getD k [])).length := by
  unfold ecut
  rw [rows_take_succ hk, List.length_append]
theorem cut_whole (hk : k < ls.length) (hl : (ls.getD k []).length ≤ 4611686018427387904) (h : ecut ls (k + 1) ≤ m) :
    decRow (scut ls m k) = some (ls.getD k [], scut ls m (k + 1)) ∧ bcut ls m k = false ∧ bcut ls m (k + 1) = false := by
  have hs := ecut_succ hk
  refine ⟨?_, by simp [bcut]; omega, by simp [bcut]; omega⟩
  unfold scut
  rw [if_pos (by omega), if_pos h, rows_drop hk, List.take_append, List.take_of_length_le (by omega), decRow_row _ _ hl]
  congr 3
  omega
theorem cut_short (hk : k < ls.length) (hl : (ls.getD k []).length ≤ 4611686018427387904) (h : m < ecut ls (k + 1)) :
    decRow (scut ls m k) = none ∧ scut ls m (k + 1) = [] ∧ bcut ls m (k + 1) = true := by
  have hs := ecut_succ hk
  refine ⟨?_, by unfold scut; rw [if_neg (by omega)], by simp [bcut]; omega⟩
  unfold scut
  by_cases hc : ecut ls k ≤ m
  · rw [if_pos hc, rows_drop hk]
    exact decRow_short _ _ _ hl (by omega)
  · rw [if_neg hc]
    rfl
theorem cut_start : scut ls m 0 = (rows ls).take m ∧ bcut ls m 0 = false := by
  simp [scut, bcut, ecut, rows]
theorem cut_length : (scut ls m k).length ≤ m := by
  unfold scut
  split
  · rw [List.length_take]; omega
  · simp
theorem row_pos (l : List UInt8) : 0 < (row l).length := by
  have := enc_pos l.length
  rw [row, List.length_append]
  omega
/-- where each row ends -/
def ends (ls : List (List UInt8)) (k : Nat) : List Int := (List.range k).map fun j => (ecut ls (j + 1) : Int)
theorem ends_succ : ends ls (k + 1) = ends ls k ++ [(ecut ls (k + 1) : Int)] := by simp [ends, List.range_succ]
theorem ends_length : (ends ls k).length = k := by simp [ends]
theorem ends_get {n : Nat} (h : k < n) : (ends ls n).getD k 0 = (ecut ls (k + 1) : Int) := by simp [ends, List.getD, h]
end
theorem rows_len (ls : List (List UInt8)) : (rows ls).length ≤ 9 * ls.length + ls.flatten.length ∨ 140737488355328 < ls.flatten.length := by
  by_cases h : 140737488355328 < ls.flatten.length
  · exact .inr h
  · left
    induction ls with
    | nil => simp [rows]
    | cons x r ih =>
      rw [List.flatten_cons, List.length_append] at h
      have hr := ih (by omega)
      have h9 := enc_le9 (u := x.length) (by omega)
      show (row x ++ rows r).length ≤ _
      rw [List.length_append, row, List.length_append, List.flatten_cons, List.length_append, List.length_cons]
      omega
theorem rows_le (ls : List (List UInt8)) (h : 3 * ls.length + ls.flatten.length ≤ 4000) : (rows ls).length ≤ 40000 := by
  rcases rows_len ls with h1 | h1 <;> omega
end Go.Proofs.Ytmdkgggbibdkmaa.Oct
