/-
  Plain mathematics of chapter 1 (octet): numbers as bytes and back, rows, the check sum. No program here.
-/
import Derived.Laws.BitsAllLaws
namespace Go.Proofs.Ytgmnpgohkabfcaa.Oct

/-- a number as bytes, seven binary digits a byte -/
def enc (u : Nat) : List UInt8 := if _h : u < 128 then [UInt8.ofNat u] else UInt8.ofNat (u % 128 + 128) :: enc (u / 128)
termination_by u
decreasing_by omega
def clamp (z : Int) : Nat := (max 0 (min z 4611686018427387904)).toNat
def encs (zs : List Int) : List UInt8 := zs.flatMap fun z => enc (clamp z)
def row (l : List UInt8) : List UInt8 := enc l.length ++ l
def rows (ls : List (List UInt8)) : List UInt8 := ls.flatMap row
/-- a number taken: its value and what is left; i bytes of it, and u, were taken before -/
def dec : Nat → Nat → List UInt8 → Option (Nat × List UInt8)
  | _, _, [] => none
  | i, u, c :: r =>
    if 9 ≤ i ∨ (0 < i ∧ c.toNat = 0) then none
    else if c.toNat < 128 then (if 4611686018427387904 < u + c.toNat * 2 ^ (7 * i) then none else some (u + c.toNat * 2 ^ (7 * i), r))
    else dec (i + 1) (u + (c.toNat - 128) * 2 ^ (7 * i)) r
/-- a row taken -/
def decRow (l : List UInt8) : Option (List UInt8 × List UInt8) :=
  match dec 0 0 l with
  | none => none
  | some (n, r) => if n ≤ r.length then some (r.take n, r.drop n) else none

theorem enc_lt {u : Nat} (h : u < 128) : enc u = [UInt8.ofNat u] := by rw [enc, dif_pos h]
theorem enc_ge {u : Nat} (h : 128 ≤ u) : enc u = UInt8.ofNat (u % 128 + 128) :: enc (u / 128) := by rw [enc, dif_neg (by omega)]
theorem enc_pos (u : Nat) : 1 ≤ (enc u).length := by
  by_cases h : u < 128
  · rw [enc_lt h]; simp
  · rw [enc_ge (by omega)]; simp
theorem clamp_le (z : Int) : clamp z ≤ 4611686018427387904 := by unfold clamp; omega
/-- a number below 128^k has at most k bytes -/
theorem enc_length : ∀ (k u : Nat), u < 128 ^ (k + 1) → (enc u).length ≤ k + 1
  | 0, u, h => by rw [enc_lt (by simpa using h)]; simp
  | k + 1, u, h => by
    by_cases h1 : u < 128
    · rw [enc_lt h1]; simp
    · rw [enc_ge (by omega), List.length_cons]
      have := enc_length k (u / 128) (by rw [Nat.div_lt_iff_lt_mul (by omega)]; rwa [← Nat.pow_succ])
      omega
theorem enc_le9 {u : Nat} (h : u ≤ 4611686018427387904) : (enc u).length ≤ 9 := enc_length 8 u (by omega)
theorem encs_nil : encs [] = [] := rfl
theorem encs_append (a b : List Int) : encs (a ++ b) = encs a ++ encs b := by simp [encs]
theorem encs_snoc (a : List Int) (z : Int) : encs (a ++ [z]) = encs a ++ enc (clamp z) := by simp [encs]
theorem encs_length (zs : List Int) : (encs zs).length ≤ 9 * zs.length := by
  induction zs with
  | nil => simp [encs]
  | cons z r ih =>
    have h1 : encs (z :: r) = enc (clamp z) ++ encs r := by simp [encs]
    have h2 := enc_le9 (clamp_le z)
    rw [h1, List.length_append, List.length_cons]
    omega
theorem rows_nil : rows [] = [] := rfl
theorem rows_append (a b : List (List UInt8)) : rows (a ++ b) = rows a ++ rows b := by simp [rows]
theorem rows_snoc (a : List (List UInt8)) (l : List UInt8) : rows (a ++ [l]) = rows a ++ row l := by simp [rows]

/-- what was laid is taken -/
theorem dec_enc_go : ∀ (v i u : Nat) (r : List UInt8), (enc v).length + i ≤ 9 → (0 < i → 0 < v) → u + v * 2 ^ (7 * i) ≤ 4611686018427387904 → dec i u (enc v ++ r) = some (u + v * 2 ^ (7 * i), r) := by
  intro v
  induction v using Nat.strongRecOn with
  | _ v ih =>
    intro i u r hl h0 hu
    by_cases hv : v < 128
    · rw [enc_lt hv] at hl ⊢
      have e : (UInt8.ofNat v).toNat = v := by rw [UInt8.toNat_ofNat']; show v % 256 = v; omega
      simp only [List.cons_append, List.nil_append, dec, e]
      simp only [List.length_singleton] at hl
      rw [if_neg (by rintro (h | ⟨h1, h2⟩); omega; have := h0 h1; omega), if_pos hv, if_neg (by omega)]
    · rw [enc_ge (by omega)] at hl ⊢
      simp only [List.length_cons] at hl
      have e : (UInt8.ofNat (v % 128 + 128)).toNat = v % 128 + 128 := by rw [UInt8.toNat_ofNat']; show (v % 128 + 128) % 256 = _; omega
      simp only [List.cons_append, dec, e]
      rw [if_neg (by rintro (h | ⟨h1, h2⟩) <;> omega), if_neg (by omega)]
      have e2 : u + v * 2 ^ (7 * i) = u + (v % 128 + 128 - 128) * 2 ^ (7 * i) + v / 128 * 2 ^ (7 * (i + 1)) := by
        have h1 : 2 ^ (7 * (i + 1)) = 128 * 2 ^ (7 * i) := by rw [Nat.mul_succ, Nat.pow_add]; omega
        rw [h1, Nat.add_sub_cancel]
        have h2 : v * 2 ^ (7 * i) = (v % 128 + 128 * (v / 128)) * 2 ^ (7 * i) := by rw [Nat.mod_add_div]
        rw [h2, Nat.add_mul]
        have h3 : 128 * (v / 128) * 2 ^ (7 * i) = v / 128 * (128 * 2 ^ (7 * i)) := by rw [Nat.mul_comm 128 (v / 128), Nat.mul_assoc]
        omega
      rw [e2]
      exact ih (v / 128) (by omega) (i + 1) _ r (by omega) (by omega) (by rw [← e2]; exact hu)
theorem dec_enc (v : Nat) (r : List UInt8) (hv : v ≤ 4611686018427387904) : dec 0 0 (enc v ++ r) = some (v, r) := by
  have := dec_enc_go v 0 0 r (by have := enc_le9 hv; omega) (by omega) (by simpa using hv)
  simpa using this
theorem decRow_row (l r : List UInt8) (hl : l.length ≤ 4611686018427387904) : decRow (row l ++ r) = some (l, r) := by
  unfold decRow row
  rw [List.append_assoc, dec_enc _ _ hl]
  simp
theorem dec_length : ∀ (l : List UInt8) (i u n : Nat) (r : List UInt8), dec i u l = some (n, r) → r.length < l.length ∧ n ≤ 4611686018427387904
  | [], i, u, n, r, h => by simp [dec] at h
  | c :: l, i, u, n, r, h => by
    simp only [dec] at h
    split at h
    · cases h
    · split at h
      · split at h
        · cases h
        · simp only [Option.some.injEq, Prod.mk.injEq] at h
          obtain ⟨rfl, rfl⟩ := h
          simp; omega
      · have := dec_length l _ _ _ _ h
        simp; omega
end Go.Proofs.Ytgmnpgohkabfcaa.Oct
