/-
  Texts that the proofs of this seat stand on, one behind the other: contracts of functions and plain lemmas. Conditions: those that each theorem states.
-/
import Derived.Laws.BitsAllLaws
/-
  Plain mathematics of the check sum: CRC-32, digit by digit; it tells rows of one length apart that differ in one byte. No program here.
-/

namespace Go.Proofs.YtkbfjgmgckbogaaGreat.Crc
def bit (c : UInt32) : UInt32 := if c.toNat % 2 = 1 then (c >>> 1) ^^^ 3988292384 else c >>> 1
def bits8 (c : UInt32) : Nat → UInt32
  | 0 => c
  | j + 1 => bit (bits8 c j)
def byte (c : UInt32) (b : UInt8) : UInt32 := bits8 (c ^^^ b.toUInt32) 8
def run (c : UInt32) (l : List UInt8) : UInt32 := l.foldl byte c
def sum (l : List UInt8) : UInt32 := ~~~(run 4294967295 l)
theorem run_append (c : UInt32) (a b : List UInt8) : run c (a ++ b) = run (run c a) b := by simp [run]
theorem run_snoc (c : UInt32) (a : List UInt8) (x : UInt8) : run c (a ++ [x]) = byte (run c a) x := by simp [run]

theorem xor_right_inj (a b c : UInt32) (h : a ^^^ c = b ^^^ c) : a = b := by
  have : (a ^^^ c) ^^^ c = (b ^^^ c) ^^^ c := by rw [h]
  simpa [UInt32.xor_assoc] using this
theorem shr_lt (c : UInt32) : (c >>> 1).toNat < 2147483648 := by
  have := c.toNat_lt
  rw [UInt32.toNat_shiftRight]
  show c.toNat >>> 1 < _
  rw [Nat.shiftRight_eq_div_pow]
  omega
theorem shr_toNat (c : UInt32) : (c >>> 1).toNat = c.toNat / 2 := by
  rw [UInt32.toNat_shiftRight]
  show c.toNat >>> 1 = _
  rw [Nat.shiftRight_eq_div_pow]
/-- the top digit tells which way a step went -/
theorem top_xor (c : UInt32) : 2147483648 ≤ ((c >>> 1) ^^^ 3988292384).toNat := by
  rw [UInt32.toNat_xor]
  show 2147483648 ≤ (c >>> 1).toNat ^^^ 3988292384
  have h := shr_lt c
  have e : (3988292384 : Nat) = 2 ^ 31 + 1840808736 := by decide
  have hx : ((c >>> 1).toNat ^^^ 3988292384) / 2 ^ 31 = 1 := by
    rw [← Nat.shiftRight_eq_div_pow, Nat.shiftRight_xor_distrib, Nat.shiftRight_eq_div_pow, Nat.shiftRight_eq_div_pow]
    rw [Nat.div_eq_of_lt h]
    decide
  omega
theorem bit_inj (a b : UInt32) (h : bit a = bit b) : a = b := by
  have ha := a.toNat_lt
  have hb := b.toNat_lt
  unfold bit at h
  by_cases h1 : a.toNat % 2 = 1 <;> by_cases h2 : b.toNat % 2 = 1
  · rw [if_pos h1, if_pos h2] at h
    have h3 := congrArg UInt32.toNat (xor_right_inj _ _ _ h)
    rw [shr_toNat, shr_toNat] at h3
    exact UInt32.toNat_inj.1 (by omega)
  · rw [if_pos h1, if_neg h2] at h
    have h3 := top_xor a
    rw [h] at h3
    have := shr_lt b
    omega
  · rw [if_neg h1, if_pos h2] at h
    have h3 := top_xor b
    rw [← h] at h3
    have := shr_lt a
    omega
  · rw [if_neg h1, if_neg h2] at h
    have h3 := congrArg UInt32.toNat h
    rw [shr_toNat, shr_toNat] at h3
    exact UInt32.toNat_inj.1 (by omega)
theorem bits8_inj (a b : UInt32) : ∀ j, bits8 a j = bits8 b j → a = b
  | 0, h => h
  | j + 1, h => bits8_inj a b j (bit_inj _ _ h)
theorem toUInt32_inj (x y : UInt8) (h : x.toUInt32 = y.toUInt32) : x = y := by
  have := congrArg UInt32.toNat h
  rw [UInt8.toNat_toUInt32, UInt8.toNat_toUInt32] at this
  exact UInt8.toNat_inj.1 this
theorem byte_inj_state (a b : UInt32) (x : UInt8) (h : byte a x = byte b x) : a = b := xor_right_inj _ _ _ (bits8_inj _ _ 8 h)
theorem byte_inj_byte (a : UInt32) (x y : UInt8) (h : byte a x = byte a y) : x = y := by
  have h1 := bits8_inj _ _ 8 h
  rw [UInt32.xor_comm a, UInt32.xor_comm a] at h1
  exact toUInt32_inj _ _ (xor_right_inj _ _ _ h1)
theorem run_inj (l : List UInt8) : ∀ a b, run a l = run b l → a = b := by
  induction l with
  | nil => intro a b h; exact h
  | cons x l ih => intro a b h; exact byte_inj_state _ _ x (ih _ _ h)
theorem not_inj (a b : UInt32) (h : ~~~a = ~~~b) : a = b := by
  have : ~~~(~~~a) = ~~~(~~~b) := by rw [h]
  simpa using this
/-- a byte that is another one has another sum -/
theorem sum_set (l : List UInt8) (i : Nat) (y : UInt8) (hi : i < l.length) (hy : y ≠ l[i]) : sum (l.set i y) ≠ sum l := by
  intro h
  apply hy
  have h1 := not_inj _ _ h
  have e1 : l.set i y = l.take i ++ y :: l.drop (i + 1) := by rw [List.set_eq_take_append_cons_drop, if_pos hi]
  have e2 : l = l.take i ++ l[i] :: l.drop (i + 1) := by rw [List.getElem_cons_drop, List.take_append_drop]
  rw [e1] at h1
  conv at h1 => rhs; rw [e2]
  rw [run_append, run_append] at h1
  exact byte_inj_byte _ _ _ (run_inj _ _ _ h1)
end Go.Proofs.YtkbfjgmgckbogaaGreat.Crc

/-
  Plain mathematics of chapter 1 (octet): numbers as bytes and back, rows, the check sum. No program here.
-/

namespace Go.Proofs.YtkbfjgmgckbogaaGreat.Oct

/-- a number as bytes, seven binary digits a byte -/
def enc (u : Nat) : List UInt8 := if _h : u < 128 then [UInt8.ofNat u] else UInt8.ofNat (u % 128 + 128) :: enc (u / 128)
termination_by u
decreasing_by omega
def clamp (z : Int) : Nat := (max 0 (min z 4611686018427387904)).toNat
def encs (zs : List Int) : List UInt8 := zs.flatMap fun z => enc (clamp z)
def row (l : List UInt8) : List UInt8 := enc l.length ++ l
def rows (ls : List (List UInt8)) : List UInt8 := ls.flatMap row
/-- a number taken: its value and what is left; i bytes of it, and u, were taken before -/
def dec : Nat → Nat → List UInt8 → Option (Nat × List UInt8)
  | _, _, [] => none
  | i, u, c :: r =>
    if 9 ≤ i ∨ (0 < i ∧ c.toNat = 0) then none
    else if c.toNat < 128 then (if 4611686018427387904 < u + c.toNat * 2 ^ (7 * i) then none else some (u + c.toNat * 2 ^ (7 * i), r))
    else dec (i + 1) (u + (c.toNat - 128) * 2 ^ (7 * i)) r
/-- a row taken -/
def decRow (l : List UInt8) : Option (List UInt8 × List UInt8) :=
  match dec 0 0 l with
  | none => none
  | some (n, r) => if n ≤ r.length then some (r.take n, r.drop n) else none

theorem enc_lt {u : Nat} (h : u < 128) : enc u = [UInt8.ofNat u] := by rw [enc, dif_pos h]
theorem enc_ge {u : Nat} (h : 128 ≤ u) : enc u = UInt8.ofNat (u % 128 + 128) :: enc (u / 128) := by rw [enc, dif_neg (by omega)]
theorem enc_pos (u : Nat) : 1 ≤ (enc u).length := by
  by_cases h : u < 128
  · rw [enc_lt h]; simp
  · rw [enc_ge (by omega)]; simp
theorem clamp_le (z : Int) : clamp z ≤ 4611686018427387904 := by unfold clamp; omega
/-- a number below 128^k has at most k bytes -/
theorem enc_length : ∀ (k u : Nat), u < 128 ^ (k + 1) → (enc u).length ≤ k + 1
  | 0, u, h => by rw [enc_lt (by simpa using h)]; simp
  | k + 1, u, h => by
    by_cases h1 : u < 128
    · rw [enc_lt h1]; simp
    · rw [enc_ge (by omega), List.length_cons]
      have := enc_length k (u / 128) (by rw [Nat.div_lt_iff_lt_mul (by omega)]; rwa [← Nat.pow_succ])
      omega
theorem enc_le9 {u : Nat} (h : u ≤ 4611686018427387904) : (enc u).length ≤ 9 := enc_length 8 u (by omega)
theorem encs_nil : encs [] = [] := rfl
theorem encs_append (a b : List Int) : encs (a ++ b) = encs a ++ encs b := by simp [encs]
theorem encs_snoc (a : List Int) (z : Int) : encs (a ++ [z]) = encs a ++ enc (clamp z) := by simp [encs]
theorem encs_length (zs : List Int) : (encs zs).length ≤ 9 * zs.length := by
  induction zs with
  | nil => simp [encs]
  | cons z r ih =>
    have h1 : encs (z :: r) = enc (clamp z) ++ encs r := by simp [encs]
    have h2 := enc_le9 (clamp_le z)
    rw [h1, List.length_append, List.length_cons]
    omega
theorem rows_nil : rows [] = [] := rfl
theorem rows_append (a b : List (List UInt8)) : rows (a ++ b) = rows a ++ rows b := by simp [rows]
theorem rows_snoc (a : List (List UInt8)) (l : List UInt8) : rows (a ++ [l]) = rows a ++ row l := by simp [rows]

/-- what was laid is taken -/
theorem dec_enc_go : ∀ (v i u : Nat) (r : List UInt8), (enc v).length + i ≤ 9 → (0 < i → 0 < v) → u + v * 2 ^ (7 * i) ≤ 4611686018427387904 → dec i u (enc v ++ r) = some (u + v * 2 ^ (7 * i), r) := by
  intro v
  induction v using Nat.strongRecOn with
  | _ v ih =>
    intro i u r hl h0 hu
    by_cases hv : v < 128
    · rw [enc_lt hv] at hl ⊢
      have e : (UInt8.ofNat v).toNat = v := by rw [UInt8.toNat_ofNat']; show v % 256 = v; omega
      simp only [List.cons_append, List.nil_append, dec, e]
      simp only [List.length_singleton] at hl
      rw [if_neg (by rintro (h | ⟨h1, h2⟩); omega; have := h0 h1; omega), if_pos hv, if_neg (by omega)]
    · rw [enc_ge (by omega)] at hl ⊢
      simp only [List.length_cons] at hl
      have e : (UInt8.ofNat (v % 128 + 128)).toNat = v % 128 + 128 := by rw [UInt8.toNat_ofNat']; show (v % 128 + 128) % 256 = _; omega
      simp only [List.cons_append, dec, e]
      rw [if_neg (by rintro (h | ⟨h1, h2⟩) <;> omega), if_neg (by omega)]
      have e2 : u + v * 2 ^ (7 * i) = u + (v % 128 + 128 - 128) * 2 ^ (7 * i) + v / 128 * 2 ^ (7 * (i + 1)) := by
        have h1 : 2 ^ (7 * (i + 1)) = 128 * 2 ^ (7 * i) := by rw [Nat.mul_succ, Nat.pow_add]; omega
        rw [h1, Nat.add_sub_cancel]
        have h2 : v * 2 ^ (7 * i) = (v % 128 + 128 * (v / 128)) * 2 ^ (7 * i) := by rw [Nat.mod_add_div]
        rw [h2, Nat.add_mul]
        have h3 : 128 * (v / 128) * 2 ^ (7 * i) = v / 128 * (128 * 2 ^ (7 * i)) := by rw [Nat.mul_comm 128 (v / 128), Nat.mul_assoc]
        omega
      rw [e2]
      exact ih (v / 128) (by omega) (i + 1) _ r (by omega) (by omega) (by rw [← e2]; exact hu)
theorem dec_enc (v : Nat) (r : List UInt8) (hv : v ≤ 4611686018427387904) : dec 0 0 (enc v ++ r) = some (v, r) := by
  have := dec_enc_go v 0 0 r (by have := enc_le9 hv; omega) (by omega) (by simpa using hv)
  simpa using this
theorem decRow_row (l r : List UInt8) (hl : l.length ≤ 4611686018427387904) : decRow (row l ++ r) = some (l, r) := by
  unfold decRow row
  rw [List.append_assoc, dec_enc _ _ hl]
  simp
theorem dec_length : ∀ (l : List UInt8) (i u n : Nat) (r : List UInt8), dec i u l = some (n, r) → r.length < l.length ∧ n ≤ 4611686018427387904
  | [], i, u, n, r, h => by simp [dec] at h
  | c :: l, i, u, n, r, h => by
    simp only [dec] at h
    split at h
    · cases h
    · split at h
      · split at h
        · cases h
        · simp only [Option.some.injEq, Prod.mk.injEq] at h
          obtain ⟨rfl, rfl⟩ := h
          simp; omega
      · have := dec_length l _ _ _ _ h
        simp; omega
end Go.Proofs.YtkbfjgmgckbogaaGreat.Oct
