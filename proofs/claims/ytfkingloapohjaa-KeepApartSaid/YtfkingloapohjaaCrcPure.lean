/-
  Plain mathematics of the check sum: CRC-32, digit by digit; it tells rows of one length apart that differ in one byte. No program here.
-/
import Derived.Laws.BitsAllLaws
namespace Go.Proofs.Ytfkingloapohjaa.Crc
def bit (c : UInt32) : UInt32 := if c.toNat % 2 = 1 then (c >>> 1) ^^^ 3988292384 else c >>> 1
def bits8 (c : UInt32) : Nat → UInt32
  | 0 => c
  | j + 1 => bit (bits8 c j)
def byte (c : UInt32) (b : UInt8) : UInt32 := bits8 (c ^^^ b.toUInt32) 8
def run (c : UInt32) (l : List UInt8) : UInt32 := l.foldl byte c
def sum (l : List UInt8) : UInt32 := ~~~(run 4294967295 l)
theorem run_append (c : UInt32) (a b : List UInt8) : run c (a ++ b) = run (run c a) b := by simp [run]
theorem run_snoc (c : UInt32) (a : List UInt8) (x : UInt8) : run c (a ++ [x]) = byte (run c a) x := by simp [run]

theorem xor_right_inj (a b c : UInt32) (h : a ^^^ c = b ^^^ c) : a = b := by
  have : (a ^^^ c) ^^^ c = (b ^^^ c) ^^^ c := by rw [h]
  simpa [UInt32.xor_assoc] using this
theorem shr_lt (c : UInt32) : (c >>> 1).toNat < 2147483648 := by
  have := c.toNat_lt
  rw [UInt32.toNat_shiftRight]
  show c.toNat >>> 1 < _
  rw [Nat.shiftRight_eq_div_pow]
  omega
theorem shr_toNat (c : UInt32) : (c >>> 1).toNat = c.toNat / 2 := by
  rw [UInt32.toNat_shiftRight]
  show c.toNat >>> 1 = _
  rw [Nat.shiftRight_eq_div_pow]
/-- the top digit tells which way a step went -/
theorem top_xor (c : UInt32) : 2147483648 ≤ ((c >>> 1) ^^^ 3988292384).toNat := by
  rw [UInt32.toNat_xor]
  show 2147483648 ≤ (c >>> 1).toNat ^^^ 3988292384
  have h := shr_lt c
  have e : (3988292384 : Nat) = 2 ^ 31 + 1840808736 := by decide
  have hx : ((c >>> 1).toNat ^^^ 3988292384) / 2 ^ 31 = 1 := by
    rw [← Nat.shiftRight_eq_div_pow, Nat.shiftRight_xor_distrib, Nat.shiftRight_eq_div_pow, Nat.shiftRight_eq_div_pow]
    rw [Nat.div_eq_of_lt h]
    decide
  omega
theorem bit_inj (a b : UInt32) (h : bit a = bit b) : a = b := by
  have ha := a.toNat_lt
  have hb := b.toNat_lt
  unfold bit at h
  by_cases h1 : a.toNat % 2 = 1 <;> by_cases h2 : b.toNat % 2 = 1
  · rw [if_pos h1, if_pos h2] at h
    have h3 := congrArg UInt32.toNat (xor_right_inj _ _ _ h)
    rw [shr_toNat, shr_toNat] at h3
    exact UInt32.toNat_inj.1 (by omega)
  · rw [if_pos h1, if_neg h2] at h
    have h3 := top_xor a
    rw [h] at h3
    have := shr_lt b
    omega
  · rw [if_neg h1, if_pos h2] at h
    have h3 := top_xor b
    rw [← h] at h3
    have := shr_lt a
    omega
  · rw [if_neg h1, if_neg h2] at h
    have h3 := congrArg UInt32.toNat h
    rw [shr_toNat, shr_toNat] at h3
    exact UInt32.toNat_inj.1 (by omega)
theorem bits8_inj (a b : UInt32) : ∀ j, bits8 a j = bits8 b j → a = b
  | 0, h => h
  | j + 1, h => bits8_inj a b j (bit_inj _ _ h)
theorem toUInt32_inj (x y : UInt8) (h : x.toUInt32 = y.toUInt32) : x = y := by
  have := congrArg UInt32.toNat h
  rw [UInt8.toNat_toUInt32, UInt8.toNat_toUInt32] at this
  exact UInt8.toNat_inj.1 this
theorem byte_inj_state (a b : UInt32) (x : UInt8) (h : byte a x = byte b x) : a = b := xor_right_inj _ _ _ (bits8_inj _ _ 8 h)
theorem byte_inj_byte (a : UInt32) (x y : UInt8) (h : byte a x = byte a y) : x = y := by
  have h1 := bits8_inj _ _ 8 h
  rw [UInt32.xor_comm a, UInt32.xor_comm a] at h1
  exact toUInt32_inj _ _ (xor_right_inj _ _ _ h1)
theorem run_inj (l : List UInt8) : ∀ a b, run a l = run b l → a = b := by
  induction l with
  | nil => intro a b h; exact h
  | cons x l ih => intro a b h; exact byte_inj_state _ _ x (ih _ _ h)
theorem not_inj (a b : UInt32) (h : ~~~a = ~~~b) : a = b := by
  have : ~~~(~~~a) = ~~~(~~~b) := by rw [h]
  simpa using this
/-- a byte that is another one has another sum -/
theorem sum_set (l : List UInt8) (i : Nat) (y : UInt8) (hi : i < l.length) (hy : y ≠ l[i]) : sum (l.set i y) ≠ sum l := by
  intro h
  apply hy
  have h1 := not_inj _ _ h
  have e1 : l.set i y = l.take i ++ y :: l.drop (i + 1) := by rw [List.set_eq_take_append_cons_drop, if_pos hi]
  have e2 : l = l.take i ++ l[i] :: l.drop (i + 1) := by rw [List.getElem_cons_drop, List.take_append_drop]
  rw [e1] at h1
  conv at h1 => rhs; rw [e2]
  rw [run_append, run_append] at h1
  exact byte_inj_byte _ _ _ (run_inj _ _ _ h1)
end Go.Proofs.Ytfkingloapohjaa.Crc
