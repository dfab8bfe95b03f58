/-
  The order of cells is one: plain.
-/
import Derived.Test.YtgmnpgohkabfcaaBlockSmall
namespace Go.Proofs.Ytgmnpgohkabfcaa.Bl
theorem bl_asymm : ∀ a b : List UInt8, Op.bytesLess a b = true → Op.bytesLess b a = false
  | _, [], h => by simp [Op.bytesLess] at h
  | [], _ :: _, _ => rfl
  | a :: x, b :: y, h => by
    simp only [Op.bytesLess, Bool.or_eq_true, Bool.and_eq_true, decide_eq_true_eq, beq_iff_eq] at h
    have ih := bl_asymm x y
    rcases h with h | ⟨rfl, h⟩
    · have h1 : ¬ b < a := fun h2 => by simp only [UInt8.lt_iff_toNat_lt] at h h2; omega
      have h2 : ¬ b = a := fun e => by subst e; simp only [UInt8.lt_iff_toNat_lt] at h; omega
      simp [Op.bytesLess, h1, h2]
    · simp [Op.bytesLess, ih h]
theorem bl_tri : ∀ a b : List UInt8, Op.bytesLess a b = false → Op.bytesLess b a = false → a = b
  | [], [], _, _ => rfl
  | [], _ :: _, h, _ => by simp [Op.bytesLess] at h
  | _ :: _, [], _, h => by simp [Op.bytesLess] at h
  | a :: x, b :: y, h, h' => by
    simp only [Op.bytesLess, Bool.or_eq_false_iff, decide_eq_false_iff_not, UInt8.lt_iff_toNat_lt] at h h'
    have e : a = b := UInt8.toNat_inj.1 (by omega)
    subst e
    have ih := bl_tri x y
    simp only [beq_self_eq_true, Bool.true_and] at h h'
    rw [ih h.2 h'.2]
theorem bl_trans : ∀ a b c : List UInt8, Op.bytesLess a b = true → Op.bytesLess b c = true → Op.bytesLess a c = true
  | _, [], _, h, _ => by simp [Op.bytesLess] at h
  | _, _ :: _, [], _, h => by simp [Op.bytesLess] at h
  | [], _ :: _, _ :: _, _, _ => rfl
  | a :: x, b :: y, c :: z, h, h' => by
    simp only [Op.bytesLess, Bool.or_eq_true, Bool.and_eq_true, decide_eq_true_eq, beq_iff_eq, UInt8.lt_iff_toNat_lt] at h h' ⊢
    have ih := bl_trans x y z
    rcases h with h | ⟨rfl, h⟩ <;> rcases h' with h' | ⟨rfl, h'⟩
    · left; omega
    · left; omega
    · left; omega
    · right; exact ⟨rfl, ih h h'⟩
theorem strEq_iff {a b : ByteArray} : strEq a b = true ↔ a.toList = b.toList := by simp [strEq]
theorem lessC_one {a b : Cl} (h1 : a.key.toList = b.key.toList) (h2 : a.seq = b.seq) : lessC a b = false := by
  have h3 : decide (b.seq < a.seq) = false := by simp; omega
  simp [lessC, strLt, h1, bytesLess_irrefl, h3]
theorem lessC_two {a b : Cl} (h : ¬ (a.key.toList = b.key.toList ∧ a.seq = b.seq)) : lessC a b = !lessC b a := by
  by_cases hk : a.key.toList = b.key.toList
  · have hs : a.seq ≠ b.seq := fun e => h ⟨hk, e⟩
    have e1 : strEq a.key b.key = true := strEq_iff.2 hk
    have e2 : strEq b.key a.key = true := strEq_iff.2 hk.symm
    have l1 : strLt a.key b.key = false := by rw [strLt, hk]; exact bytesLess_irrefl _
    have l2 : strLt b.key a.key = false := by rw [strLt, hk]; exact bytesLess_irrefl _
    rw [lessC, lessC, e1, e2, l1, l2]
    simp only [Bool.false_or, Bool.true_and]
    by_cases h3 : b.seq < a.seq
    · have : ¬ a.seq < b.seq := by omega
      simp [h3, this]
    · have : a.seq < b.seq := by omega
      simp [h3, this]
  · have e1 : strEq a.key b.key = false := by rw [Bool.eq_false_iff]; exact fun e => hk (strEq_iff.1 e)
    have e2 : strEq b.key a.key = false := by rw [Bool.eq_false_iff]; exact fun e => hk (strEq_iff.1 e).symm
    rw [lessC, lessC, e1, e2]
    simp only [Bool.false_and, Bool.or_false]
    cases h1 : strLt a.key b.key with
    | true => rw [strLt, bl_asymm _ _ h1]; rfl
    | false =>
      cases h2 : strLt b.key a.key with
      | true => rfl
      | false => exact (hk (bl_tri _ _ h1 h2)).elim
theorem lessC_trans {a b c : Cl} (h1 : lessC a b = true) (h2 : lessC b c = true) : lessC a c = true := by
  simp only [lessC, Bool.or_eq_true, Bool.and_eq_true, decide_eq_true_eq, strLt, strEq_iff] at h1 h2 ⊢
  rcases h1 with h1 | ⟨h1, h3⟩ <;> rcases h2 with h2 | ⟨h2, h4⟩
  · exact .inl (bl_trans _ _ _ h1 h2)
  · exact .inl (by rw [← h2]; exact h1)
  · exact .inl (by rw [h1]; exact h2)
  · exact .inr ⟨h1.trans h2, by omega⟩
end Go.Proofs.Ytgmnpgohkabfcaa.Bl
