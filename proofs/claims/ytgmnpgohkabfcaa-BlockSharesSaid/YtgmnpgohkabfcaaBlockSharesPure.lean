/-
  Keys that begin alike, and keys that do not, as bytes: plain.
-/
import Derived.Test.YtgmnpgohkabfcaaBlockEncLe
import Derived.Test.YtgmnpgohkabfcaaBlockOrderPure
namespace Go.Proofs.Ytgmnpgohkabfcaa.Bl
open Oct L
def begS (m : Nat) : ByteArray := ⟨(List.replicate m (107 : UInt8)).toArray⟩
def chS (i : Nat) : ByteArray := ⟨#[UInt8.ofNat (65 + i)]⟩
theorem begS_succ (m : Nat) : begS m ++ ⟨#[107]⟩ = begS (m + 1) := by
  refine ByteArray.ext ?_
  rw [ByteArray.data_append]
  apply Array.toList_inj.1
  simp [begS, List.replicate_succ']
theorem begS_zero : begS 0 = ⟨#[]⟩ := rfl
theorem begS_list (m : Nat) : (begS m).data.toList = List.replicate m 107 := rfl
theorem chS_list (i : Nat) : (chS i).data.toList = [UInt8.ofNat (65 + i)] := rfl
def cA (m i : Nat) : Cl := ⟨begS m ++ chS i, ⟨#[]⟩, false, 1⟩
def cB (m i : Nat) : Cl := ⟨chS i ++ begS m, ⟨#[]⟩, false, 1⟩
def lA (m n : Nat) : List Cl := (List.range n).map (cA m)
def lB (m n : Nat) : List Cl := (List.range n).map (cB m)
theorem lA_succ (m n : Nat) : lA m (n + 1) = lA m n ++ [cA m n] := by simp [lA, List.range_succ]
theorem lB_succ (m n : Nat) : lB m (n + 1) = lB m n ++ [cB m n] := by simp [lB, List.range_succ]
theorem lA_length (m n : Nat) : (lA m n).length = n := by simp [lA]
theorem lB_length (m n : Nat) : (lB m n).length = n := by simp [lB]
theorem lA_get {m n k : Nat} (h : k < n) : (lA m n).getD k default = cA m k := by simp [lA, List.getD, h]
theorem lB_get {m n k : Nat} (h : k < n) : (lB m n).getD k default = cB m k := by simp [lB, List.getD, h]
theorem kA_list (m i : Nat) : (cA m i).key.data.toList = List.replicate m 107 ++ [UInt8.ofNat (65 + i)] := by
  show (begS m ++ chS i).data.toList = _
  rw [ByteArray.data_append, Array.toList_append, begS_list, chS_list]
theorem kB_list (m i : Nat) : (cB m i).key.data.toList = UInt8.ofNat (65 + i) :: List.replicate m 107 := by
  show (chS i ++ begS m).data.toList = _
  rw [ByteArray.data_append, Array.toList_append, begS_list, chS_list]; rfl
theorem kA_size (m i : Nat) : (cA m i).key.size = m + 1 := by
  have := congrArg List.length (kA_list m i)
  simpa using this
theorem kB_size (m i : Nat) : (cB m i).key.size = m + 1 := by
  have := congrArg List.length (kB_list m i)
  simpa using this
theorem bl_prefix : ∀ (p x y : List UInt8), Op.bytesLess (p ++ x) (p ++ y) = Op.bytesLess x y
  | [], _, _ => rfl
  | a :: p, x, y => by
    have := bl_prefix p x y
    have h : ¬ a < a := by simp only [UInt8.lt_iff_toNat_lt]; omega
    simp [Op.bytesLess, this, h]
theorem ch_lt {i : Nat} (h : i < 60) : (UInt8.ofNat (65 + i)) < UInt8.ofNat (65 + (i + 1)) := by
  simp only [UInt8.lt_iff_toNat_lt, UInt8.toNat_ofNat']
  omega
theorem ch_ne {i : Nat} (h : i < 60) : UInt8.ofNat (65 + i) ≠ UInt8.ofNat (65 + (i + 1)) := by
  intro e
  have := ch_lt h
  rw [e] at this
  simp only [UInt8.lt_iff_toNat_lt] at this
  omega
theorem lessA {m i : Nat} (h : i < 60) : lessC (cA m i) (cA m (i + 1)) = true := by
  have : strLt (cA m i).key (cA m (i + 1)).key = true := by
    rw [strLt, ByteArray.toList_eq, ByteArray.toList_eq, kA_list, kA_list, bl_prefix]
    have hc := ch_lt h
    generalize UInt8.ofNat (65 + i) = x at hc ⊢
    generalize UInt8.ofNat (65 + (i + 1)) = y at hc ⊢
    simp [Op.bytesLess, hc]
  simp [lessC, this]
theorem lessB {m i : Nat} (h : i < 60) : lessC (cB m i) (cB m (i + 1)) = true := by
  have : strLt (cB m i).key (cB m (i + 1)).key = true := by
    rw [strLt, ByteArray.toList_eq, ByteArray.toList_eq, kB_list, kB_list]
    have hc := ch_lt h
    generalize UInt8.ofNat (65 + i) = x at hc ⊢
    generalize UInt8.ofNat (65 + (i + 1)) = y at hc ⊢
    simp [Op.bytesLess, hc]
  simp [lessC, this]
theorem isA {m i : Nat} (h : m ≤ 100) : isC (cA m i) = true := by
  have h1 := kA_size m i
  have e : (cA m i).val = ⟨#[]⟩ := rfl
  have e2 : (cA m i).del = false := rfl
  have e3 : (cA m i).seq = 1 := rfl
  have e4 : (ByteArray.mk #[]).size = 0 := rfl
  simp only [isC, h1, e, e2, e3, e4]
  simp; omega
theorem isB {m i : Nat} (h : m ≤ 100) : isC (cB m i) = true := by
  have h1 := kB_size m i
  have e : (cB m i).val = ⟨#[]⟩ := rfl
  have e2 : (cB m i).del = false := rfl
  have e3 : (cB m i).seq = 1 := rfl
  have e4 : (ByteArray.mk #[]).size = 0 := rfl
  simp only [isC, h1, e, e2, e3, e4]
  simp; omega
theorem riseA {m n : Nat} (hm : m ≤ 100) (hn : n ≤ 60) : riseN (lA m n) = 0 := by
  have h1 : (lA m n).all isC = true := all_all fun j hj => by
    rw [lA_length] at hj
    rw [lA_get hj]; exact isA hm
  have h2 : risesB (lA m n) = true := risesB_all _ fun k hk => by
    rw [lA_length] at hk
    rw [lA_get (by omega), lA_get (by omega)]; exact lessA (by omega)
  rw [riseN, h1, h2]; rfl
theorem riseB {m n : Nat} (hm : m ≤ 100) (hn : n ≤ 60) : riseN (lB m n) = 0 := by
  have h1 : (lB m n).all isC = true := all_all fun j hj => by
    rw [lB_length] at hj
    rw [lB_get hj]; exact isB hm
  have h2 : risesB (lB m n) = true := risesB_all _ fun k hk => by
    rw [lB_length] at hk
    rw [lB_get (by omega), lB_get (by omega)]; exact lessB (by omega)
  rw [riseN, h1, h2]; rfl
theorem enc_small {u : Nat} (h : u < 128) : (enc u).length = 1 := by rw [enc_lt h]; rfl
theorem encC_small {n : Nat} {c : Cl} (hn : n < 128) (hk : c.key.size < 128) (hv : c.val = ⟨#[]⟩) (hd : c.del = false) (hs : c.seq = 1) (hnk : n ≤ c.key.size) : (encC n c).length = c.key.size - n + 5 := by
  have h1 : (row (c.key.data.toList.drop n)).length = c.key.size - n + 1 := by
    have : (c.key.data.toList.drop n).length = c.key.size - n := by simp
    rw [row, List.length_append, this, enc_small (by omega)]; omega
  have h2 : (row c.val.data.toList).length = 1 := by
    rw [hv]; show (row []).length = 1
    rw [row, List.length_append]; simp [enc_small]
  have h3 : (enc (clamp c.seq)).length = 1 := by
    rw [hs, show clamp 1 = 1 from by decide]; exact enc_small (by omega)
  rw [encC, hd]
  simp only [List.length_append, h1, h2, h3, enc_small hn, enc_small (show 0 < 128 by omega), Bool.false_eq_true, if_false]
  omega
theorem sharedN_rep (m : Nat) {x y : UInt8} (h : x ≠ y) : sharedN (List.replicate m 107 ++ [x]) (List.replicate m 107 ++ [y]) = m := by
  induction m with
  | zero => simp [sharedN, h]
  | succ m ih => simp only [List.replicate_succ, List.cons_append, sharedN, if_true, ih]
theorem nA {m n k : Nat} (hk : k < n) (hn : n ≤ 60) : nAt (lA m n) k = if k % 4 = 0 then 0 else m := by
  unfold nAt
  split
  · rfl
  · rw [lA_get (show k - 1 < n by omega), lA_get hk, kA_list, kA_list]
    refine sharedN_rep m fun e => ?_
    have := ch_ne (i := k - 1) (by omega)
    rw [show k - 1 + 1 = k from by omega] at this
    exact this e
theorem nB {m n k : Nat} (hk : k < n) (hn : n ≤ 60) : nAt (lB m n) k = 0 := by
  unfold nAt
  split
  · rfl
  · rw [lB_get (show k - 1 < n by omega), lB_get hk, kB_list, kB_list]
    have := ch_ne (i := k - 1) (by omega)
    rw [show k - 1 + 1 = k from by omega] at this
    generalize UInt8.ofNat (65 + (k - 1)) = x at this ⊢
    generalize UInt8.ofNat (65 + k) = y at this ⊢
    simp [sharedN, this]
theorem upB {m n : Nat} (hm : m ≤ 100) (hn : n ≤ 60) : ∀ k, k ≤ n → (encUp (lB m n) k).length = k * (m + 6)
  | 0, _ => by simp [encUp]
  | k + 1, hk => by
    have ih := upB hm hn k (by omega)
    have h1 := kB_size m k
    have h2 := encC_small (n := 0) (c := cB m k) (by omega) (by omega) rfl rfl rfl (by omega)
    rw [encUp, List.length_append, ih, nB (by omega) hn, lB_get (by omega), h2, h1, Nat.add_mul]
    omega
theorem upA {m n : Nat} (hm : m ≤ 100) (hn : n ≤ 60) : ∀ k, k ≤ n → (encUp (lA m n) k).length + (k - (k + 3) / 4) * m = k * (m + 6)
  | 0, _ => by simp [encUp]
  | k + 1, hk => by
    have ih := upA hm hn k (by omega)
    have h1 := kA_size m k
    rw [encUp, List.length_append, nA (by omega) hn, lA_get (by omega)]
    by_cases h4 : k % 4 = 0
    · have h2 := encC_small (n := 0) (c := cA m k) (by omega) (by omega) rfl rfl rfl (by omega)
      rw [if_pos h4, h2, h1]
      have e : k + 1 - (k + 1 + 3) / 4 = k - (k + 3) / 4 := by omega
      rw [e, Nat.add_mul k 1]
      omega
    · have h2 := encC_small (n := m) (c := cA m k) (by omega) (by omega) rfl rfl rfl (by omega)
      rw [if_neg h4, h2, h1]
      have e : k + 1 - (k + 1 + 3) / 4 = k - (k + 3) / 4 + 1 := by omega
      rw [e, Nat.add_mul k 1, Nat.add_mul _ 1 m]
      omega
theorem lenB {m n : Nat} (hm : m ≤ 100) (hn : n ≤ 60) : (encL (lB m n)).length = n * (m + 6) := by
  rw [encL, lB_length]; exact upB hm hn n (Nat.le_refl _)
theorem lenA {m n : Nat} (hm : m ≤ 100) (hn : n ≤ 60) : (encL (lA m n)).length + (n - (n + 3) / 4) * m = n * (m + 6) := by
  rw [encL, lA_length]; exact upA hm hn n (Nat.le_refl _)
end Go.Proofs.Ytgmnpgohkabfcaa.Bl
