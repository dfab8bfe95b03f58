/-
  How many bytes cells have that are looked at; plain.
-/
import Derived.Test.YtgmnpgohkabfcaaBlockEnc
namespace Go.Proofs.Ytgmnpgohkabfcaa.Bl
theorem encL_le {l : List Cl} (h : riseN l = 0) (hl : l.length ≤ 201) (hw : weight l ≤ 6000) : (encL l).length ≤ 100000 := by
  have key : ∀ k, k ≤ l.length → (encUp l k).length ≤ weight (l.take k) + 46 * k := by
    intro k
    induction k with
    | zero => intro _; simp [encUp]
    | succ k ih =>
      intro hk
      have h1 := isC_key (riseN_all h (l.getD k default) (by rw [getD_get (show k < l.length by omega)]; exact List.getElem_mem _))
      have h2 := nAt_le l k
      have h3 := encC_length (nAt l k) (l.getD k default) (by omega) (by omega) (by omega)
      have h4 := weight_take l k (by omega)
      have := ih (by omega)
      rw [encUp, List.length_append]
      omega
  have := key l.length (Nat.le_refl _)
  rw [List.take_length] at this
  rw [encL]; omega
end Go.Proofs.Ytgmnpgohkabfcaa.Bl
