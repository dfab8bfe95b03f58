/-
  How many bytes two texts have alike, from the first on: chapter 7's 'shared', the reference's 'common'.
-/
import Derived.Test.YtgmnpgohkabfcaaBlockSmall
import Derived.Deep.QuietTactic
import Derived.BigQuiet
import Derived.WalkSmall
namespace Go.Proofs.Ytgmnpgohkabfcaa.Bl
open Go.RowKit L
/-- nothing but draws -/
def Drew (w w' : World) : Prop := ∃ n, w' = w.drewN n
theorem Drew.refl (w : World) : Drew w w := ⟨0, rfl⟩
theorem Drew.drewN {w w' : World} (h : Drew w w') (n : Nat) : Drew w (w'.drewN n) := by
  obtain ⟨m, rfl⟩ := h
  exact ⟨m + n, World.drewN_drewN ..⟩
theorem Drew.below {w w' : World} (h : Drew w w') : Below w.heap.size w w' := by
  obtain ⟨m, rfl⟩ := h
  exact below_drewN (Below.refl _ _) m
/-- how many bytes are alike -/
def sharedN : List UInt8 → List UInt8 → Nat
  | a :: x, b :: y => if a = b then sharedN x y + 1 else 0
  | _, _ => 0
theorem sharedN_le : ∀ a b : List UInt8, sharedN a b ≤ a.length ∧ sharedN a b ≤ b.length ∧ a.take (sharedN a b) = b.take (sharedN a b)
  | [], b => by simp [sharedN]
  | a :: x, [] => by simp [sharedN]
  | a :: x, b :: y => by
    have h := sharedN_le x y
    unfold sharedN
    split
    · rename_i e
      subst e
      simp [h.2.2]; omega
    · simp
theorem sharedN_at : ∀ (n : Nat) (a b : List UInt8), n ≤ a.length → n ≤ b.length → a.take n = b.take n → (a.length = n ∨ b.length = n ∨ a.getD n 0 ≠ b.getD n 0) → sharedN a b = n
  | 0, [], b, _, _, _, _ => by simp [sharedN]
  | 0, a :: x, [], _, _, _, _ => by simp [sharedN]
  | 0, a :: x, b :: y, _, _, _, h => by
    have : a ≠ b := by simpa using h
    simp [sharedN, this]
  | n + 1, a :: x, b :: y, h1, h2, h3, h4 => by
    simp only [List.take_succ_cons, List.cons.injEq] at h3
    have := sharedN_at n x y (by simpa using h1) (by simpa using h2) h3.2 (by simpa using h4)
    simp [sharedN, h3.1, this]
theorem byte_at (s : ByteArray) (n : Nat) (h : n < s.data.size) : s.data[n] = s.data.toList.getD n 0 := by
  simp only [List.getD, Array.getElem?_toList, Array.getElem?_eq_getElem h, Option.getD_some]
theorem take_snoc2 {a b : List UInt8} {k : Nat} (ha : k < a.length) (hb : k < b.length) (h : a.take k = b.take k) (h2 : a.getD k 0 = b.getD k 0) : a.take (k + 1) = b.take (k + 1) := by
  rw [List.take_succ_eq_append_getElem ha, List.take_succ_eq_append_getElem hb, h]
  simp only [List.getD, List.getElem?_eq_getElem ha, List.getElem?_eq_getElem hb, Option.getD_some] at h2
  rw [h2]
set_option maxHeartbeats 800000 in
theorem shared_any (a b : ByteArray) (w : World) (ha : a.size ≤ 140737488351232) : Calls Try.prog 27 #[.string a, .string b] w fun e w' => e = .returned (.int .i64 (sharedN a.data.toList b.data.toList : Nat)) ∧ Drew w w' := by
  have la : a.data.toList.length = a.size := by simp
  have lb : b.data.toList.length = b.size := by simp
  have La := Lib.hid la
  have Lb := Lib.hid lb
  clear la lb
  go_enter Try.func27, Try.ntmps27
  go_wp2
  go_loopw [5] (fun i wr => ∃ k : Nat, k ≤ a.size ∧ k ≤ b.size ∧ i = .int .i64 k ∧ a.data.toList.take k = b.data.toList.take k ∧ Drew w wr) (fun i _ => a.size - (intOf i).toNat)
  case atStart => exact ⟨0, Nat.zero_le _, Nat.zero_le _, rfl, rfl, Drew.refl _⟩
  case round =>
    obtain ⟨k, hk1, hk2, rfl, htk, hbr⟩ := hrel
    have Hat := fun h => Lib.hid (sharedN_at k a.data.toList b.data.toList (by rw [La.out]; exact hk1) (by rw [Lb.out]; exact hk2) htk h)
    have Htk := Lib.hid htk
    clear htk
    by_cases h1 : (k : Int) < a.size
    · by_cases h2 : (k : Int) < b.size
      · have h1' : k < a.data.size := by show k < a.size; omega
        have h2' : k < b.data.size := by show k < b.size; omega
        have h1'' : k < a.size := h1'
        have h2'' : k < b.size := h2'
        have e1 := byte_at a k h1'
        have e2 := byte_at b k h2'
        by_cases hxy : a.data[k] = b.data[k]
        · have hd : ((a.data[k].toNat : Int) == (b.data[k].toNat : Int)) = true := by simp [hxy]
          have hd' : ((a[k].toNat : Int) == (b[k].toNat : Int)) = true := by
            have : (a[k] : UInt8) = b[k] := hxy
            simp [this]
          have Hnx := Lib.hid (take_snoc2 (by rw [La.out]; exact h1'') (by rw [Lb.out]; exact h2'') Htk.out (by rw [← e1, ← e2, hxy]))
          clear e1 e2 hxy Hat
          go_wp2
          go_quiet (fail)
          go_wp2
          go_roundw
          case rel => exact ⟨k + 1, by omega, by omega, by go_num, Hnx.out, hbr.drewN _⟩
          case measure => simp [intOf]; omega
        · have hxy' : ¬ (a[k] : UInt8) = b[k] := hxy
          have hd' : ((a[k].toNat : Int) == (b[k].toNat : Int)) = false := by
            simp only [beq_eq_false_iff_ne, ne_eq]
            intro h
            exact hxy' (UInt8.toNat_inj.1 (by omega))
          have hd : ((a.data[k].toNat : Int) == (b.data[k].toNat : Int)) = false := by
            simp only [beq_eq_false_iff_ne, ne_eq]
            intro h
            exact hxy (UInt8.toNat_inj.1 (by omega))
          have Hs := Hat (.inr (.inr (by rw [← e1, ← e2]; exact hxy)))
          clear e1 e2 hxy hxy' Hat
          go_wp2
          go_quiet (fail)
          go_wp2
          go_ret
          exact ⟨ret_int (by rw [Hs.out]), hbr.drewN _⟩
      · have hd : decide (k < b.size) = false := by simp; omega
        have hd' : decide ((k : Int) < (b.size : Int)) = false := by simp; omega
        have Hs := Hat (.inr (.inl (by rw [Lb.out]; omega)))
        clear h2 Hat
        go_wp2
        go_quiet (fail)
        go_wp2
        go_ret
        exact ⟨ret_int (by rw [Hs.out]), hbr.drewN _⟩
    · have hd : decide (k < a.size) = false := by simp; omega
      have hd' : decide ((k : Int) < (a.size : Int)) = false := by simp; omega
      have Hs := Hat (.inl (by rw [La.out]; omega))
      clear h1 Hat
      go_wp2
      go_quiet (fail)
      go_wp2
      go_ret
      exact ⟨ret_int (by rw [Hs.out]), hbr.drewN _⟩
set_option maxHeartbeats 800000 in
theorem common_any (a b : ByteArray) (w : World) (ha : a.size ≤ 140737488351232) : Calls Try.prog 32 #[.string a, .string b] w fun e w' => e = .returned (.int .i64 (sharedN a.data.toList b.data.toList : Nat)) ∧ Drew w w' := by
  have la : a.data.toList.length = a.size := by simp
  have lb : b.data.toList.length = b.size := by simp
  have La := Lib.hid la
  have Lb := Lib.hid lb
  clear la lb
  go_enter Try.func32, Try.ntmps32
  go_wp2
  go_loopw [5] (fun i wr => ∃ k : Nat, k ≤ a.size ∧ k ≤ b.size ∧ i = .int .i64 k ∧ a.data.toList.take k = b.data.toList.take k ∧ Drew w wr) (fun i _ => a.size - (intOf i).toNat)
  case atStart => exact ⟨0, Nat.zero_le _, Nat.zero_le _, rfl, rfl, Drew.refl _⟩
  case round =>
    obtain ⟨k, hk1, hk2, rfl, htk, hbr⟩ := hrel
    have Hat := fun h => Lib.hid (sharedN_at k a.data.toList b.data.toList (by rw [La.out]; exact hk1) (by rw [Lb.out]; exact hk2) htk h)
    have Htk := Lib.hid htk
    clear htk
    by_cases h1 : (k : Int) < a.size
    · by_cases h2 : (k : Int) < b.size
      · have h1' : k < a.data.size := by show k < a.size; omega
        have h2' : k < b.data.size := by show k < b.size; omega
        have h1'' : k < a.size := h1'
        have h2'' : k < b.size := h2'
        have e1 := byte_at a k h1'
        have e2 := byte_at b k h2'
        by_cases hxy : a.data[k] = b.data[k]
        · have hd : ((a.data[k].toNat : Int) == (b.data[k].toNat : Int)) = true := by simp [hxy]
          have hd' : ((a[k].toNat : Int) == (b[k].toNat : Int)) = true := by
            have : (a[k] : UInt8) = b[k] := hxy
            simp [this]
          have Hnx := Lib.hid (take_snoc2 (by rw [La.out]; exact h1'') (by rw [Lb.out]; exact h2'') Htk.out (by rw [← e1, ← e2, hxy]))
          clear e1 e2 hxy Hat
          go_wp2
          go_quiet (fail)
          go_wp2
          go_roundw
          case rel => exact ⟨k + 1, by omega, by omega, by go_num, Hnx.out, hbr.drewN _⟩
          case measure => simp [intOf]; omega
        · have hxy' : ¬ (a[k] : UInt8) = b[k] := hxy
          have hd' : ((a[k].toNat : Int) == (b[k].toNat : Int)) = false := by
            simp only [beq_eq_false_iff_ne, ne_eq]
            intro h
            exact hxy' (UInt8.toNat_inj.1 (by omega))
          have hd : ((a.data[k].toNat : Int) == (b.data[k].toNat : Int)) = false := by
            simp only [beq_eq_false_iff_ne, ne_eq]
            intro h
            exact hxy (UInt8.toNat_inj.1 (by omega))
          have Hs := Hat (.inr (.inr (by rw [← e1, ← e2]; exact hxy)))
          clear e1 e2 hxy hxy' Hat
          go_wp2
          go_quiet (fail)
          go_wp2
          go_ret
          exact ⟨ret_int (by rw [Hs.out]), hbr.drewN _⟩
      · have hd : decide (k < b.size) = false := by simp; omega
        have hd' : decide ((k : Int) < (b.size : Int)) = false := by simp; omega
        have Hs := Hat (.inr (.inl (by rw [Lb.out]; omega)))
        clear h2 Hat
        go_wp2
        go_quiet (fail)
        go_wp2
        go_ret
        exact ⟨ret_int (by rw [Hs.out]), hbr.drewN _⟩
    · have hd : decide (k < a.size) = false := by simp; omega
      have hd' : decide ((k : Int) < (a.size : Int)) = false := by simp; omega
      have Hs := Hat (.inl (by rw [La.out]; omega))
      clear h1 Hat
      go_wp2
      go_quiet (fail)
      go_wp2
      go_ret
      exact ⟨ret_int (by rw [Hs.out]), hbr.drewN _⟩
end Go.Proofs.Ytgmnpgohkabfcaa.Bl
