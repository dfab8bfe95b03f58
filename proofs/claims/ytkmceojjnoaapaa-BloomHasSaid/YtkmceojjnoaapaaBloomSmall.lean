/-
  Bloom (chapter 6): the law's own helpers: heavy, known.
-/
import Derived.Test.YtkmceojjnoaapaaBloomMake
namespace Go.Proofs.Ytkmceojjnoaapaa.Bloom
open Go.RowKit BloomP L
theorem may_nil (v : Value) (s : ByteArray) (w : World) (hv : Sl w 1 v 0 []) :
    Calls Try.prog 13 #[v, .string s] w fun e w' => e = .returned (.bool true) ∧ Below w.heap.size w w' := by
  have hlen := hv.run_len Try.underlying24
  go_enter Try.func13, Try.ntmps13
  go_wp2
  go_ret
  exact ⟨rfl, Below.refl _ _⟩
theorem may_ref_nil (v : Value) (s : ByteArray) (w : World) (hv : Sl w 1 v 0 []) :
    Calls Try.prog 14 #[v, .string s] w fun e w' => e = .returned (.bool true) ∧ Below w.heap.size w w' := by
  have hlen := hv.run_len Try.underlying24
  go_enter Try.func14, Try.ntmps14
  go_wp2
  refine wp_loop_rounds 1 ?_
  rw [rounds_succ]
  go_wp2
  go_ret
  exact ⟨rfl, Below.refl _ _⟩
theorem hash_empty (w : World) : Calls Try.prog 10 #[.string { data := #[] }] w fun e w' => e = .returned (.int .u32 2166136261) ∧ w = w' :=
  (hash_any { data := #[] } w (by show 0 ≤ _; omega)).mono fun _ _ h => h
set_option maxHeartbeats 400000 in
theorem known_any (w : World) : Calls Try.prog 12 #[] w fun e w' => e = .returned (.bool true) ∧ Below w.heap.size w w' := by
  go_enter Try.func12, Try.ntmps12
  go_wp2_with fail
  refine (hash_empty _).mono ?_
  rintro e w1 ⟨rfl, rfl⟩
  go_wp2_with fail
  refine (make_any (.slice none 0 0) 0 [] _ (Sl.nil _ _) (by omega) (by simp)).mono ?_
  rintro e w1 ⟨v', rfl, hown, hb⟩
  have hl := (Sl.of_own hown).run_len Try.underlying24
  rw [show room 0 = 8 from rfl] at hl
  go_wp2_with fail
  refine (may_nil (.slice none 0 0) _ _ (Sl.nil _ _)).mono ?_
  rintro e w2 ⟨rfl, hb2⟩
  go_wp2
  go_ret
  exact ⟨rfl, hb.trans (hb2.mono hb.size)⟩
set_option maxHeartbeats 400000 in
theorem heavy_any (v : Value) (n : Nat) (ss : List ByteArray) (w : World) (hv : Sl w 1 v n (strs ss)) (hs : ∀ s ∈ ss, s.size ≤ 140737488355328) :
    Calls Try.prog 7 #[v] w (RetB fun b w' => w = w' ∧ (b = false → n ≤ 4000 ∧ ∀ s ∈ ss, s.size ≤ 4000)) := by
  have hlen := hv.run_len Try.underlying22
  have hn := hv.le
  unfold maxLen at hn
  have hss : Hid (ss.length = n) := by have := hv.length; show _ = _; simpa [strs] using this
  go_enter Try.func7, Try.ntmps7
  go_wp2
  go_loop [3, 4] (fun N i => ∃ k M : Nat, k ≤ n ∧ i = .int .i64 k ∧ N = .int .i64 M ∧ k ≤ M ∧ M ≤ 4000 ∧ ∀ j, j < k → (ss.getD j ByteArray.empty).size ≤ 4000) (fun _ i => n - (intOf i).toNat)
  case atStart => exact ⟨0, 0, Nat.zero_le _, rfl, rfl, Nat.le_refl _, by omega, by intro j h; omega⟩
  case round =>
    obtain ⟨k, M, hk, rfl, rfl, hkM, hM, hsm⟩ := hrel
    have Hsm := Lib.hid hsm
    clear hsm
    by_cases hlt : k < n
    · obtain ⟨s, hse⟩ : ∃ s, s = ss.getD k ByteArray.empty := ⟨_, rfl⟩
      obtain ⟨A, hA, hblk, hcell⟩ := run_indexAt_sl (P := Try.prog) hv Try.underlying22 Try.size9 .i64 (k : Int) (by omega) (by omega)
      have hc := hcell 0 (by omega)
      rw [strs_get _ _ (by rw [hss.out]; omega)] at hc
      simp only [add_zero, Int.toNat_natCast, Nat.mul_one, Nat.add_zero] at hc
      rw [← hse] at hc
      have hS := Lib.hid hse
      clear hcell hse
      have hsz : s.size ≤ 140737488355328 := by
        rw [hS.out]
        apply hs
        rw [List.getD, List.getElem?_eq_getElem (by rw [hss.out]; omega)]
        simp
      go_wp2
      · go_ret
        exact ⟨true, rfl, rfl, by simp⟩
      · have h4 : (M : Int) + 1 + (s.size : Int) ≤ 4000 := by omega
        go_round
        case rel =>
          refine ⟨k + 1, M + 1 + s.size, by omega, by go_num, by go_num, by omega, by omega, fun j hj => ?_⟩
          by_cases e : j = k
          · subst e; rw [← hS.out]; omega
          · exact Hsm.out j (by omega)
        case measure => simp [intOf]; omega
    · have hM' : n ≤ 4000 := by omega
      go_wp2
      go_ret
      refine ⟨false, rfl, rfl, fun _ s hs' => ?_⟩
      obtain ⟨i, hi, rfl⟩ := List.getElem_of_mem hs'
      have := Hsm.out i (by rw [hss.out] at hi; omega)
      simpa [List.getD, hi] using this
end Go.Proofs.Ytkmceojjnoaapaa.Bloom
