/-
  s[:n:n] of what is owned. Over any program.
-/
import Derived.Test.YtnaggipeliifgaaGrow
namespace Go.Proofs.Ytnaggipeliifgaa.L
open Go.RowKit
section
variable {P : Program} {W0 w : World} {R : Asrt} {B n m : Nat} {e : TypeId} {s : Nat} {v : Value} {xs : List Value}
theorem Rowed.less {g : Nat} {cur : Array Value} {k : Nat} (h : Rowed w g cur k) {j : Nat} (hj : j ≤ k) : Rowed w g cur j := by
  obtain ⟨t, fz, h1, h2⟩ := h
  exact ⟨t, fz, h1, fun i hi => h2 i (by omega)⟩
theorem Own.cut {ao : Option Addr} {cap : Nat} (h : Own w B e s (.slice ao n cap) n xs) (hm : m ≤ n) : Own w B e s (.slice ao m m) m (xs.take (m * s)) := by
  have hle : m * s ≤ n * s := Nat.mul_le_mul_right _ hm
  refine ⟨by rw [List.length_take, h.1]; omega, ?_⟩
  rcases h.2 with ⟨h1, h2⟩ | ⟨g, cap', cur, h1, h2, h3, h4, h5, h6, h7⟩
  · simp only [Value.slice.injEq] at h1
    obtain ⟨rfl, _, _⟩ := h1
    obtain rfl : m = 0 := by omega
    exact .inl ⟨rfl, rfl⟩
  · simp only [Value.slice.injEq] at h1
    obtain ⟨rfl, _, rfl⟩ := h1
    have hmc : m * s ≤ cap * s := Nat.mul_le_mul_right _ (by omega)
    refine .inr ⟨g, m, cur, rfl, h2, h3.less hmc, Nat.le_refl _, by omega, by omega, ?_⟩
    rw [← h7, List.take_take, Nat.min_eq_left hle]
theorem run_slice_cut {ao : Option Addr} {cap : Nat} (h : Own w B e s (.slice ao n cap) n xs) {t e' : TypeId} (ht : P.underlying t = some (.slice e')) (hs : (P.info? e').map (fun i => i.size) = some s) (hm : m ≤ n) {k k' : IntKind} :
    ∀ w', (Instr.slice t (.slice ao n cap) none (some (.int k (m : Int))) (some (.int k' (m : Int)))).run P w' = .ok (.slice ao m m) w' := by
  have hle : n ≤ cap ∧ cap ≤ maxLen := by
    obtain ⟨_, ao', cap', e, h1, h2, _⟩ := h.sl
    simp only [Value.slice.injEq] at e
    omega
  obtain ⟨inf, hif, hsz⟩ := Option.map_eq_some_iff.1 hs
  intro w'
  have e1 : m ≤ cap := by omega
  have hnone : ao = none → m = 0 := fun he => by
    obtain ⟨_, ao', cap', e, h1, h2, h3, _⟩ := h.sl
    simp only [Value.slice.injEq] at e
    have := h3 (by rw [← e.1]; exact he)
    omega
  simp [Instr.slice, run_underlying ht, Instr.sliceBounds, run_sliceBound_if, sizeOf, typeInfo, hif, e1]
  cases ao with
  | none => simp
  | some a => simp [add_zero]
theorem Hold.cut {ao : Option Addr} {cap : Nat} (h : Hold W0 ((Row e s (.slice ao n cap) n xs).sep R) w) (hm : m ≤ n) : Hold W0 ((Row e s (.slice ao m m) m (xs.take (m * s))).sep R) w := by
  obtain ⟨F, ⟨hown, hF⟩, hge, hup⟩ := h.take
  refine hup _ (Row e s (.slice ao m m) m (xs.take (m * s))) F (Keeps.refl F w) ⟨hown.cut hm, fun k => ?_⟩ fun k hk => .inl hk
  rw [hF k]
  cases ao <;> rfl
end
end Go.Proofs.Ytnaggipeliifgaa.L
