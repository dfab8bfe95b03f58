/-
  A field of an element of what is owned: its place, and a store to it. Over any program.
-/
import Derived.Test.YtindlfiifckdnaaDoorEx
namespace Go.Proofs.YtindlfiifckdnaaDoor.L
open Go.RowKit
section
variable {P : Program} {W0 w : World} {R : Asrt} {e : TypeId} {s n : Nat} {v : Value} {xs : List Value}
theorem own_indexS (h : Own w 0 e s v n xs) {t e' : TypeId} (ht : P.underlying t = some (.slice e')) (hs : (P.info? e').map (fun i => i.size) = some s) (k : IntKind) (i j : Nat) (hi : i < n) (hj : j < s) :
    ∃ g, v.ownBlock = some g ∧ (∀ w' : World, (Instr.indexAt t v (.int k (i : Int))).run P w' = .ok (.pointer (some ⟨g, i * s, none⟩)) w') ∧ w.cell? ⟨g, i * s + j, none⟩ = some (xs.getD (i * s + j) undef) ∧ w.frozen? ⟨g, i * s + j, none⟩ = false ∧
      ∀ u, Own (w.setCell ⟨g, i * s + j, none⟩ u) 0 e s v n (xs.set (i * s + j) u) := by
  obtain ⟨inf, hif, hsz⟩ := Option.map_eq_some_iff.1 hs
  obtain ⟨hl, h1' | ⟨g, cap, cur, rfl, hb, hg, hn, hm, hcs, htk⟩⟩ := h
  · omega
  · have hle : (i + 1) * s ≤ n * s := Nat.mul_le_mul_right _ hi
    have hle2 : n * s ≤ cap * s := Nat.mul_le_mul_right _ hn
    have hq : i * s + j < n * s := by rw [Nat.add_mul, Nat.one_mul] at hle; omega
    refine ⟨g, rfl, fun w' => ?_, ?_, hg.free (by omega), fun u => ⟨by simpa using hl, .inr ⟨g, cap, _, rfl, hb, hg.setCell _ u, hn, hm, by simpa using hcs, ?_⟩⟩⟩
    · simp [Instr.indexAt, run_underlying ht, asIntOf, hi, sizeOf, typeInfo, hif, hsz, Addr.add_lit]
    · rw [hg.cell, ← htk]
      have : i * s + j < cur.size := by omega
      simp only [List.getD, List.getElem?_take, if_pos hq]
      rw [List.getElem?_eq_getElem (by simpa using this)]
      simp [this]
    · rw [Array.toList_setIfInBounds, take_set u, htk]
theorem Hold.indexS (h : Hold W0 ((Row e s v n xs).sep R) w) {t e' : TypeId} (ht : P.underlying t = some (.slice e')) (hs : (P.info? e').map (fun i => i.size) = some s) (k : IntKind) (i j : Nat) (hi : i < n) (hj : j < s) :
    ∃ g, (∀ w' : World, (Instr.indexAt t v (.int k (i : Int))).run P w' = .ok (.pointer (some ⟨g, i * s, none⟩)) w') ∧ w.cell? ⟨g, i * s + j, none⟩ = some (xs.getD (i * s + j) undef) ∧ w.frozen? ⟨g, i * s + j, none⟩ = false ∧
      ∀ u, Hold W0 ((Row e s v n (xs.set (i * s + j) u)).sep R) (w.setCell ⟨g, i * s + j, none⟩ u) := by
  obtain ⟨F, ⟨hown, hF⟩, hge, hup⟩ := h.take
  obtain ⟨g, hgv, hA, hc, hf, hset⟩ := own_indexS (P := P) hown ht hs k i j hi hj
  exact ⟨g, hA, hc, hf, fun u => hup _ _ F ((Keeps.refl F w).setCell (fun _ => (hF _).2 hgv) u) ⟨hset u, hF⟩ fun k hk => .inl hk⟩
end
end Go.Proofs.YtindlfiifckdnaaDoor.L
