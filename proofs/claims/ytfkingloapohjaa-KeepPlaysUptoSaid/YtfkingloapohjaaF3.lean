/-
  Texts that the proofs of this seat stand on, one behind the other: contracts of functions and plain lemmas. Conditions: those that each theorem states.
-/
import Derived.Test.YtfkingloapohjaaF2
/-
  Objects side by side: how they are bracketed. Over any program.
-/

namespace Go.Proofs.Ytfkingloapohjaa.L
theorem Hold.assoc {W0 w : World} {A B R : Asrt} : Hold W0 ((A.sep B).sep R) w ↔ Hold W0 (A.sep (B.sep R)) w := by
  constructor
  · rintro ⟨h1, F, hF, F12, F3, h2, h3, ⟨F1, F2, h4, h5, h6, h7⟩, h8⟩
    exact ⟨h1, F, hF, F1, fun k => F2 k ∨ F3 k, fun k => by rw [h2, h4, or_assoc], fun k hk hk2 => hk2.elim (h5 k hk) (h3 k ((h4 k).2 (.inl hk))), h6, F2, F3, fun k => Iff.rfl, fun k hk => h3 k ((h4 k).2 (.inr hk)), h7, h8⟩
  · rintro ⟨h1, F, hF, F1, F23, h2, h3, h4, F2, F3, h5, h6, h7, h8⟩
    exact ⟨h1, F, hF, fun k => F1 k ∨ F2 k, F3, fun k => by rw [h2, h5, or_assoc], fun k hk hk2 => hk.elim (fun hk => h3 k hk ((h5 k).2 (.inr hk2))) (fun hk => h6 k hk hk2), ⟨F1, F2, fun k => Iff.rfl, fun k hk hk2 => h3 k hk ((h5 k).2 (.inl hk2)), h4, h7⟩, h8⟩
theorem Asrt.ext {A B : Asrt} (h : ∀ F w, A.at_ F w ↔ B.at_ F w) : A = B := by
  obtain ⟨a, _, _⟩ := A
  obtain ⟨b, _, _⟩ := B
  obtain rfl : a = b := by
    funext F w
    exact propext (h F w)
  rfl
theorem sep_at_comm {A B : Asrt} {F : Nat → Prop} {w : World} (h : (A.sep B).at_ F w) : (B.sep A).at_ F w := by
  obtain ⟨F1, F2, h2, h3, h4, h5⟩ := h
  exact ⟨F2, F1, fun k => by rw [h2 k]; exact or_comm, fun k a b => h3 k b a, h5, h4⟩
theorem sep_comm (A B : Asrt) : A.sep B = B.sep A := Asrt.ext fun _ _ => ⟨sep_at_comm, sep_at_comm⟩
theorem sep_assoc (A B C : Asrt) : (A.sep B).sep C = A.sep (B.sep C) := Asrt.ext fun F w => by
  constructor
  · rintro ⟨F12, F3, h2, h3, ⟨F1, F2, h4, h5, h6, h7⟩, h8⟩
    exact ⟨F1, fun k => F2 k ∨ F3 k, fun k => by rw [h2, h4, or_assoc], fun k hk hk2 => hk2.elim (h5 k hk) (h3 k ((h4 k).2 (.inl hk))), h6, F2, F3, fun k => Iff.rfl, fun k hk => h3 k ((h4 k).2 (.inr hk)), h7, h8⟩
  · rintro ⟨F1, F23, h2, h3, h4, F2, F3, h5, h6, h7, h8⟩
    exact ⟨fun k => F1 k ∨ F2 k, F3, fun k => by rw [h2, h5, or_assoc], fun k hk hk2 => hk.elim (fun hk => h3 k hk ((h5 k).2 (.inr hk2))) (fun hk => h6 k hk hk2), ⟨F1, F2, fun k => Iff.rfl, fun k hk hk2 => h3 k hk ((h5 k).2 (.inl hk2)), h4, h7⟩, h8⟩
instance : Std.Commutative Asrt.sep := ⟨sep_comm⟩
instance : Std.Associative Asrt.sep := ⟨sep_assoc⟩
/-- the same objects in another order: 'by ac_rfl' -/
theorem Hold.perm {W0 w : World} {A B : Asrt} (h : Hold W0 A w) (e : A = B) : Hold W0 B w := e ▸ h
theorem Hold.up5 {W0 w : World} {A B C D E R : Asrt} (h : Hold W0 (A.sep (B.sep (C.sep (D.sep (E.sep R))))) w) : Hold W0 (E.sep (A.sep (B.sep (C.sep (D.sep R))))) w := h.perm (by ac_rfl)
theorem Hold.up6 {W0 w : World} {A B C D E G R : Asrt} (h : Hold W0 (A.sep (B.sep (C.sep (D.sep (E.sep (G.sep R)))))) w) : Hold W0 (G.sep (A.sep (B.sep (C.sep (D.sep (E.sep R)))))) w := h.perm (by ac_rfl)
theorem Hold.up7 {W0 w : World} {A B C D E G I R : Asrt} (h : Hold W0 (A.sep (B.sep (C.sep (D.sep (E.sep (G.sep (I.sep R))))))) w) : Hold W0 (I.sep (A.sep (B.sep (C.sep (D.sep (E.sep (G.sep R))))))) w := h.perm (by ac_rfl)
/-- a store of what stands there -/
theorem blk_same {w : World} {b : Nat} {cs : Array Value} {t : TypeId} (h : w.heap[b]? = some (.cells cs t (0, 0))) (j : Nat) {v : Value} (hj : cs[j]? = some v) : w.setCell ⟨b, j, none⟩ v = w := by
  rw [setCell_eq_setRow w b j cs t (0, 0) v h]
  have : cs.setIfInBounds j v = cs := by
    apply Array.ext_getElem?
    intro i
    rw [Array.getElem?_setIfInBounds]
    split
    · rename_i e
      subst e
      obtain ⟨hlt, hv⟩ := Array.getElem?_eq_some_iff.1 hj
      rw [if_pos hlt, hj]
    · rfl
  rw [this]
  exact setRow_same w b cs t (0, 0) h
end Go.Proofs.Ytfkingloapohjaa.L

/-
  An object of which a part is not named; a store into a block. Over any program.
-/

namespace Go.Proofs.Ytfkingloapohjaa.L
open Go.RowKit
/-- some object of a family -/
def ExA {α : Type} (f : α → Asrt) : Asrt where
  at_ F w := ∃ a, (f a).at_ F w
  stay := by
    rintro F w w' ⟨a, h⟩ hk
    exact ⟨a, (f a).stay h hk⟩
  lt := by
    rintro F w ⟨a, h⟩ k hk
    exact (f a).lt h k hk
section
variable {W0 w : World} {R : Asrt} {α : Type} {f : α → Asrt}
theorem Hold.unex (h : Hold W0 ((ExA f).sep R) w) : ∃ a, Hold W0 ((f a).sep R) w := by
  obtain ⟨h1, F, hF, F1, F2, h2, h3, ⟨a, h4⟩, h5⟩ := h
  exact ⟨a, h1, F, hF, F1, F2, h2, h3, h4, h5⟩
theorem Hold.toex (a : α) (h : Hold W0 ((f a).sep R) w) : Hold W0 ((ExA f).sep R) w := by
  obtain ⟨h1, F, hF, F1, F2, h2, h3, h4, h5⟩ := h
  exact ⟨h1, F, hF, F1, F2, h2, h3, ⟨a, h4⟩, h5⟩
theorem Hold.setB {b : Nat} {cs : Array Value} {t : TypeId} (h : Hold W0 ((Blk b cs t).sep R) w) (j : Nat) (v : Value) : Hold W0 ((Blk b (cs.setIfInBounds j v) t).sep R) (w.setCell ⟨b, j, none⟩ v) := by
  obtain ⟨F, ⟨hb, hF⟩, hge, hup⟩ := h.take
  exact hup _ (Blk b (cs.setIfInBounds j v) t) F ((Keeps.refl F w).setCell (fun _ => (hF b).2 rfl) _) ⟨blk_set hb j v, hF⟩ (fun k hk => .inl hk)
theorem emp_sep (A : Asrt) : Asrt.emp.sep A = A := Asrt.ext fun F w => by
  constructor
  · rintro ⟨F1, F2, h2, h3, h4, h5⟩
    have : F = F2 := by
      funext k
      exact propext ((h2 k).trans ⟨fun h => h.resolve_left (h4 k), .inr⟩)
    rw [this]; exact h5
  · intro h
    exact ⟨fun _ => False, F, fun k => by simp, fun _ h => h.elim, fun _ h => h, h⟩
end
end Go.Proofs.Ytfkingloapohjaa.L

/-
  A field of an element of what is owned: its place, and a store to it. Over any program.
-/

namespace Go.Proofs.Ytfkingloapohjaa.L
open Go.RowKit
section
variable {P : Program} {W0 w : World} {R : Asrt} {e : TypeId} {s n : Nat} {v : Value} {xs : List Value}
theorem own_indexS (h : Own w 0 e s v n xs) {t e' : TypeId} (ht : P.underlying t = some (.slice e')) (hs : (P.info? e').map (fun i => i.size) = some s) (k : IntKind) (i j : Nat) (hi : i < n) (hj : j < s) :
    ∃ g, v.ownBlock = some g ∧ (∀ w' : World, (Instr.indexAt t v (.int k (i : Int))).run P w' = .ok (.pointer (some ⟨g, i * s, none⟩)) w') ∧ w.cell? ⟨g, i * s + j, none⟩ = some (xs.getD (i * s + j) undef) ∧ w.frozen? ⟨g, i * s + j, none⟩ = false ∧
      ∀ u, Own (w.setCell ⟨g, i * s + j, none⟩ u) 0 e s v n (xs.set (i * s + j) u) := by
  obtain ⟨inf, hif, hsz⟩ := Option.map_eq_some_iff.1 hs
  obtain ⟨hl, h1' | ⟨g, cap, cur, rfl, hb, hg, hn, hm, hcs, htk⟩⟩ := h
  · omega
  · have hle : (i + 1) * s ≤ n * s := Nat.mul_le_mul_right _ hi
    have hle2 : n * s ≤ cap * s := Nat.mul_le_mul_right _ hn
    have hq : i * s + j < n * s := by rw [Nat.add_mul, Nat.one_mul] at hle; omega
    refine ⟨g, rfl, fun w' => ?_, ?_, hg.free (by omega), fun u => ⟨by simpa using hl, .inr ⟨g, cap, _, rfl, hb, hg.setCell _ u, hn, hm, by simpa using hcs, ?_⟩⟩⟩
    · simp [Instr.indexAt, run_underlying ht, asIntOf, hi, sizeOf, typeInfo, hif, hsz, Addr.add_lit]
    · rw [hg.cell, ← htk]
      have : i * s + j < cur.size := by omega
      simp only [List.getD, List.getElem?_take, if_pos hq]
      rw [List.getElem?_eq_getElem (by simpa using this)]
      simp [this]
    · rw [Array.toList_setIfInBounds, take_set u, htk]
theorem Hold.indexS (h : Hold W0 ((Row e s v n xs).sep R) w) {t e' : TypeId} (ht : P.underlying t = some (.slice e')) (hs : (P.info? e').map (fun i => i.size) = some s) (k : IntKind) (i j : Nat) (hi : i < n) (hj : j < s) :
    ∃ g, (∀ w' : World, (Instr.indexAt t v (.int k (i : Int))).run P w' = .ok (.pointer (some ⟨g, i * s, none⟩)) w') ∧ w.cell? ⟨g, i * s + j, none⟩ = some (xs.getD (i * s + j) undef) ∧ w.frozen? ⟨g, i * s + j, none⟩ = false ∧
      ∀ u, Hold W0 ((Row e s v n (xs.set (i * s + j) u)).sep R) (w.setCell ⟨g, i * s + j, none⟩ u) := by
  obtain ⟨F, ⟨hown, hF⟩, hge, hup⟩ := h.take
  obtain ⟨g, hgv, hA, hc, hf, hset⟩ := own_indexS (P := P) hown ht hs k i j hi hj
  exact ⟨g, hA, hc, hf, fun u => hup _ _ F ((Keeps.refl F w).setCell (fun _ => (hF _).2 hgv) u) ⟨hset u, hF⟩ fun k hk => .inl hk⟩
end
end Go.Proofs.Ytfkingloapohjaa.L
