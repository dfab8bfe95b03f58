/-
  Objects side by side: how they are bracketed. Over any program.
-/
import Derived.Test.YtindlfiifckdnaaDoorSep2
namespace Go.Proofs.YtindlfiifckdnaaDoor.L
theorem Hold.assoc {W0 w : World} {A B R : Asrt} : Hold W0 ((A.sep B).sep R) w ↔ Hold W0 (A.sep (B.sep R)) w := by
  constructor
  · rintro ⟨h1, F, hF, F12, F3, h2, h3, ⟨F1, F2, h4, h5, h6, h7⟩, h8⟩
    exact ⟨h1, F, hF, F1, fun k => F2 k ∨ F3 k, fun k => by rw [h2, h4, or_assoc], fun k hk hk2 => hk2.elim (h5 k hk) (h3 k ((h4 k).2 (.inl hk))), h6, F2, F3, fun k => Iff.rfl, fun k hk => h3 k ((h4 k).2 (.inr hk)), h7, h8⟩
  · rintro ⟨h1, F, hF, F1, F23, h2, h3, h4, F2, F3, h5, h6, h7, h8⟩
    exact ⟨h1, F, hF, fun k => F1 k ∨ F2 k, F3, fun k => by rw [h2, h5, or_assoc], fun k hk hk2 => hk.elim (fun hk => h3 k hk ((h5 k).2 (.inr hk2))) (fun hk => h6 k hk hk2), ⟨F1, F2, fun k => Iff.rfl, fun k hk hk2 => h3 k hk ((h5 k).2 (.inl hk2)), h4, h7⟩, h8⟩
theorem Asrt.ext {A B : Asrt} (h : ∀ F w, A.at_ F w ↔ B.at_ F w) : A = B := by
  obtain ⟨a, _, _⟩ := A
  obtain ⟨b, _, _⟩ := B
  obtain rfl : a = b := by
    funext F w
    exact propext (h F w)
  rfl
theorem sep_at_comm {A B : Asrt} {F : Nat → Prop} {w : World} (h : (A.sep B).at_ F w) : (B.sep A).at_ F w := by
  obtain ⟨F1, F2, h2, h3, h4, h5⟩ := h
  exact ⟨F2, F1, fun k => by rw [h2 k]; exact or_comm, fun k a b => h3 k b a, h5, h4⟩
theorem sep_comm (A B : Asrt) : A.sep B = B.sep A := Asrt.ext fun _ _ => ⟨sep_at_comm, sep_at_comm⟩
theorem sep_assoc (A B C : Asrt) : (A.sep B).sep C = A.sep (B.sep C) := Asrt.ext fun F w => by
  constructor
  · rintro ⟨F12, F3, h2, h3, ⟨F1, F2, h4, h5, h6, h7⟩, h8⟩
    exact ⟨F1, fun k => F2 k ∨ F3 k, fun k => by rw [h2, h4, or_assoc], fun k hk hk2 => hk2.elim (h5 k hk) (h3 k ((h4 k).2 (.inl hk))), h6, F2, F3, fun k => Iff.rfl, fun k hk => h3 k ((h4 k).2 (.inr hk)), h7, h8⟩
  · rintro ⟨F1, F23, h2, h3, h4, F2, F3, h5, h6, h7, h8⟩
    exact ⟨fun k => F1 k ∨ F2 k, F3, fun k => by rw [h2, h5, or_assoc], fun k hk hk2 => hk.elim (fun hk => h3 k hk ((h5 k).2 (.inr hk2))) (fun hk => h6 k hk hk2), ⟨F1, F2, fun k => Iff.rfl, fun k hk hk2 => h3 k hk ((h5 k).2 (.inl hk2)), h4, h7⟩, h8⟩
instance : Std.Commutative Asrt.sep := ⟨sep_comm⟩
instance : Std.Associative Asrt.sep := ⟨sep_assoc⟩
/-- the same objects in another order: 'by ac_rfl' -/
theorem Hold.perm {W0 w : World} {A B : Asrt} (h : Hold W0 A w) (e : A = B) : Hold W0 B w := e ▸ h
theorem Hold.up5 {W0 w : World} {A B C D E R : Asrt} (h : Hold W0 (A.sep (B.sep (C.sep (D.sep (E.sep R))))) w) : Hold W0 (E.sep (A.sep (B.sep (C.sep (D.sep R))))) w := h.perm (by ac_rfl)
theorem Hold.up6 {W0 w : World} {A B C D E G R : Asrt} (h : Hold W0 (A.sep (B.sep (C.sep (D.sep (E.sep (G.sep R)))))) w) : Hold W0 (G.sep (A.sep (B.sep (C.sep (D.sep (E.sep R)))))) w := h.perm (by ac_rfl)
theorem Hold.up7 {W0 w : World} {A B C D E G I R : Asrt} (h : Hold W0 (A.sep (B.sep (C.sep (D.sep (E.sep (G.sep (I.sep R))))))) w) : Hold W0 (I.sep (A.sep (B.sep (C.sep (D.sep (E.sep (G.sep R))))))) w := h.perm (by ac_rfl)
/-- a store of what stands there -/
theorem blk_same {w : World} {b : Nat} {cs : Array Value} {t : TypeId} (h : w.heap[b]? = some (.cells cs t (0, 0))) (j : Nat) {v : Value} (hj : cs[j]? = some v) : w.setCell ⟨b, j, none⟩ v = w := by
  rw [setCell_eq_setRow w b j cs t (0, 0) v h]
  have : cs.setIfInBounds j v = cs := by
    apply Array.ext_getElem?
    intro i
    rw [Array.getElem?_setIfInBounds]
    split
    · rename_i e
      subst e
      obtain ⟨hlt, hv⟩ := Array.getElem?_eq_some_iff.1 hj
      rw [if_pos hlt, hj]
    · rfl
  rw [this]
  exact setRow_same w b cs t (0, 0) h
end Go.Proofs.YtindlfiifckdnaaDoor.L
