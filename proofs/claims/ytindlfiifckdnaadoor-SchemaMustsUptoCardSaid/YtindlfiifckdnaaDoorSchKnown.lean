/-
  known of chapter 14's laws: an organization may be.
-/
import Derived.Test.YtindlfiifckdnaaDoorSchChk
namespace Go.Proofs.YtindlfiifckdnaaDoor.Sc
open Go.RowKit L
theorem sl_builtN (w : World) (l : List Value) (t : TypeId) (s n : Nat) (hl : l.length = n * s) (hn : n ≤ maxLen) : Sl (w.alloc (.cells l.toArray t)) s (.slice (some ⟨w.heap.size, 0, none⟩) n n) n l := by
  refine ⟨hl, _, n, rfl, Nat.le_refl _, hn, (fun h => by cases h), fun a ha j hj => ?_⟩
  cases ha
  rw [Addr.add_lit, Nat.zero_add, World.cell?_alloc_at _ _ _ _ (by simp)]
  simp [List.getD, show j < l.length by omega]
def s_x : ByteArray := ⟨#[120]⟩
def e0 : Ent := ⟨[(s_o, ⟨#[120]⟩)], [⟨s_objectclass, [s_organization]⟩, ⟨s_o, [⟨#[120]⟩]⟩]⟩
def k1w (w : World) : World := w.alloc (.cells #[.string s_o, .string ⟨#[120]⟩] 46)
def k2w (w : World) : World := (k1w w).alloc (.cells #[.string s_organization] 9)
def k3w (w : World) : World := (k2w w).alloc (.cells #[.string ⟨#[120]⟩] 9)
def k4w (w : World) : World := (k3w w).alloc (.cells #[.string s_objectclass, .slice (some ⟨w.heap.size + 1, 0, none⟩) 1 1, .string s_o, .slice (some ⟨w.heap.size + 2, 0, none⟩) 1 1] 36)
theorem known_ent (w : World) : EntAt (k4w w) (.slice (some ⟨w.heap.size, 0, none⟩) 1 1) (.slice (some ⟨w.heap.size + 3, 0, none⟩) 2 2) e0 ∧ Below w.heap.size w (k4w w) ∧ (k4w w).heap.size = w.heap.size + 4 := by
  have z1 : (k1w w).heap.size = w.heap.size + 1 := by simp [k1w]
  have z2 : (k2w w).heap.size = w.heap.size + 2 := by simp [k2w, z1]
  have z3 : (k3w w).heap.size = w.heap.size + 3 := by simp [k3w, z2]
  have z4 : (k4w w).heap.size = w.heap.size + 4 := by simp [k4w, z3]
  have b1 : Below w.heap.size w (k1w w) := (Below.refl _ _).alloc (Nat.le_refl _) _
  have b2 : Below (k1w w).heap.size (k1w w) (k2w w) := (Below.refl _ _).alloc (Nat.le_refl _) _
  have b3 : Below (k2w w).heap.size (k2w w) (k3w w) := (Below.refl _ _).alloc (Nat.le_refl _) _
  have b4 : Below (k3w w).heap.size (k3w w) (k4w w) := (Below.refl _ _).alloc (Nat.le_refl _) _
  have c2 := sl_builtN w [.string s_o, .string ⟨#[120]⟩] 46 2 1 rfl (by decide)
  have c1 := sl_builtN (k1w w) [.string s_organization] 9 1 1 rfl (by decide)
  have c3 := sl_builtN (k2w w) [.string ⟨#[120]⟩] 9 1 1 rfl (by decide)
  have c4 := sl_builtN (k3w w) [.string s_objectclass, .slice (some ⟨w.heap.size + 1, 0, none⟩) 1 1, .string s_o, .slice (some ⟨w.heap.size + 2, 0, none⟩) 1 1] 36 2 2 rfl (by decide)
  rw [z1] at c1
  rw [z2] at c3
  rw [z3] at c4
  have d2 := ((Sl.below' c2 b2).below' b3).below' b4
  have d1 := (Sl.below' c1 b3).below' b4
  have d3 := Sl.below' c3 b4
  refine ⟨⟨d2, [(⟨s_objectclass, [s_organization]⟩, .slice (some ⟨w.heap.size + 1, 0, none⟩) 1 1), (⟨s_o, [⟨#[120]⟩]⟩, .slice (some ⟨w.heap.size + 2, 0, none⟩) 1 1)], rfl, c4, ?_⟩, ((b1.trans (b2.mono b1.size)).trans (b3.mono (by omega))).trans (b4.mono (by omega)), z4⟩
  intro p hp
  simp only [List.mem_cons, List.not_mem_nil, or_false] at hp
  rcases hp with rfl | rfl
  · exact d1
  · exact d3
theorem known_ok : EntOk e0 1048576 := by
  refine ⟨by decide, ?_, by decide, ?_, by decide, ?_⟩ <;> simp [e0] <;> decide
theorem known_check : checkB e0 = 0 := by kernel_rfl
set_option maxRecDepth 100000 in
set_option maxHeartbeats 1600000 in
theorem known_any (w : World) (hT : Tab w) : Calls Tryd.prog 11 #[] w (RetBl w true) := by
  obtain ⟨h1, h2, h3⟩ := known_ent w
  have HB : Hid (Below w.heap.size w ((k4w w).alloc (.cells #[.slice (some ⟨w.heap.size, 0, none⟩) 1 1, .slice (some ⟨w.heap.size + 3, 0, none⟩) 2 2] 25))) := Lib.hid (h2.alloc h2.size _)
  have HC := Lib.hid (check_any ((k4w w).alloc (.cells #[.slice (some ⟨w.heap.size, 0, none⟩) 1 1, .slice (some ⟨w.heap.size + 3, 0, none⟩) 2 2] 25)) _ _ e0 (h1.below ((Below.refl _ _).alloc (Nat.le_refl _) _)) known_ok (hT.below HB.out))
  rw [known_check] at HC
  clear h1 h2 h3 hT
  go_enter Tryd.func11, Tryd.ntmps11
  go_wp2_with fail
  refine HC.out.mono ?_
  rintro e2 w2 ⟨rfl, hb2⟩
  have HF : Hid (Below w.heap.size w w2) := Lib.hid (HB.out.trans (hb2.mono HB.out.size))
  clear hb2 HC HB
  go_wp2
  go_ret
  exact ⟨rfl, HF.out⟩
end Go.Proofs.YtindlfiifckdnaaDoor.Sc
