/-
  Memory by footprints: what a world keeps, what an object is made of, and what holds beside it. The append of whatever slice to one that is owned. Over any program.
-/
import Derived.Test.YtindlfiifckdnaaDoorLaws
namespace Go.Proofs.YtindlfiifckdnaaDoor.L
open Go.RowKit

/-- w' is w but for new blocks and the blocks of F -/
structure Keeps (F : Nat → Prop) (w w' : World) : Prop where
  os : w'.os = w.os
  tape : w'.tape = w.tape
  output : w'.output = w.output
  size : w.heap.size ≤ w'.heap.size
  block : ∀ k, k < w.heap.size → ¬ F k → w'.heap[k]? = w.heap[k]?

theorem Keeps.refl (F : Nat → Prop) (w : World) : Keeps F w w := ⟨rfl, rfl, rfl, Nat.le_refl _, fun _ _ _ => rfl⟩
theorem Keeps.mono {F G : Nat → Prop} {w w' : World} (h : Keeps F w w') (hFG : ∀ k, k < w.heap.size → F k → G k) : Keeps G w w' :=
  ⟨h.os, h.tape, h.output, h.size, fun k hk hG => h.block k hk fun hF => hG (hFG k hk hF)⟩
theorem Keeps.trans {F G : Nat → Prop} {a b c : World} (h : Keeps F a b) (k : Keeps G b c) (hFG : ∀ i, i < a.heap.size → G i → F i) : Keeps F a c :=
  ⟨k.os.trans h.os, k.tape.trans h.tape, k.output.trans h.output, Nat.le_trans h.size k.size, fun i hi hF =>
    (k.block i (Nat.lt_of_lt_of_le hi h.size) fun hG => hF (hFG i hi hG)).trans (h.block i hi hF)⟩
theorem Keeps.of_below {F : Nat → Prop} {w w' : World} (h : Below w.heap.size w w') : Keeps F w w' := ⟨h.os, h.tape, h.output, h.size, fun k hk _ => h.block k hk⟩
theorem Keeps.below {F : Nat → Prop} {w w' : World} {B : Nat} (h : Keeps F w w') (hB : B ≤ w.heap.size) (hF : ∀ k, F k → B ≤ k) : Below B w w' :=
  ⟨h.os, h.tape, h.output, h.size, fun k hk => h.block k (by omega) fun hk' => by have := hF k hk'; omega⟩
theorem Keeps.alloc {F : Nat → Prop} {a w : World} (h : Keeps F a w) (o : Obj) : Keeps F a (w.alloc o) :=
  ⟨h.os, h.tape, h.output, by have := h.size; simp; omega, fun k hk hF => (Below.heap_alloc _ _ _ (by have := h.size; omega)).trans (h.block k hk hF)⟩
theorem Keeps.drew {F : Nat → Prop} {a w : World} (h : Keeps F a w) : Keeps F a w.drew := ⟨h.os, h.tape, h.output, h.size, h.block⟩
theorem Keeps.setCell {F : Nat → Prop} {a w : World} (h : Keeps F a w) {p : Addr} (hp : p.block < a.heap.size → F p.block) (u : Value) : Keeps F a (w.setCell p u) :=
  ⟨h.os, h.tape, h.output, by have := h.size; simpa [World.setCell] using this, fun k hk hF =>
    (Below.heap_setCell _ _ _ _ (fun e => hF (by subst e; exact hp hk))).trans (h.block k hk hF)⟩
theorem Keeps.of_grown {w w' : World} {row : Option Nat} (hg : w.grownBy w' row) : Keeps (fun k => row = some k) w w' :=
  ⟨hg.os, hg.tape, hg.output, hg.size, fun k hk hF => hg.block k hk fun e => hF e.symm⟩

/-! ### an object: its footprint, and what holds of it -/
structure Asrt where
  at_ : (Nat → Prop) → World → Prop
  stay : ∀ {F : Nat → Prop} {w w' : World}, at_ F w → (∀ k, F k → w'.heap[k]? = w.heap[k]?) → at_ F w'
  lt : ∀ {F : Nat → Prop} {w : World}, at_ F w → ∀ k, F k → k < w.heap.size

/-- two objects apart -/
def Asrt.sep (A B : Asrt) : Asrt where
  at_ F w := ∃ F1 F2 : Nat → Prop, (∀ k, F k ↔ F1 k ∨ F2 k) ∧ (∀ k, F1 k → ¬ F2 k) ∧ A.at_ F1 w ∧ B.at_ F2 w
  stay := by
    rintro F w w' ⟨F1, F2, h1, h2, h3, h4⟩ hk
    exact ⟨F1, F2, h1, h2, A.stay h3 fun k e => hk k ((h1 k).2 (.inl e)), B.stay h4 fun k e => hk k ((h1 k).2 (.inr e))⟩
  lt := by
    rintro F w ⟨F1, F2, h1, h2, h3, h4⟩ k hk
    rcases (h1 k).1 hk with h | h
    · exact A.lt h3 k h
    · exact B.lt h4 k h
def Asrt.emp : Asrt where
  at_ F _ := ∀ k, ¬ F k
  stay h _ := h
  lt h k hk := (h k hk).elim

/-- nothing that was there in W0 has turned, and A holds of new memory -/
def Hold (W0 : World) (A : Asrt) (w : World) : Prop := Below W0.heap.size W0 w ∧ ∃ F : Nat → Prop, (∀ k, F k → W0.heap.size ≤ k) ∧ A.at_ F w

section
variable {W0 w w' : World} {A B C D R : Asrt}
theorem Hold.old (h : Hold W0 A w) : Below W0.heap.size W0 w := h.1
theorem Hold.start (w : World) : Hold w Asrt.emp w := ⟨Below.refl _ _, fun _ => False, fun _ h => h.elim, fun _ h => h⟩
theorem Hold.keeps (h : Hold W0 A w) (hb : Below w.heap.size w w') : Hold W0 A w' := by
  obtain ⟨h1, F, hF, hA⟩ := h
  exact ⟨h1.trans (hb.mono h1.size), F, hF, A.stay hA fun k hk => hb.block k (A.lt hA k hk)⟩
theorem Hold.drew (h : Hold W0 A w) : Hold W0 A w.drew := h.keeps ((Below.refl _ _).drew)
theorem Hold.drop1 (h : Hold W0 (A.sep R) w) : Hold W0 R w := by
  obtain ⟨h1, F, hF, F1, F2, h2, h3, h4, h5⟩ := h
  exact ⟨h1, F2, fun k hk => hF k ((h2 k).2 (.inr hk)), h5⟩
theorem Hold.swap (h : Hold W0 (A.sep B) w) : Hold W0 (B.sep A) w := by
  obtain ⟨h1, F, hF, F1, F2, h2, h3, h4, h5⟩ := h
  exact ⟨h1, F, hF, F2, F1, fun k => by rw [h2 k]; exact or_comm, fun k a b => h3 k b a, h5, h4⟩
theorem Hold.up2 (h : Hold W0 (A.sep (B.sep R)) w) : Hold W0 (B.sep (A.sep R)) w := by
  obtain ⟨h1, F, hF, F1, F2, h2, h3, h4, F3, F4, h5, h6, h7, h8⟩ := h
  refine ⟨h1, F, hF, F3, fun k => F1 k ∨ F4 k, fun k => ?_, ?_, h7, F1, F4, fun k => Iff.rfl, ?_, h4, h8⟩
  · rw [h2 k, h5 k]
    constructor
    · rintro (h | h | h)
      · exact .inr (.inl h)
      · exact .inl h
      · exact .inr (.inr h)
    · rintro (h | h | h)
      · exact .inr (.inl h)
      · exact .inl h
      · exact .inr (.inr h)
  · rintro k a (b | b)
    · exact h3 k b ((h5 k).2 (.inl a))
    · exact h6 k a b
  · exact fun k a b => h3 k a ((h5 k).2 (.inr b))
theorem Hold.under (h : Hold W0 (A.sep R) w) (f : ∀ F, R.at_ F w → D.at_ F w) : Hold W0 (A.sep D) w := by
  obtain ⟨h1, F, hF, F1, F2, h2, h3, h4, h5⟩ := h
  exact ⟨h1, F, hF, F1, F2, h2, h3, h4, f F2 h5⟩
theorem up2_at {F : Nat → Prop} (h : (A.sep (B.sep R)).at_ F w) : (B.sep (A.sep R)).at_ F w := by
  obtain ⟨F1, F2, h2, h3, h4, F3, F4, h5, h6, h7, h8⟩ := h
  refine ⟨F3, fun k => F1 k ∨ F4 k, fun k => ?_, ?_, h7, F1, F4, fun k => Iff.rfl, ?_, h4, h8⟩
  · rw [h2 k, h5 k]
    constructor
    · rintro (h | h | h)
      · exact .inr (.inl h)
      · exact .inl h
      · exact .inr (.inr h)
    · rintro (h | h | h)
      · exact .inr (.inl h)
      · exact .inl h
      · exact .inr (.inr h)
  · rintro k a (b | b)
    · exact h3 k b ((h5 k).2 (.inl a))
    · exact h6 k a b
  · exact fun k a b => h3 k a ((h5 k).2 (.inr b))
theorem Hold.up3 (h : Hold W0 (A.sep (B.sep (C.sep R))) w) : Hold W0 (C.sep (A.sep (B.sep R))) w := (h.under fun _ h => up2_at h).up2
theorem under_at {F : Nat → Prop} (h : (A.sep R).at_ F w) (f : ∀ F, R.at_ F w → D.at_ F w) : (A.sep D).at_ F w := by
  obtain ⟨F1, F2, h2, h3, h4, h5⟩ := h
  exact ⟨F1, F2, h2, h3, h4, f F2 h5⟩
theorem Hold.up4 {E : Asrt} (h : Hold W0 (A.sep (B.sep (C.sep (E.sep R)))) w) : Hold W0 (E.sep (A.sep (B.sep (C.sep R)))) w :=
  ((h.under fun _ h => under_at h fun _ h => up2_at h).under fun _ h => up2_at h).up2
/-- a new object -/
theorem Hold.add (h : Hold W0 R w) (hb : Below w.heap.size w w') {F : Nat → Prop} (hA : A.at_ F w') (hF : ∀ k, F k → w.heap.size ≤ k) : Hold W0 (A.sep R) w' := by
  obtain ⟨h1, G, hG, hR⟩ := h.keeps hb
  obtain ⟨h1', G', hG', hR'⟩ := h
  refine ⟨h1, fun k => F k ∨ G' k, ?_, F, G', fun k => Iff.rfl, ?_, hA, R.stay hR' fun k hk => hb.block k (R.lt hR' k hk)⟩
  · rintro k (hk | hk)
    · exact Nat.le_trans h1'.size (hF k hk)
    · exact hG' k hk
  · intro k a b
    have := hF k a
    have := R.lt hR' k b
    omega
/-- an object is taken out, changed, and put back -/
theorem Hold.take (h : Hold W0 (A.sep R) w) : ∃ F : Nat → Prop, A.at_ F w ∧ (∀ k, F k → W0.heap.size ≤ k) ∧
    ∀ (w' : World) (A' : Asrt) (F' : Nat → Prop), Keeps F w w' → A'.at_ F' w' → (∀ k, F' k → F k ∨ w.heap.size ≤ k) → Hold W0 (A'.sep R) w' := by
  obtain ⟨h1, F, hF, F1, F2, h2, h3, h4, h5⟩ := h
  refine ⟨F1, h4, fun k hk => hF k ((h2 k).2 (.inl hk)), fun w' A' F' hk hA' hF' => ?_⟩
  refine ⟨?_, fun k => F' k ∨ F2 k, ?_, F', F2, fun k => Iff.rfl, ?_, hA', R.stay h5 fun k hk2 => hk.block k (R.lt h5 k hk2) fun hk1 => h3 k hk1 hk2⟩
  · exact h1.trans ((hk.below h1.size fun k hk1 => hF k ((h2 k).2 (.inl hk1))))
  · rintro k (hk' | hk')
    · rcases hF' k hk' with h | h
      · exact hF k ((h2 k).2 (.inl h))
      · exact Nat.le_trans h1.size h
    · exact hF k ((h2 k).2 (.inr hk'))
  · intro k a b
    rcases hF' k a with h | h
    · exact h3 k h b
    · have := R.lt h5 k b
      omega
/-- an object is read as another one -/
theorem Hold.as (h : Hold W0 (A.sep R) w) (f : ∀ F, A.at_ F w → ∃ F', D.at_ F' w ∧ ∀ k, F' k → F k) : Hold W0 (D.sep R) w := by
  obtain ⟨h1, F, hF, F1, F2, h2, h3, h4, h5⟩ := h
  obtain ⟨F', hD, hF'⟩ := f F1 h4
  exact ⟨h1, fun k => F' k ∨ F2 k, fun k hk => hF k ((h2 k).2 (hk.imp (hF' k) id)), F', F2, fun k => Iff.rfl, fun k a b => h3 k (hF' k a) b, hD, h5⟩
theorem Hold.fst (h : Hold W0 (A.sep R) w) : ∃ F, A.at_ F w := by
  obtain ⟨h1, F, hF, F1, F2, h2, h3, h4, h5⟩ := h
  exact ⟨F1, h4⟩
end

/-- a block of cells of which the first m may be written -/
def Rowed (w : World) (g : Nat) (cur : Array Value) (m : Nat) : Prop :=
  ∃ (t : TypeId) (fz : Nat × Nat), w.heap[g]? = some (.cells cur t fz) ∧ ∀ i, i < m → (decide (fz.1 ≤ i) && decide (i < fz.2)) = false
section
variable {w w' : World} {g m : Nat} {cur : Array Value}
theorem Rowed.of {t : TypeId} (h : w.heap[g]? = some (.cells cur t (0, 0))) (m : Nat) : Rowed w g cur m := ⟨t, (0, 0), h, fun i _ => by simp⟩
theorem Rowed.lt (h : Rowed w g cur m) : g < w.heap.size := by
  obtain ⟨t, fz, h, _⟩ := h
  exact (Array.getElem?_eq_some_iff.1 h).1
theorem Rowed.stay (h : Rowed w g cur m) (hk : w'.heap[g]? = w.heap[g]?) : Rowed w' g cur m := by
  obtain ⟨t, fz, h, hf⟩ := h
  exact ⟨t, fz, by rw [hk]; exact h, hf⟩
theorem Rowed.cell (h : Rowed w g cur m) (j : Nat) : w.cell? ⟨g, j, none⟩ = cur[j]? := by
  obtain ⟨t, fz, h, _⟩ := h
  exact cell_of_row w g j cur t fz h
theorem Rowed.free (h : Rowed w g cur m) {j : Nat} (hj : j < m) : w.frozen? ⟨g, j, none⟩ = false := by
  obtain ⟨t, fz, h, hf⟩ := h
  simpa [World.frozen?, h] using hf j hj
theorem Rowed.setRow (h : Rowed w g cur m) (cs : Array Value) : Rowed (w.setRow g cs) g cs m := by
  obtain ⟨t, fz, h, hf⟩ := h
  exact ⟨t, fz, setRow_heap w g cur cs t fz h, hf⟩
theorem Rowed.setCell (h : Rowed w g cur m) (j : Nat) (u : Value) : Rowed (w.setCell ⟨g, j, none⟩ u) g (cur.setIfInBounds j u) m := by
  obtain ⟨t, fz, h0, hf⟩ := h
  rw [setCell_eq_setRow w g j cur t fz u h0]
  exact Rowed.setRow ⟨t, fz, h0, hf⟩ _
theorem setRow_same (w : World) (g : Nat) (cur : Array Value) (t : TypeId) (fz : Nat × Nat) (hg : w.heap[g]? = some (.cells cur t fz)) : w.setRow g cur = w := setRow_self w g cur t fz hg
theorem run_storeCells_free {P : Program} (g o M : Nat) : ∀ (vs : List Value) (i : Nat) (cur : Array Value) (w : World), Rowed w g cur M → o + i + vs.length ≤ cur.size → o + i + vs.length ≤ M → (∀ v ∈ vs, v.oneCell' = true) →
    (storeCells ⟨g, o, none⟩ vs i).run P w = .ok () (w.setRow g (cur.toList.take (o + i) ++ vs ++ cur.toList.drop (o + i + vs.length)).toArray)
  | [], i, cur, w, hg, _, _, _ => by
    obtain ⟨t, fz, hg, _⟩ := hg
    simp only [storeCells, List.append_nil, List.length_nil, Nat.add_zero, List.take_append_drop, Array.toArray_toList]
    rw [setRow_self w g cur t fz hg]
    rfl
  | v :: rest, i, cur, w, hg, hl, hM, h1 => by
    have hi : o + i < cur.size := by simp at hl; omega
    have hadd : (⟨g, o, none⟩ : Addr).add i = ⟨g, o + i, none⟩ := by unfold Addr.add; split <;> simp_all
    have hcell : w.cell? ⟨g, o + i, none⟩ = some cur[o + i] := by rw [hg.cell]; simp [hi]
    have hfro : w.frozen? ⟨g, o + i, none⟩ = false := hg.free (by simp at hM; omega)
    have hst : (store ((⟨g, o, none⟩ : Addr).add i) v).run P w = .ok () (w.setRow g (cur.setIfInBounds (o + i) v)) := by
      rw [hadd, run_store P w _ v _ (h1 v (by simp)), hcell]
      obtain ⟨t, fz, h0, _⟩ := hg
      simp [hfro, setCell_eq_setRow w g (o + i) cur t fz v h0]
    have ih := run_storeCells_free (P := P) g o M rest (i + 1) (cur.setIfInBounds (o + i) v) (w.setRow g (cur.setIfInBounds (o + i) v)) (hg.setRow _) (by simp at hl ⊢; omega) (by simp at hM ⊢; omega) (fun x hx => h1 x (by simp [hx]))
    simp only [storeCells, Sem.run_bind, hst, Result.andThen_ok, ih, setRow_setRow]
    congr 3
    have e := list_seg_step cur.toList (o + i) v rest (by simp at hl ⊢; omega)
    simpa [Array.toList_setIfInBounds, Nat.add_assoc] using e
theorem run_append_free {P : Program} (w : World) (t ty e : TypeId) (i : TypeInfo) (ht : P.underlying t = some (.slice e)) (hi : P.info? e = some i)
    (g sLen sCap M : Nat) (cur : Array Value) (hg : Rowed w g cur M)
    (a : Addr) (m c : Nat) (news : List Value) (hl : news.length = m * i.size) (hnews : ∀ j u, news[j]? = some u → w.cell? (a.add j) = some u) (h1 : ∀ u ∈ news, u.oneCell' = true)
    (hroom : sLen + m ≤ sCap) (hfit : sLen * i.size + news.length ≤ cur.size) (hM : sLen * i.size + news.length ≤ M) :
    (Builtin.append_ #[t, t] ty #[.slice (some ⟨g, 0, none⟩) sLen sCap, .slice (some a) m c]).run P w =
      .ok (.slice (some ⟨g, 0, none⟩) (sLen + m) sCap) (w.setRow g (cur.toList.take (sLen * i.size) ++ news ++ cur.toList.drop (sLen * i.size + news.length)).toArray) := by
  have hf := run_firstCells_some (P := P) w i.size m a m c news hl hnews
  have hst := run_storeCells_free (P := P) g (sLen * i.size) M news 0 cur w hg (by simpa using hfit) (by simpa using hM) h1
  simp only [Nat.add_zero] at hst
  simp [Builtin.append_, run_underlying ht, sizeOf, typeInfo, hi, Builtin.lenOf, hroom, hf, Addr.add_lit, hst]
end
/-- the slice v, of n elements of s cells, owns the row that it begins; B: the number from which its block is -/
def Own (w : World) (B : Nat) (_e : TypeId) (s : Nat) (v : Value) (n : Nat) (xs : List Value) : Prop :=
  xs.length = n * s ∧
  ((v = .slice none 0 0 ∧ n = 0) ∨
   ∃ g cap cur, v = .slice (some ⟨g, 0, none⟩) n cap ∧ B ≤ g ∧ Rowed w g cur (cap * s) ∧ n ≤ cap ∧ cap ≤ maxLen ∧ cap * s ≤ cur.size ∧ cur.toList.take (n * s) = xs)
section
variable {w w' : World} {B : Nat} {e : TypeId} {s n : Nat} {v : Value} {xs : List Value}
theorem Own.of (h : w.ownsRow B e s v n xs) : Own w B e s v n xs := by
  refine ⟨h.1, ?_⟩
  rcases h.2 with h | ⟨g, cap, cur, hv, hg, hh, h1, h2, h3, h4⟩
  · exact .inl h
  · exact .inr ⟨g, cap, cur, hv, hg, Rowed.of hh _, h1, h2, by omega, h4⟩
theorem Own.nil (w : World) (B : Nat) (e : TypeId) (s : Nat) : Own w B e s (.slice none 0 0) 0 [] := ⟨by simp, .inl ⟨rfl, rfl⟩⟩
theorem Own.lt (h : Own w B e s v n xs) : ∀ k, v.ownBlock = some k → B ≤ k ∧ k < w.heap.size := by
  intro k hk
  rcases h.2 with ⟨rfl, _⟩ | ⟨g, cap, cur, rfl, hb, hg, _⟩
  · cases hk
  · obtain rfl : g = k := Option.some.inj hk
    exact ⟨hb, hg.lt⟩
theorem Own.from {B' : Nat} (h : Own w B e s v n xs) (hB : ∀ k, v.ownBlock = some k → B' ≤ k) : Own w B' e s v n xs := by
  refine ⟨h.1, ?_⟩
  rcases h.2 with h | ⟨g, cap, cur, hv, hg, r⟩
  · exact Or.inl h
  · exact Or.inr ⟨g, cap, cur, hv, hB g (by rw [hv]; rfl), r⟩
theorem Own.zero (h : Own w B e s v n xs) : Own w 0 e s v n xs := h.from fun _ _ => Nat.zero_le _
theorem Own.stay (h : Own w B e s v n xs) (hk : ∀ k, v.ownBlock = some k → w'.heap[k]? = w.heap[k]?) : Own w' B e s v n xs := by
  refine ⟨h.1, ?_⟩
  rcases h.2 with h | ⟨g, cap, cur, hv, hg, hh, r⟩
  · exact Or.inl h
  · exact Or.inr ⟨g, cap, cur, hv, hg, hh.stay (hk g (by rw [hv]; rfl)), r⟩
theorem Own.below (h : Own w B e s v n xs) (hb : Below w.heap.size w w') : Own w' B e s v n xs := h.stay fun k hk => hb.block k (h.lt k hk).2
theorem Own.alloc (h : Own w B e s v n xs) (o : Obj) : Own (w.alloc o) B e s v n xs := h.below ((Below.refl _ _).alloc (Nat.le_refl _) _)
theorem Own.sl (h : Own w B e s v n xs) : Sl w s v n xs := by
  obtain ⟨h0, h1 | ⟨g, cap, cur, rfl, hb, hg, hn, hm, hs, ht⟩⟩ := h
  · obtain ⟨rfl, rfl⟩ := h1
    exact ⟨h0, Option.none, 0, rfl, Nat.le_refl _, Nat.zero_le _, fun _ => rfl, fun a h => by cases h⟩
  · refine ⟨h0, _, cap, rfl, hn, hm, (fun h => by cases h), fun a ha j hj => ?_⟩
    cases ha
    rw [Addr.add_lit, Nat.zero_add, hg.cell, ← ht]
    have hjs : j < cur.toList.length := by
      have : n * s ≤ cap * s := Nat.mul_le_mul_right _ hn
      simp; omega
    simp only [List.getD, List.getElem?_take, if_pos hj]
    rw [List.getElem?_eq_getElem hjs]
    simp at hjs
    simp [hjs]
theorem Own.shape (h : Own w B e s v n xs) : ∃ ao cap, v = .slice ao n cap := by
  rcases h.2 with ⟨rfl, rfl⟩ | ⟨g, cap, cur, rfl, _⟩
  · exact ⟨_, _, rfl⟩
  · exact ⟨_, _, rfl⟩
theorem Own.lit (w : World) (cs : List Value) (e : TypeId) (hm : cs.length ≤ maxLen) : Own (w.alloc (.cells cs.toArray e)) w.heap.size e 1 (.slice (some ⟨w.heap.size, 0, none⟩) cs.length cs.length) cs.length cs :=
  ⟨by simp, .inr ⟨w.heap.size, cs.length, cs.toArray, rfl, Nat.le_refl _, Rowed.of (heap_alloc_new w _) _, Nat.le_refl _, hm, by simp, by simp⟩⟩
/-- the beginning of it -/
theorem Own.take (h : Own w B e s v n xs) {m : Nat} (hm : m ≤ n) {ao : Option Addr} {cap : Nat} (hv : v = .slice ao n cap) : Own w B e s (.slice ao m cap) m (xs.take (m * s)) := by
  have hle : m * s ≤ n * s := Nat.mul_le_mul_right _ hm
  refine ⟨by rw [List.length_take, h.1]; omega, ?_⟩
  rcases h.2 with ⟨h1, h2⟩ | ⟨g, cap', cur, h1, h2, h3, h4, h5, h6, h7⟩
  · rw [h1] at hv
    simp only [Value.slice.injEq] at hv
    obtain ⟨rfl, _, rfl⟩ := hv
    obtain rfl : m = 0 := by omega
    exact .inl ⟨rfl, rfl⟩
  · rw [h1] at hv
    simp only [Value.slice.injEq] at hv
    obtain ⟨rfl, _, rfl⟩ := hv
    refine .inr ⟨g, cap', cur, rfl, h2, h3, by omega, h5, h6, ?_⟩
    rw [← h7, List.take_take, Nat.min_eq_left hle]
end

/-- a slice that is owned whole: its row is nobody else's -/
def Row (e : TypeId) (s : Nat) (v : Value) (n : Nat) (xs : List Value) : Asrt where
  at_ F w := Own w 0 e s v n xs ∧ ∀ k, F k ↔ v.ownBlock = some k
  stay := by
    rintro F w w' ⟨h1, h2⟩ hk
    exact ⟨h1.stay fun k e => hk k ((h2 k).2 e), h2⟩
  lt := by
    rintro F w ⟨h1, h2⟩ k hk
    exact (h1.lt k ((h2 k).1 hk)).2
/-- a slice that is read alone -/
def Ro (s : Nat) (v : Value) (n : Nat) (xs : List Value) : Asrt where
  at_ F w := Sl w s v n xs ∧ ∀ k, F k ↔ (v.ownBlock = some k ∧ 0 < n * s)
  stay := by
    rintro F w w' ⟨h1, h2⟩ hk
    refine ⟨?_, h2⟩
    by_cases hn : 0 < n * s
    · exact h1.kept fun b hb => hk b ((h2 b).2 ⟨hb, hn⟩)
    · exact h1.none (by omega)
  lt := by
    rintro F w ⟨h1, h2⟩ k hk
    have := (h2 k).1 hk
    exact h1.lt this.2 k this.1
/-- a block of cells -/
def Blk (b : Nat) (cs : Array Value) (t : TypeId) : Asrt where
  at_ F w := w.heap[b]? = some (.cells cs t (0, 0)) ∧ ∀ k, F k ↔ k = b
  stay := by
    rintro F w w' ⟨h1, h2⟩ hk
    exact ⟨by rw [hk b ((h2 b).2 rfl)]; exact h1, h2⟩
  lt := by
    rintro F w ⟨h1, h2⟩ k hk
    rw [(h2 k).1 hk]
    exact (Array.getElem?_eq_some_iff.1 h1).1

section
variable {W0 w w' : World} {R : Asrt} {e t : TypeId} {s n b : Nat} {v : Value} {xs : List Value} {cs : Array Value}
theorem Hold.sl (h : Hold W0 ((Row e s v n xs).sep R) w) : Sl w s v n xs := by
  obtain ⟨F, h1, _⟩ := h.fst
  exact h1.sl
theorem Hold.ro (h : Hold W0 ((Ro s v n xs).sep R) w) : Sl w s v n xs := by
  obtain ⟨F, h1, _⟩ := h.fst
  exact h1
theorem Hold.blk (h : Hold W0 ((Blk b cs t).sep R) w) : w.heap[b]? = some (.cells cs t (0, 0)) := by
  obtain ⟨F, h1, _⟩ := h.fst
  exact h1
theorem Hold.own (h : Hold W0 ((Row e s v n xs).sep R) w) : Own w 0 e s v n xs := by
  obtain ⟨F, h1, _⟩ := h.fst
  exact h1
theorem Hold.addRow (h : Hold W0 R w) (hb : Below w.heap.size w w') (ho : Own w' w.heap.size e s v n xs) : Hold W0 ((Row e s v n xs).sep R) w' :=
  h.add hb (F := fun k => v.ownBlock = some k) ⟨ho.zero, fun _ => Iff.rfl⟩ fun k hk => (ho.lt k hk).1
theorem Hold.addBlk (h : Hold W0 R w) {b : Nat} (hb : w.heap.size = b) : Hold W0 ((Blk b cs t).sep R) (w.alloc (.cells cs t)) := by
  subst hb
  exact h.add ((Below.refl _ _).alloc (Nat.le_refl _) _) (F := fun k => k = w.heap.size) ⟨heap_alloc_new w _, fun k => Iff.rfl⟩ fun k hk => by omega
end

/-- what is read of v wherever R holds -/
def Reads (W0 : World) (R : Asrt) (s : Nat) (v : Value) (n : Nat) (xs : List Value) : Prop := ∀ w, Hold W0 R w → Sl w s v n xs
section
variable {W0 w w' : World} {R A B : Asrt} {e t : TypeId} {s n b : Nat} {v : Value} {xs : List Value} {cs : Array Value}
theorem Reads.old (h : Sl W0 s v n xs) : Reads W0 R s v n xs := fun _ hw => h.below' hw.old
theorem Reads.under (h : Reads W0 R s v n xs) : Reads W0 (A.sep R) s v n xs := fun w hw => h w hw.drop1
theorem Reads.row : Reads W0 ((Row e s v n xs).sep R) s v n xs := fun _ hw => hw.sl
theorem Reads.ro : Reads W0 ((Ro s v n xs).sep R) s v n xs := fun _ hw => hw.ro
theorem Reads.at (h : Reads W0 R s v n xs) (hw : Hold W0 R w) : Sl w s v n xs := h w hw
theorem Reads.nil : Reads W0 R s (.slice none 0 0) 0 [] := fun w _ => Sl.nil w s
end

/-- rows wherever R holds: the outer cells vs, each a slice that reads its row -/
def ReadsRows (W0 : World) (R : Asrt) (v : Value) (vs : List Value) (ls : List (List Value)) : Prop :=
  ∀ w, Hold W0 R w → Sl w 1 v ls.length vs ∧ ∀ i, i < ls.length → Sl w 1 (vs.getD i undef) (ls.getD i []).length (ls.getD i [])
theorem ReadsRows.outer {W0 w : World} {R : Asrt} {v : Value} {vs : List Value} {ls : List (List Value)} (h : ReadsRows W0 R v vs ls) (hw : Hold W0 R w) : Sl w 1 v ls.length vs := (h w hw).1
theorem ReadsRows.inner {W0 : World} {R : Asrt} {v : Value} {vs : List Value} {ls : List (List Value)} (h : ReadsRows W0 R v vs ls) {i : Nat} (hi : i < ls.length) : Reads W0 R 1 (vs.getD i undef) (ls.getD i []).length (ls.getD i []) := fun w hw => (h w hw).2 i hi
theorem ReadsRows.under {W0 : World} {R A : Asrt} {v : Value} {vs : List Value} {ls : List (List Value)} (h : ReadsRows W0 R v vs ls) : ReadsRows W0 (A.sep R) v vs ls := fun w hw => h w hw.drop1
/-- a slice literal -/
theorem Hold.addLits {W0 w : World} {R : Asrt} (h : Hold W0 R w) (cs : List Value) (e : TypeId) (hm : cs.length ≤ maxLen) {b : Nat} (hb : w.heap.size = b) :
    Hold W0 ((Row e 1 (.slice (some ⟨b, 0, Option.none⟩) cs.length cs.length) cs.length cs).sep R) (w.alloc (.cells cs.toArray e)) := by
  subst hb
  exact h.addRow ((Below.refl _ _).alloc (Nat.le_refl _) _) (Own.lit w cs e hm)
theorem Hold.addLit {W0 w : World} {R : Asrt} (h : Hold W0 R w) (u : Value) (e : TypeId) : Hold W0 ((Row e 1 (.slice (some ⟨w.heap.size, 0, Option.none⟩) 1 1) 1 [u]).sep R) (w.alloc (.cells #[u] e)) :=
  h.addLits [u] e (by simp [maxLen]) rfl
/-- a constant's bytes, as a conversion leaves them: read alone -/
theorem Hold.addConst {W0 w : World} {R : Asrt} (h : Hold W0 R w) (cs : List Value) (e : TypeId) (k : Nat) (hm : cs.length ≤ maxLen) {b : Nat} (hb : w.heap.size = b) :
    Hold W0 ((Ro 1 (.slice (some ⟨b, 0, Option.none⟩) cs.length cs.length) cs.length cs).sep R) (w.alloc (.cells cs.toArray e (k, k + 1))) := by
  subst hb
  refine h.add ((Below.refl _ _).alloc (Nat.le_refl _) _) (F := fun k => (some w.heap.size : Option Nat) = some k ∧ 0 < cs.length * 1) ⟨⟨by simp, _, _, rfl, Nat.le_refl _, hm, (fun h => by cases h), fun a ha j hj => ?_⟩, fun k => Iff.rfl⟩ (fun k hk => by have := Option.some.inj hk.1; omega)
  cases ha
  have hj' : j < cs.length := by omega
  rw [Addr.add_lit, Nat.zero_add, World.cell?_alloc_mark]
  simp [List.getD, hj']
/-- a store of a value of one cell: a fact for the walk's own rules -/
theorem run_store1 {P : Program} {w : World} {T : TypeId} (hs : (P.info? T).map (fun i => i.size) = some 1) {p : Addr} {v old : Value} (h1 : v.oneCell' = true) (hc : w.cell? p = some old) (hf : w.frozen? p = false) :
    (Instr.storeAt T (.pointer (some p)) v).run P w = .ok () (w.setCell p v) := by
  obtain ⟨inf, hi, hsz⟩ := Option.map_eq_some_iff.1 hs
  have hcells : v.cells = #[v] := by cases v <;> first | rfl | simp [Value.oneCell'] at h1
  have ha : p.add 0 = p := rfl
  have hst : (store p v).run P w = .ok () (w.setCell p v) := by
    rw [run_store P w p v _ h1]
    simp [hc, hf]
  simp [Instr.storeAt, Instr.sureAddr, storeVar, hcells, sizeOf, typeInfo, hi, hsz, storeCells, ha, hst]
theorem Sl.one {w : World} {s n : Nat} {v : Value} {xs : List Value} (h : Sl w s v n xs) : v.oneCell' = true := by
  obtain ⟨_, ao, cap, rfl, _⟩ := h
  rfl
theorem blk_cell {w : World} {b : Nat} {cs : Array Value} {t : TypeId} (h : w.heap[b]? = some (.cells cs t (0, 0))) (j : Nat) : w.cell? ⟨b, j, none⟩ = cs[j]? := cell_of_row w b j cs t (0, 0) h
theorem blk_free {w : World} {b : Nat} {cs : Array Value} {t : TypeId} (h : w.heap[b]? = some (.cells cs t (0, 0))) (j : Nat) : w.frozen? ⟨b, j, none⟩ = false := frozen_of_row w b j cs t h
theorem blk_set {w : World} {b : Nat} {cs : Array Value} {t : TypeId} (h : w.heap[b]? = some (.cells cs t (0, 0))) (j : Nat) (v : Value) : (w.setCell ⟨b, j, none⟩ v).heap[b]? = some (.cells (cs.setIfInBounds j v) t (0, 0)) :=
  heap_setCell_same w b j cs t v h

/-! ### append -/
section
variable {P : Program} (w : World)
theorem run_append_row (t ty e : TypeId) (i : TypeInfo) (z : Value) (size bytes : Nat) (ht : P.underlying t = some (.slice e)) (hi : P.info? e = some i) (hz : i.zero = some z)
    (hsize : i.size = size) (hby : i.bytes = bytes) (hzs : z.cells.size = size) (_hsz : 0 < size)
    (v : Value) (n : Nat) (xs : List Value) (hown : Own w 0 e size v n xs)
    (vx : Value) (m : Nat) (news : List Value) (hx : Sl w size vx m news) (h1 : ∀ u ∈ news, u.oneCell' = true)
    (h63 : n + m ≤ maxLen) (hbytes : (n + m) * bytes ≤ 140737488355328) :
    ∃ v' w', (Builtin.append_ #[t, t] ty #[v, vx]).run P w = .ok v' w' ∧ Own w' 0 e size v' (n + m) (xs ++ news) ∧ Keeps (fun k => v.ownBlock = some k) w w' ∧
      (∀ k, v'.ownBlock = some k → v.ownBlock = some k ∨ w.heap.size ≤ k) ∧ (v' = .slice none 0 0 ↔ v = .slice none 0 0 ∧ m = 0) := by
  have hv0 := hown.sl
  obtain ⟨hl, ao, c, rfl, hmc, hcm', hnone, hcell⟩ := hx
  cases ao with
  | none =>
    have := hnone rfl
    obtain rfl : c = 0 := this
    obtain rfl : m = 0 := by omega
    obtain rfl : news = [] := List.eq_nil_of_length_eq_zero (by simpa using hl)
    refine ⟨v, w, ?_, by simpa using hown, Keeps.refl _ _, fun k hk => .inl hk, by simp⟩
    rcases hown.2 with ⟨rfl, rfl⟩ | ⟨g, cap, cur, rfl, _, _, hnc, _⟩
    · simp [Builtin.append_, run_underlying ht, sizeOf, typeInfo, hi, Builtin.lenOf, Builtin.firstCells]
    · simp [Builtin.append_, run_underlying ht, sizeOf, typeInfo, hi, Builtin.lenOf, Builtin.firstCells, hnc, storeCells]
  | some a =>
    have hnews : ∀ j u, news[j]? = some u → w.cell? (a.add j) = some u := by
      intro j u hj
      have hjl := (List.getElem?_eq_some_iff.1 hj).1
      rw [hcell a rfl j (by omega), List.getD, hj]
      rfl
    subst hsize
    subst hby
    have hsmall : n + m ≤ 9223372036854775807 := by simp only [maxLen] at h63; omega
    have hlen : (xs ++ news).length = (n + m) * i.size := by rw [List.length_append, hown.1, hl, Nat.add_mul]
    have grown : ∀ (old : Nat), old < n + m →
        Own (w.drew.alloc (.cells (xs.toArray ++ news.toArray ++ Builtin.zeroCells z.cells (grownCap w (n + m) old e - (n + m))) e)) 0 e i.size
          (.slice (some ⟨w.heap.size, 0, none⟩) (n + m) (grownCap w (n + m) old e)) (n + m) (xs ++ news) := by
      intro old ho
      have hge := grownCap_ge w (n + m) old e
      have hcm : grownCap w (n + m) old e ≤ maxLen := grownCap_le_maxLen w (n + m) old e h63
      refine ⟨hlen, .inr ⟨w.heap.size, _, _, rfl, Nat.zero_le _, Rowed.of (heap_alloc_new w.drew _) _, hge, hcm, ?_, ?_⟩⟩
      · simp only [Array.size_append, List.size_toArray, size_zeroCells, hzs, hown.1, hl, ← Nat.add_mul]
        refine Nat.mul_le_mul_right _ ?_
        omega
      · simp only [Array.toList_append, List.append_assoc]
        rw [← List.append_assoc, ← hlen]
        exact List.take_left
    rcases hown.2 with ⟨rfl, rfl⟩ | ⟨g, cap, cur, rfl, hbg, hg, hnc, hcm, hcs, htake⟩
    · have hx : xs = [] := List.eq_nil_of_length_eq_zero (by simpa using hown.1)
      subst hx
      by_cases hm : m = 0
      · subst hm
        have hn : news = [] := List.eq_nil_of_length_eq_zero (by simpa using hl)
        subst hn
        refine ⟨.slice none 0 0, w, ?_, Own.nil w 0 e i.size, Keeps.refl _ _, fun k hk => .inl hk, by simp⟩
        simp [Builtin.append_, run_underlying ht, sizeOf, typeInfo, hi, Builtin.lenOf, Builtin.firstCells, loadCells, loadCellsFrom]
      · have hr := run_append_nil (P := P) w t ty e i z ht hi hz a m c news hl hnews (by omega) (by omega) (by have hb := hbytes; simp only [Nat.zero_add] at hb; omega)
        have hgr := grown 0 (by omega)
        simp only [Nat.zero_add, List.nil_append, Array.empty_append] at hgr ⊢
        exact ⟨_, _, hr, hgr, (Keeps.refl _ _).drew.alloc _, fun k hk => .inr (by simp [Value.ownBlock] at hk; omega), by simp [hm]⟩
    · by_cases hroom : n + m ≤ cap
      · have hfit : n * i.size + news.length ≤ cur.size := by
          have : (n + m) * i.size ≤ cap * i.size := Nat.mul_le_mul_right _ hroom
          rw [hl, ← Nat.add_mul]; omega
        have hfit2 : n * i.size + news.length ≤ cap * i.size := by
          have : (n + m) * i.size ≤ cap * i.size := Nat.mul_le_mul_right _ hroom
          rw [hl, ← Nat.add_mul]; omega
        have hr := run_append_free (P := P) w t ty e i ht hi g n cap _ cur hg a m c news hl hnews h1 hroom hfit hfit2
        refine ⟨_, _, hr, ⟨hlen, .inr ⟨g, cap, _, rfl, hbg, hg.setRow _, hroom, hcm, ?_, ?_⟩⟩, ⟨rfl, rfl, rfl, by simp, fun k _ hk => setRow_other w g k _ (fun e => hk (by simp [Value.ownBlock, e]))⟩, fun k hk => .inl hk, by simp⟩
        · simp only [List.size_toArray, List.length_append, List.length_take, List.length_drop, Array.length_toList]
          omega
        · rw [htake, ← hlen]
          exact List.take_left
      · have holds : ∀ j u, xs[j]? = some u → w.cell? ((⟨g, 0, none⟩ : Addr).add j) = some u := by
          intro j u hj
          have hjl := (List.getElem?_eq_some_iff.1 hj).1
          obtain ⟨_, ao', cap', he, _, _, _, hc'⟩ := hv0
          simp only [Value.slice.injEq] at he
          obtain ⟨rfl, _, _⟩ := he
          rw [hc' _ rfl j (by rw [← hown.1]; exact hjl), List.getD, hj]
          rfl
        have hr := run_append_grow (P := P) w t ty e i z ht hi hz ⟨g, 0, none⟩ n cap xs hown.1 holds a m c news hl hnews (by omega) (by omega) (growslice_fits (by omega) hbytes)
        exact ⟨_, _, hr, grown cap (by omega), (Keeps.refl _ _).drew.alloc _, fun k hk => .inr (by simp [Value.ownBlock] at hk; omega), by simp⟩

/-- append(v, x...), v owned, x whatever: the walk's law -/
theorem wpList_append_row {ops : Array Oper} {rest : List Oper} {o : Oper} {a : Act} {Q : Exit → Act → World → Prop} (hgd : o.guard = none) (s x : Operand) (t : TypeId)
    (ho : o.op = .call { callee := .builtin .append, args := #[s, x], argTypes := #[t, t] })
    (e : TypeId) (i : TypeInfo) (z : Value) (size bytes : Nat) (ht : P.underlying t = some (.slice e)) (hi : P.info? e = some i) (hz : i.zero = some z)
    (hsize : i.size = size) (hby : i.bytes = bytes) (hzs : z.cells.size = size) (hsz : 0 < size)
    (v : Value) (n : Nat) (xs : List Value) (hs : a.eval s = v) (hown : Own w 0 e size v n xs)
    (vx : Value) (m : Nat) (news : List Value) (hx : a.eval x = vx) (hsx : Sl w size vx m news) (h1 : ∀ u ∈ news, u.oneCell' = true)
    (h63 : n + m ≤ maxLen) (hbytes : (n + m) * bytes ≤ 140737488355328)
    (h : ∀ v' w', Own w' 0 e size v' (n + m) (xs ++ news) → Keeps (fun k => v.ownBlock = some k) w w' → (∀ k, v'.ownBlock = some k → v.ownBlock = some k ∨ w.heap.size ≤ k) →
      (v' = .slice none 0 0 ↔ v = .slice none 0 0 ∧ m = 0) → wpList P ops Q rest (a.put o.dst v') w') : wpList P ops Q (o :: rest) a w := by
  refine wpList_plain hgd fun K hK => ?_
  obtain ⟨v', w', hr, h2, h3, h4, h5⟩ := run_append_row (P := P) w t o.type e i z size bytes ht hi hz hsize hby hzs hsz v n xs hown vx m news hsx h1 h63 hbytes
  unfold Oper.wp execOp
  simp only [ho, resolve, invoke, builtin, Sem.run_bind, Sem.run_pure, Result.andThen_ok, List.map_toArray, List.map_cons, List.map_nil, hs, hx, hr]
  exact hK _ _ (h v' w' h2 h3 h4 h5)
end

/-- a slice literal: new memory -/
theorem sl_built (w : World) (cs : List Value) (e : TypeId) (hm : cs.length ≤ maxLen) : Sl (w.alloc (.cells cs.toArray e)) 1 (.slice (some ⟨w.heap.size, 0, none⟩) cs.length cs.length) cs.length cs := by
  refine ⟨by simp, _, _, rfl, Nat.le_refl _, hm, (fun h => by cases h), fun a ha j hj => ?_⟩
  cases ha
  have hj' : j < cs.length := by omega
  rw [Addr.add_lit, Nat.zero_add, World.cell?_alloc_at _ _ _ _ rfl]
  simp [List.getD, hj']
end Go.Proofs.YtindlfiifckdnaaDoor.L
