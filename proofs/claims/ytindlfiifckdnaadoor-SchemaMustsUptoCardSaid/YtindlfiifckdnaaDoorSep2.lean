/-
  Owned slices once more: stores into them, their growth, and integers among the arguments. Over any program.
-/
import Derived.Test.YtindlfiifckdnaaDoorSep
import Derived.Test.YtindlfiifckdnaaDoorArgs
namespace Go.Proofs.YtindlfiifckdnaaDoor.L
open Go.RowKit Go.ChangeShapes Go.WideShapes Go.Deep
section
variable {P : Program} {W0 w w1 w' : World} {R : Asrt} {B n m : Nat} {e : TypeId} {s : Nat} {v v' : Value} {xs news : List Value}
theorem take_set {l : List Value} {n i : Nat} (u : Value) : (l.set i u).take n = (l.take n).set i u := by
  rw [List.take_set]
/-- the place of an element of what is owned: it may be written -/
theorem run_indexAt_own (h : Own w B e 1 v n xs) {t : TypeId} (ht : P.underlying t = some (.slice e)) (hs : (P.info? e).map (fun i => i.size) = some 1) (k : IntKind) (i : Int) (h0 : 0 ≤ i) (h1 : i < n) :
    ∃ A : Addr, (∀ w' : World, (Instr.indexAt t v (.int k i)).run P w' = .ok (.pointer (some A)) w') ∧ some A.block = v.ownBlock ∧ w.cell? A = some (xs.getD i.toNat undef) ∧ w.frozen? A = false ∧
      ∀ u, Own (w.setCell A u) B e 1 v n (xs.set i.toNat u) := by
  obtain ⟨inf, hi, hsz⟩ := Option.map_eq_some_iff.1 hs
  have hsl := h.sl
  obtain ⟨hl, h1' | ⟨g, cap, cur, rfl, hb, hg, hn, hm, hcs, htk⟩⟩ := h
  · omega
  · have hin : i.toNat < n := by omega
    refine ⟨⟨g, i.toNat, none⟩, fun w' => ?_, rfl, ?_, hg.free (by omega), fun u => ⟨by simpa using hl, .inr ⟨g, cap, _, rfl, hb, hg.setCell _ u, hn, hm, by simpa using hcs, ?_⟩⟩⟩
    · simp [Instr.indexAt, run_underlying ht, asIntOf, h0, h1, sizeOf, typeInfo, hi, hsz, Addr.add_lit]
    · rw [hg.cell, ← htk]
      have : i.toNat < cur.size := by omega
      simp only [List.getD, List.getElem?_take, Nat.mul_one, if_pos hin]
      rw [List.getElem?_eq_getElem (by simpa using this)]
      simp [this]
    · rw [Array.toList_setIfInBounds, take_set u, htk]
/-- the same, of what is held -/
theorem Hold.index (h : Hold W0 ((Row e 1 v n xs).sep R) w) {t : TypeId} (ht : P.underlying t = some (.slice e)) (hs : (P.info? e).map (fun i => i.size) = some 1) (k : IntKind) (i : Int) (h0 : 0 ≤ i) (h1 : i < n) :
    ∃ A : Addr, (∀ w' : World, (Instr.indexAt t v (.int k i)).run P w' = .ok (.pointer (some A)) w') ∧ w.cell? A = some (xs.getD i.toNat undef) ∧ w.frozen? A = false ∧
      ∀ u, Hold W0 ((Row e 1 v n (xs.set i.toNat u)).sep R) (w.setCell A u) := by
  obtain ⟨F, ⟨hown, hF⟩, hge, hup⟩ := h.take
  obtain ⟨A, hA, hblk, hc, hf, hset⟩ := run_indexAt_own (P := P) hown ht hs k i h0 h1
  exact ⟨A, hA, hc, hf, fun u => hup _ _ F ((Keeps.refl F w).setCell (fun _ => (hF _).2 hblk.symm) u) ⟨hset u, hF⟩ fun k hk => .inl hk⟩
/-- an append, of what is held -/
theorem Hold.grow (h : Hold W0 ((Row e s v n xs).sep R) w) (hown : Own w' 0 e s v' m news) (hk : Keeps (fun k => v.ownBlock = some k) w w') (hsub : ∀ k, v'.ownBlock = some k → v.ownBlock = some k ∨ w.heap.size ≤ k) :
    Hold W0 ((Row e s v' m news).sep R) w' := by
  obtain ⟨F, ⟨_, hF⟩, hge, hup⟩ := h.take
  exact hup w' _ (fun k => v'.ownBlock = some k) (hk.mono fun k _ e => (hF k).2 e) ⟨hown, fun k => Iff.rfl⟩ fun k e => (hsub k e).imp (hF k).2 id
/-- an append, of what a call has laid -/
theorem Own.grow {w0 : World} (h : Own w B e s v n xs) (hb : Below B w0 w) (hB : B ≤ w.heap.size) (hown : Own w' 0 e s v' m news) (hk : Keeps (fun k => v.ownBlock = some k) w w') (hsub : ∀ k, v'.ownBlock = some k → v.ownBlock = some k ∨ w.heap.size ≤ k) :
    Own w' B e s v' m news ∧ Below B w0 w' := by
  refine ⟨hown.from fun k e => ?_, hb.trans (hk.below hB fun k e => (h.lt k e).1)⟩
  rcases hsub k e with h1 | h1
  · exact (h.lt k h1).1
  · omega
end
section
variable {H : Type} {enc : TypeId × Value → H} {P : Program} {W : World} {r : Reach} {b0 : Nat}
def Value.intOf' : Value → Int | .int _ n => n | _ => 0
theorem arg_ints {t e : TypeId} {v : Value} {d : DataW H} {ps : List MemPlace} {kd : IntKind} (ht : P.underlying t = some (.slice e)) (he : P.underlying e = some (.int kd)) (ce : P.cellsOf e = 1) (be : P.bytesOf e = 8)
    (hval : Value.okWide P W r b0 t v) (h : DataW.Trod enc P W 0 (fun _ => true) true t v d ps) (hr : ∀ n ∈ d.weights P t, n ≤ reachBytes) :
    ∃ zs : List Int, Sl W 1 v zs.length (zs.map (Value.int kd)) ∧ zs.length * 8 ≤ 140737488351232 ∧ ∀ z ∈ zs, (Lit.int kd z).wf = true := by
  obtain ⟨vs, D, Pl, m, hs, hb, hx⟩ := arg_slice ht ce hval h hr
  have key : ∀ i (hi : i < vs.length), ∃ z, vs[i] = .int kd z ∧ (Lit.int kd z).wf = true := by
    intro i hi
    obtain ⟨k, hk, _, hw⟩ := DataW.trod_int he (hx i hi).1
    exact ⟨k, by simpa [List.getD, hi] using hk, by simpa using hw⟩
  have e1 : (vs.map Value.intOf').map (Value.int kd) = vs := by
    apply List.ext_getElem
    · simp
    · intro i h1 h2
      obtain ⟨z, hz, _⟩ := key i h2
      simp [hz, Value.intOf']
  refine ⟨vs.map Value.intOf', ?_, ?_, ?_⟩
  · rw [e1]; simpa using hs
  · rw [be] at hb; simpa [reachBytes] using hb
  · intro z hz
    obtain ⟨v, hv, rfl⟩ := List.mem_map.1 hz
    obtain ⟨i, hi, rfl⟩ := List.getElem_of_mem hv
    obtain ⟨z, hz', hw⟩ := key i hi
    rw [hz']
    exact hw
end
end Go.Proofs.YtindlfiifckdnaaDoor.L
