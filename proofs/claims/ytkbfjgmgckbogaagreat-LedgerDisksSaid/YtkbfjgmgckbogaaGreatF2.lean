/-
  Texts that the proofs of this seat stand on, one behind the other: contracts of functions and plain lemmas. Conditions: those that each theorem states.
-/
import Derived.Test.YtkbfjgmgckbogaaGreatBytes
import Derived.ProofKit
import Derived.SizedLaws
import Derived.Deep.Slices
import Derived.SliceStrings
import Derived.Test.YtkbfjgmgckbogaaGreatSep
/-
  What came in: a slice among the arguments as a bare value that reads a list; its sizes by the form's own reach. Over any program.
-/





namespace Go.Proofs.YtkbfjgmgckbogaaGreat.L
open Go.RowKit Go.ChangeShapes Go.WideShapes Go.Deep
section
variable {H : Type} {enc : TypeId × Value → H} {P : Program} {W : World} {r : Reach} {b0 : Nat}

theorem weights_slice {t e : TypeId} {elems spare : List (DataW H)} (ht : P.underlying t = some (.slice e)) (hr : ∀ n ∈ (DataW.slice elems spare).weights P t, n ≤ reachBytes) :
    (elems.length + spare.length) * P.bytesOf e ≤ reachBytes ∧ ∀ d ∈ elems, ∀ n ∈ d.weights P e, n ≤ reachBytes := by
  simp only [DataW.weights, ht] at hr
  refine ⟨hr _ (by simp), fun d hd n hn => hr n ?_⟩
  have : ∀ l : List (DataW H), d ∈ l → n ∈ DataW.weightsAll P e l := by
    intro l
    induction l with
    | nil => intro h; cases h
    | cons x l ih =>
      intro h
      simp only [DataW.weightsAll, List.mem_append]
      rcases List.mem_cons.1 h with rfl | h
      · exact .inl hn
      · exact .inr (ih h)
  simp only [List.mem_cons, List.mem_append]
  exact .inr (.inl (this _ hd))

/-- a slice of elements of one cell -/
theorem arg_slice {t e : TypeId} {v : Value} {d : DataW H} {ps : List MemPlace} (ht : P.underlying t = some (.slice e)) (ce : P.cellsOf e = 1) (hval : Value.okWide P W r b0 t v)
    (h : DataW.Trod enc P W 0 (fun _ => true) true t v d ps) (hr : ∀ n ∈ d.weights P t, n ≤ reachBytes) :
    ∃ (vs : List Value) (D : Nat → DataW H) (Pl : Nat → List MemPlace) (m : Nat), Sl W 1 v vs.length vs ∧ vs.length * P.bytesOf e ≤ reachBytes ∧
      ∀ i, i < vs.length → DataW.trod enc P W 0 (fun _ => true) true m e [vs.getD i undef] = some (D i, Pl i) ∧ ∀ n ∈ (D i).weights P e, n ≤ reachBytes := by
  obtain ⟨a0, len, cap, rfl⟩ := okWide_slice ht hval
  obtain ⟨fuel, hf⟩ := h
  rcases open_slice1 ht ce hf with ⟨hcs, _⟩ | ⟨a, len', cap', m, n, V, D, Pl, hcs, _, hl, hm, hmm, hx, hc⟩
  · simp [Value.cells] at hcs
    obtain ⟨rfl, rfl, rfl⟩ := hcs
    exact ⟨[], fun _ => .nil, fun _ => [], 0, Sl.nil _ _, by simp, by simp⟩
  · simp [Value.cells] at hcs
    obtain ⟨rfl, rfl, rfl⟩ := hcs
    simp only [if_true] at hmm
    subst hmm
    simp only [Prod.mk.injEq] at hx
    obtain ⟨rfl, _⟩ := hx
    have hw := weights_slice ht hr
    refine ⟨(List.range len).map V, D, Pl, n, ⟨by simp, some a, _, by simp, by simpa using hl, hm, (fun h => by cases h), fun a' ha j hj => ?_⟩, ?_, fun i hi => ?_⟩
    · cases ha
      simp at hj
      rw [(hc j (by omega)).1]
      simp [List.getD, hj]
    · refine Nat.le_trans ?_ hw.1
      simp only [List.length_map, List.length_range]
      exact Nat.mul_le_mul_right _ (by omega)
    · simp at hi
      refine ⟨?_, hw.2 (D i) (List.mem_map.2 ⟨i, by simpa using hi, rfl⟩)⟩
      have := (hc i (by omega)).2
      simpa [List.getD, hi] using this

def toU8 (z : Int) : UInt8 := UInt8.ofNat z.toNat
theorem toU8_wf {z : Int} (h : (Lit.int .u8 z).wf = true) : ((toU8 z).toNat : Int) = z := by
  have hb : 0 ≤ z ∧ z ≤ 255 := by simpa [Lit.wf, IntKind.min, IntKind.max, IntKind.signed, IntKind.bits] using h
  unfold toU8
  rw [UInt8.toNat_ofNat']
  show (((z.toNat) % 256 : Nat) : Int) = z
  omega

def Value.u8of : Value → UInt8 | .int _ z => toU8 z | _ => 0
theorem arg_bytes {t e : TypeId} {v : Value} {d : DataW H} {ps : List MemPlace} (ht : P.underlying t = some (.slice e)) (he : P.underlying e = some (.int .u8)) (ce : P.cellsOf e = 1) (be : P.bytesOf e = 1)
    (hval : Value.okWide P W r b0 t v) (h : DataW.Trod enc P W 0 (fun _ => true) true t v d ps) (hr : ∀ n ∈ d.weights P t, n ≤ reachBytes) :
    ∃ l : List UInt8, Sl W 1 v l.length (u8s l) ∧ l.length ≤ 140737488351232 := by
  obtain ⟨vs, D, Pl, m, hs, hb, hx⟩ := arg_slice ht ce hval h hr
  have e1 : u8s (vs.map Value.u8of) = vs := by
    apply List.ext_getElem
    · simp [u8s]
    · intro i h1 h2
      obtain ⟨k, hk, _, hw⟩ := DataW.trod_int he (hx i h2).1
      have : vs[i] = .int .u8 k := by simpa [List.getD, h2] using hk
      simp only [u8s, List.getElem_map, this, Value.u8of]
      rw [toU8_wf (by simpa using hw)]
  refine ⟨vs.map Value.u8of, ?_, ?_⟩
  · rw [e1]; simpa using hs
  · rw [be] at hb; simpa [reachBytes] using hb

def Value.strOf : Value → ByteArray | .string s => s | _ => ByteArray.empty
theorem arg_strs {t e : TypeId} {v : Value} {d : DataW H} {ps : List MemPlace} (ht : P.underlying t = some (.slice e)) (he : P.underlying e = some .string) (ce : P.cellsOf e = 1) (be : P.bytesOf e = 16)
    (hval : Value.okWide P W r b0 t v) (h : DataW.Trod enc P W 0 (fun _ => true) true t v d ps) (hr : ∀ n ∈ d.weights P t, n ≤ reachBytes) :
    ∃ ss : List ByteArray, Sl W 1 v ss.length (ss.map Value.string) ∧ ss.length * 16 ≤ 140737488351232 ∧ ∀ s ∈ ss, s.size ≤ 140737488351232 := by
  obtain ⟨vs, D, Pl, m, hs, hb, hx⟩ := arg_slice ht ce hval h hr
  have key : ∀ i (hi : i < vs.length), ∃ s : ByteArray, vs[i] = .string s ∧ s.size ≤ 140737488351232 := by
    intro i hi
    obtain ⟨h1, h2⟩ := hx i hi
    obtain ⟨s, hk, hd, _⟩ := DataW.trod_string he h1
    refine ⟨s, by simpa [List.getD, hi] using hk, ?_⟩
    simp only [Prod.mk.injEq] at hd
    rw [hd.1] at h2
    have := h2 s.data.toList.length (by simp [DataW.weights])
    simpa [reachBytes] using this
  have e1 : (vs.map Value.strOf).map Value.string = vs := by
    apply List.ext_getElem
    · simp
    · intro i h1 h2
      obtain ⟨s, hk, _⟩ := key i h2
      simp [hk, Value.strOf]
  refine ⟨vs.map Value.strOf, ?_, ?_, ?_⟩
  · rw [e1]; simpa using hs
  · rw [be] at hb; simpa [reachBytes] using hb
  · intro s hs'
    obtain ⟨i, hi, rfl⟩ := List.getElem_of_mem hs'
    simp at hi
    obtain ⟨s, hk, hz⟩ := key i hi
    simpa [hk, Value.strOf] using hz
theorem reach_of {ts : List TypeId} {ds : List (DataW H)} (h : (DataW.weightsEach P ts ds).all (fun x => decide (x ≤ reachBytes)) = true) {j : Nat} {t : TypeId} {d : DataW H} (ht : ts[j]? = some t) (hd : ds[j]? = some d) : ∀ n ∈ d.weights P t, n ≤ reachBytes := by
  intro n hn
  simpa using List.all_eq_true.1 h _ (DataW.weights_mem_each ht hd n hn)
theorem arg_string {t : TypeId} {s : ByteArray} (hr : ∀ n ∈ (DataW.lit (H := H) (.string s.data.toList)).weights P t, n ≤ reachBytes) : s.size ≤ 140737488351232 := by
  have := hr s.data.toList.length (by simp [DataW.weights])
  simpa [reachBytes] using this
end
end Go.Proofs.YtkbfjgmgckbogaaGreat.L

/-
  Owned slices once more: stores into them, their growth, and integers among the arguments. Over any program.
-/


namespace Go.Proofs.YtkbfjgmgckbogaaGreat.L
open Go.RowKit Go.ChangeShapes Go.WideShapes Go.Deep
section
variable {P : Program} {W0 w w1 w' : World} {R : Asrt} {B n m : Nat} {e : TypeId} {s : Nat} {v v' : Value} {xs news : List Value}
theorem take_set {l : List Value} {n i : Nat} (u : Value) : (l.set i u).take n = (l.take n).set i u := by
  rw [List.take_set]
/-- the place of an element of what is owned: it may be written -/
theorem run_indexAt_own (h : Own w B e 1 v n xs) {t : TypeId} (ht : P.underlying t = some (.slice e)) (hs : (P.info? e).map (fun i => i.size) = some 1) (k : IntKind) (i : Int) (h0 : 0 ≤ i) (h1 : i < n) :
    ∃ A : Addr, (∀ w' : World, (Instr.indexAt t v (.int k i)).run P w' = .ok (.pointer (some A)) w') ∧ some A.block = v.ownBlock ∧ w.cell? A = some (xs.getD i.toNat undef) ∧ w.frozen? A = false ∧
      ∀ u, Own (w.setCell A u) B e 1 v n (xs.set i.toNat u) := by
  obtain ⟨inf, hi, hsz⟩ := Option.map_eq_some_iff.1 hs
  have hsl := h.sl
  obtain ⟨hl, h1' | ⟨g, cap, cur, rfl, hb, hg, hn, hm, hcs, htk⟩⟩ := h
  · omega
  · have hin : i.toNat < n := by omega
    refine ⟨⟨g, i.toNat, none⟩, fun w' => ?_, rfl, ?_, hg.free (by omega), fun u => ⟨by simpa using hl, .inr ⟨g, cap, _, rfl, hb, hg.setCell _ u, hn, hm, by simpa using hcs, ?_⟩⟩⟩
    · simp [Instr.indexAt, run_underlying ht, asIntOf, h0, h1, sizeOf, typeInfo, hi, hsz, Addr.add_lit]
    · rw [hg.cell, ← htk]
      have : i.toNat < cur.size := by omega
      simp only [List.getD, List.getElem?_take, Nat.mul_one, if_pos hin]
      rw [List.getElem?_eq_getElem (by simpa using this)]
      simp [this]
    · rw [Array.toList_setIfInBounds, take_set u, htk]
/-- the same, of what is held -/
theorem Hold.index (h : Hold W0 ((Row e 1 v n xs).sep R) w) {t : TypeId} (ht : P.underlying t = some (.slice e)) (hs : (P.info? e).map (fun i => i.size) = some 1) (k : IntKind) (i : Int) (h0 : 0 ≤ i) (h1 : i < n) :
    ∃ A : Addr, (∀ w' : World, (Instr.indexAt t v (.int k i)).run P w' = .ok (.pointer (some A)) w') ∧ w.cell? A = some (xs.getD i.toNat undef) ∧ w.frozen? A = false ∧
      ∀ u, Hold W0 ((Row e 1 v n (xs.set i.toNat u)).sep R) (w.setCell A u) := by
  obtain ⟨F, ⟨hown, hF⟩, hge, hup⟩ := h.take
  obtain ⟨A, hA, hblk, hc, hf, hset⟩ := run_indexAt_own (P := P) hown ht hs k i h0 h1
  exact ⟨A, hA, hc, hf, fun u => hup _ _ F ((Keeps.refl F w).setCell (fun _ => (hF _).2 hblk.symm) u) ⟨hset u, hF⟩ fun k hk => .inl hk⟩
/-- an append, of what is held -/
theorem Hold.grow (h : Hold W0 ((Row e s v n xs).sep R) w) (hown : Own w' 0 e s v' m news) (hk : Keeps (fun k => v.ownBlock = some k) w w') (hsub : ∀ k, v'.ownBlock = some k → v.ownBlock = some k ∨ w.heap.size ≤ k) :
    Hold W0 ((Row e s v' m news).sep R) w' := by
  obtain ⟨F, ⟨_, hF⟩, hge, hup⟩ := h.take
  exact hup w' _ (fun k => v'.ownBlock = some k) (hk.mono fun k _ e => (hF k).2 e) ⟨hown, fun k => Iff.rfl⟩ fun k e => (hsub k e).imp (hF k).2 id
/-- an append, of what a call has laid -/
theorem Own.grow {w0 : World} (h : Own w B e s v n xs) (hb : Below B w0 w) (hB : B ≤ w.heap.size) (hown : Own w' 0 e s v' m news) (hk : Keeps (fun k => v.ownBlock = some k) w w') (hsub : ∀ k, v'.ownBlock = some k → v.ownBlock = some k ∨ w.heap.size ≤ k) :
    Own w' B e s v' m news ∧ Below B w0 w' := by
  refine ⟨hown.from fun k e => ?_, hb.trans (hk.below hB fun k e => (h.lt k e).1)⟩
  rcases hsub k e with h1 | h1
  · exact (h.lt k h1).1
  · omega
end
section
variable {H : Type} {enc : TypeId × Value → H} {P : Program} {W : World} {r : Reach} {b0 : Nat}
def Value.intOf' : Value → Int | .int _ n => n | _ => 0
theorem arg_ints {t e : TypeId} {v : Value} {d : DataW H} {ps : List MemPlace} {kd : IntKind} (ht : P.underlying t = some (.slice e)) (he : P.underlying e = some (.int kd)) (ce : P.cellsOf e = 1) (be : P.bytesOf e = 8)
    (hval : Value.okWide P W r b0 t v) (h : DataW.Trod enc P W 0 (fun _ => true) true t v d ps) (hr : ∀ n ∈ d.weights P t, n ≤ reachBytes) :
    ∃ zs : List Int, Sl W 1 v zs.length (zs.map (Value.int kd)) ∧ zs.length * 8 ≤ 140737488351232 ∧ ∀ z ∈ zs, (Lit.int kd z).wf = true := by
  obtain ⟨vs, D, Pl, m, hs, hb, hx⟩ := arg_slice ht ce hval h hr
  have key : ∀ i (hi : i < vs.length), ∃ z, vs[i] = .int kd z ∧ (Lit.int kd z).wf = true := by
    intro i hi
    obtain ⟨k, hk, _, hw⟩ := DataW.trod_int he (hx i hi).1
    exact ⟨k, by simpa [List.getD, hi] using hk, by simpa using hw⟩
  have e1 : (vs.map Value.intOf').map (Value.int kd) = vs := by
    apply List.ext_getElem
    · simp
    · intro i h1 h2
      obtain ⟨z, hz, _⟩ := key i h2
      simp [hz, Value.intOf']
  refine ⟨vs.map Value.intOf', ?_, ?_, ?_⟩
  · rw [e1]; simpa using hs
  · rw [be] at hb; simpa [reachBytes] using hb
  · intro z hz
    obtain ⟨v, hv, rfl⟩ := List.mem_map.1 hz
    obtain ⟨i, hi, rfl⟩ := List.getElem_of_mem hv
    obtain ⟨z, hz', hw⟩ := key i hi
    rw [hz']
    exact hw
end
end Go.Proofs.YtkbfjgmgckbogaaGreat.L

/-
  Objects side by side: how they are bracketed. Over any program.
-/

namespace Go.Proofs.YtkbfjgmgckbogaaGreat.L
theorem Hold.assoc {W0 w : World} {A B R : Asrt} : Hold W0 ((A.sep B).sep R) w ↔ Hold W0 (A.sep (B.sep R)) w := by
  constructor
  · rintro ⟨h1, F, hF, F12, F3, h2, h3, ⟨F1, F2, h4, h5, h6, h7⟩, h8⟩
    exact ⟨h1, F, hF, F1, fun k => F2 k ∨ F3 k, fun k => by rw [h2, h4, or_assoc], fun k hk hk2 => hk2.elim (h5 k hk) (h3 k ((h4 k).2 (.inl hk))), h6, F2, F3, fun k => Iff.rfl, fun k hk => h3 k ((h4 k).2 (.inr hk)), h7, h8⟩
  · rintro ⟨h1, F, hF, F1, F23, h2, h3, h4, F2, F3, h5, h6, h7, h8⟩
    exact ⟨h1, F, hF, fun k => F1 k ∨ F2 k, F3, fun k => by rw [h2, h5, or_assoc], fun k hk hk2 => hk.elim (fun hk => h3 k hk ((h5 k).2 (.inr hk2))) (fun hk => h6 k hk hk2), ⟨F1, F2, fun k => Iff.rfl, fun k hk hk2 => h3 k hk ((h5 k).2 (.inl hk2)), h4, h7⟩, h8⟩
theorem Asrt.ext {A B : Asrt} (h : ∀ F w, A.at_ F w ↔ B.at_ F w) : A = B := by
  obtain ⟨a, _, _⟩ := A
  obtain ⟨b, _, _⟩ := B
  obtain rfl : a = b := by
    funext F w
    exact propext (h F w)
  rfl
theorem sep_at_comm {A B : Asrt} {F : Nat → Prop} {w : World} (h : (A.sep B).at_ F w) : (B.sep A).at_ F w := by
  obtain ⟨F1, F2, h2, h3, h4, h5⟩ := h
  exact ⟨F2, F1, fun k => by rw [h2 k]; exact or_comm, fun k a b => h3 k b a, h5, h4⟩
theorem sep_comm (A B : Asrt) : A.sep B = B.sep A := Asrt.ext fun _ _ => ⟨sep_at_comm, sep_at_comm⟩
theorem sep_assoc (A B C : Asrt) : (A.sep B).sep C = A.sep (B.sep C) := Asrt.ext fun F w => by
  constructor
  · rintro ⟨F12, F3, h2, h3, ⟨F1, F2, h4, h5, h6, h7⟩, h8⟩
    exact ⟨F1, fun k => F2 k ∨ F3 k, fun k => by rw [h2, h4, or_assoc], fun k hk hk2 => hk2.elim (h5 k hk) (h3 k ((h4 k).2 (.inl hk))), h6, F2, F3, fun k => Iff.rfl, fun k hk => h3 k ((h4 k).2 (.inr hk)), h7, h8⟩
  · rintro ⟨F1, F23, h2, h3, h4, F2, F3, h5, h6, h7, h8⟩
    exact ⟨fun k => F1 k ∨ F2 k, F3, fun k => by rw [h2, h5, or_assoc], fun k hk hk2 => hk.elim (fun hk => h3 k hk ((h5 k).2 (.inr hk2))) (fun hk => h6 k hk hk2), ⟨F1, F2, fun k => Iff.rfl, fun k hk hk2 => h3 k hk ((h5 k).2 (.inl hk2)), h4, h7⟩, h8⟩
instance : Std.Commutative Asrt.sep := ⟨sep_comm⟩
instance : Std.Associative Asrt.sep := ⟨sep_assoc⟩
/-- the same objects in another order: 'by ac_rfl' -/
theorem Hold.perm {W0 w : World} {A B : Asrt} (h : Hold W0 A w) (e : A = B) : Hold W0 B w := e ▸ h
theorem Hold.up5 {W0 w : World} {A B C D E R : Asrt} (h : Hold W0 (A.sep (B.sep (C.sep (D.sep (E.sep R))))) w) : Hold W0 (E.sep (A.sep (B.sep (C.sep (D.sep R))))) w := h.perm (by ac_rfl)
theorem Hold.up6 {W0 w : World} {A B C D E G R : Asrt} (h : Hold W0 (A.sep (B.sep (C.sep (D.sep (E.sep (G.sep R)))))) w) : Hold W0 (G.sep (A.sep (B.sep (C.sep (D.sep (E.sep R)))))) w := h.perm (by ac_rfl)
theorem Hold.up7 {W0 w : World} {A B C D E G I R : Asrt} (h : Hold W0 (A.sep (B.sep (C.sep (D.sep (E.sep (G.sep (I.sep R))))))) w) : Hold W0 (I.sep (A.sep (B.sep (C.sep (D.sep (E.sep (G.sep R))))))) w := h.perm (by ac_rfl)
/-- a store of what stands there -/
theorem blk_same {w : World} {b : Nat} {cs : Array Value} {t : TypeId} (h : w.heap[b]? = some (.cells cs t (0, 0))) (j : Nat) {v : Value} (hj : cs[j]? = some v) : w.setCell ⟨b, j, none⟩ v = w := by
  rw [setCell_eq_setRow w b j cs t (0, 0) v h]
  have : cs.setIfInBounds j v = cs := by
    apply Array.ext_getElem?
    intro i
    rw [Array.getElem?_setIfInBounds]
    split
    · rename_i e
      subst e
      obtain ⟨hlt, hv⟩ := Array.getElem?_eq_some_iff.1 hj
      rw [if_pos hlt, hj]
    · rfl
  rw [this]
  exact setRow_same w b cs t (0, 0) h
end Go.Proofs.YtkbfjgmgckbogaaGreat.L

/-
  An object of which a part is not named; a store into a block. Over any program.
-/

namespace Go.Proofs.YtkbfjgmgckbogaaGreat.L
open Go.RowKit
/-- some object of a family -/
def ExA {α : Type} (f : α → Asrt) : Asrt where
  at_ F w := ∃ a, (f a).at_ F w
  stay := by
    rintro F w w' ⟨a, h⟩ hk
    exact ⟨a, (f a).stay h hk⟩
  lt := by
    rintro F w ⟨a, h⟩ k hk
    exact (f a).lt h k hk
section
variable {W0 w : World} {R : Asrt} {α : Type} {f : α → Asrt}
theorem Hold.unex (h : Hold W0 ((ExA f).sep R) w) : ∃ a, Hold W0 ((f a).sep R) w := by
  obtain ⟨h1, F, hF, F1, F2, h2, h3, ⟨a, h4⟩, h5⟩ := h
  exact ⟨a, h1, F, hF, F1, F2, h2, h3, h4, h5⟩
theorem Hold.toex (a : α) (h : Hold W0 ((f a).sep R) w) : Hold W0 ((ExA f).sep R) w := by
  obtain ⟨h1, F, hF, F1, F2, h2, h3, h4, h5⟩ := h
  exact ⟨h1, F, hF, F1, F2, h2, h3, ⟨a, h4⟩, h5⟩
theorem Hold.setB {b : Nat} {cs : Array Value} {t : TypeId} (h : Hold W0 ((Blk b cs t).sep R) w) (j : Nat) (v : Value) : Hold W0 ((Blk b (cs.setIfInBounds j v) t).sep R) (w.setCell ⟨b, j, none⟩ v) := by
  obtain ⟨F, ⟨hb, hF⟩, hge, hup⟩ := h.take
  exact hup _ (Blk b (cs.setIfInBounds j v) t) F ((Keeps.refl F w).setCell (fun _ => (hF b).2 rfl) _) ⟨blk_set hb j v, hF⟩ (fun k hk => .inl hk)
theorem emp_sep (A : Asrt) : Asrt.emp.sep A = A := Asrt.ext fun F w => by
  constructor
  · rintro ⟨F1, F2, h2, h3, h4, h5⟩
    have : F = F2 := by
      funext k
      exact propext ((h2 k).trans ⟨fun h => h.resolve_left (h4 k), .inr⟩)
    rw [this]; exact h5
  · intro h
    exact ⟨fun _ => False, F, fun k => by simp, fun _ h => h.elim, fun _ h => h, h⟩
end
end Go.Proofs.YtkbfjgmgckbogaaGreat.L

/-
  A field of an element of what is owned: its place, and a store to it. Over any program.
-/

namespace Go.Proofs.YtkbfjgmgckbogaaGreat.L
open Go.RowKit
section
variable {P : Program} {W0 w : World} {R : Asrt} {e : TypeId} {s n : Nat} {v : Value} {xs : List Value}
theorem own_indexS (h : Own w 0 e s v n xs) {t e' : TypeId} (ht : P.underlying t = some (.slice e')) (hs : (P.info? e').map (fun i => i.size) = some s) (k : IntKind) (i j : Nat) (hi : i < n) (hj : j < s) :
    ∃ g, v.ownBlock = some g ∧ (∀ w' : World, (Instr.indexAt t v (.int k (i : Int))).run P w' = .ok (.pointer (some ⟨g, i * s, none⟩)) w') ∧ w.cell? ⟨g, i * s + j, none⟩ = some (xs.getD (i * s + j) undef) ∧ w.frozen? ⟨g, i * s + j, none⟩ = false ∧
      ∀ u, Own (w.setCell ⟨g, i * s + j, none⟩ u) 0 e s v n (xs.set (i * s + j) u) := by
  obtain ⟨inf, hif, hsz⟩ := Option.map_eq_some_iff.1 hs
  obtain ⟨hl, h1' | ⟨g, cap, cur, rfl, hb, hg, hn, hm, hcs, htk⟩⟩ := h
  · omega
  · have hle : (i + 1) * s ≤ n * s := Nat.mul_le_mul_right _ hi
    have hle2 : n * s ≤ cap * s := Nat.mul_le_mul_right _ hn
    have hq : i * s + j < n * s := by rw [Nat.add_mul, Nat.one_mul] at hle; omega
    refine ⟨g, rfl, fun w' => ?_, ?_, hg.free (by omega), fun u => ⟨by simpa using hl, .inr ⟨g, cap, _, rfl, hb, hg.setCell _ u, hn, hm, by simpa using hcs, ?_⟩⟩⟩
    · simp [Instr.indexAt, run_underlying ht, asIntOf, hi, sizeOf, typeInfo, hif, hsz, Addr.add_lit]
    · rw [hg.cell, ← htk]
      have : i * s + j < cur.size := by omega
      simp only [List.getD, List.getElem?_take, if_pos hq]
      rw [List.getElem?_eq_getElem (by simpa using this)]
      simp [this]
    · rw [Array.toList_setIfInBounds, take_set u, htk]
theorem Hold.indexS (h : Hold W0 ((Row e s v n xs).sep R) w) {t e' : TypeId} (ht : P.underlying t = some (.slice e')) (hs : (P.info? e').map (fun i => i.size) = some s) (k : IntKind) (i j : Nat) (hi : i < n) (hj : j < s) :
    ∃ g, (∀ w' : World, (Instr.indexAt t v (.int k (i : Int))).run P w' = .ok (.pointer (some ⟨g, i * s, none⟩)) w') ∧ w.cell? ⟨g, i * s + j, none⟩ = some (xs.getD (i * s + j) undef) ∧ w.frozen? ⟨g, i * s + j, none⟩ = false ∧
      ∀ u, Hold W0 ((Row e s v n (xs.set (i * s + j) u)).sep R) (w.setCell ⟨g, i * s + j, none⟩ u) := by
  obtain ⟨F, ⟨hown, hF⟩, hge, hup⟩ := h.take
  obtain ⟨g, hgv, hA, hc, hf, hset⟩ := own_indexS (P := P) hown ht hs k i j hi hj
  exact ⟨g, hA, hc, hf, fun u => hup _ _ F ((Keeps.refl F w).setCell (fun _ => (hF _).2 hgv) u) ⟨hset u, hF⟩ fun k hk => .inl hk⟩
end
end Go.Proofs.YtkbfjgmgckbogaaGreat.L
