/-
  What came in: a slice among the arguments as a bare value that reads a list; its sizes by the form's own reach. Over any program.
-/
import Derived.Test.YtindlfiifckdnaaDoorBytes
import Derived.ProofKit
import Derived.SizedLaws
import Derived.Deep.Slices
import Derived.SliceStrings
namespace Go.Proofs.YtindlfiifckdnaaDoor.L
open Go.RowKit Go.ChangeShapes Go.WideShapes Go.Deep
section
variable {H : Type} {enc : TypeId × Value → H} {P : Program} {W : World} {r : Reach} {b0 : Nat}

theorem weights_slice {t e : TypeId} {elems spare : List (DataW H)} (ht : P.underlying t = some (.slice e)) (hr : ∀ n ∈ (DataW.slice elems spare).weights P t, n ≤ reachBytes) :
    (elems.length + spare.length) * P.bytesOf e ≤ reachBytes ∧ ∀ d ∈ elems, ∀ n ∈ d.weights P e, n ≤ reachBytes := by
  simp only [DataW.weights, ht] at hr
  refine ⟨hr _ (by simp), fun d hd n hn => hr n ?_⟩
  have : ∀ l : List (DataW H), d ∈ l → n ∈ DataW.weightsAll P e l := by
    intro l
    induction l with
    | nil => intro h; cases h
    | cons x l ih =>
      intro h
      simp only [DataW.weightsAll, List.mem_append]
      rcases List.mem_cons.1 h with rfl | h
      · exact .inl hn
      · exact .inr (ih h)
  simp only [List.mem_cons, List.mem_append]
  exact .inr (.inl (this _ hd))

/-- a slice of elements of one cell -/
theorem arg_slice {t e : TypeId} {v : Value} {d : DataW H} {ps : List MemPlace} (ht : P.underlying t = some (.slice e)) (ce : P.cellsOf e = 1) (hval : Value.okWide P W r b0 t v)
    (h : DataW.Trod enc P W 0 (fun _ => true) true t v d ps) (hr : ∀ n ∈ d.weights P t, n ≤ reachBytes) :
    ∃ (vs : List Value) (D : Nat → DataW H) (Pl : Nat → List MemPlace) (m : Nat), Sl W 1 v vs.length vs ∧ vs.length * P.bytesOf e ≤ reachBytes ∧
      ∀ i, i < vs.length → DataW.trod enc P W 0 (fun _ => true) true m e [vs.getD i undef] = some (D i, Pl i) ∧ ∀ n ∈ (D i).weights P e, n ≤ reachBytes := by
  obtain ⟨a0, len, cap, rfl⟩ := okWide_slice ht hval
  obtain ⟨fuel, hf⟩ := h
  rcases open_slice1 ht ce hf with ⟨hcs, _⟩ | ⟨a, len', cap', m, n, V, D, Pl, hcs, _, hl, hm, hmm, hx, hc⟩
  · simp [Value.cells] at hcs
    obtain ⟨rfl, rfl, rfl⟩ := hcs
    exact ⟨[], fun _ => .nil, fun _ => [], 0, Sl.nil _ _, by simp, by simp⟩
  · simp [Value.cells] at hcs
    obtain ⟨rfl, rfl, rfl⟩ := hcs
    simp only [if_true] at hmm
    subst hmm
    simp only [Prod.mk.injEq] at hx
    obtain ⟨rfl, _⟩ := hx
    have hw := weights_slice ht hr
    refine ⟨(List.range len).map V, D, Pl, n, ⟨by simp, some a, _, by simp, by simpa using hl, hm, (fun h => by cases h), fun a' ha j hj => ?_⟩, ?_, fun i hi => ?_⟩
    · cases ha
      simp at hj
      rw [(hc j (by omega)).1]
      simp [List.getD, hj]
    · refine Nat.le_trans ?_ hw.1
      simp only [List.length_map, List.length_range]
      exact Nat.mul_le_mul_right _ (by omega)
    · simp at hi
      refine ⟨?_, hw.2 (D i) (List.mem_map.2 ⟨i, by simpa using hi, rfl⟩)⟩
      have := (hc i (by omega)).2
      simpa [List.getD, hi] using this

def toU8 (z : Int) : UInt8 := UInt8.ofNat z.toNat
theorem toU8_wf {z : Int} (h : (Lit.int .u8 z).wf = true) : ((toU8 z).toNat : Int) = z := by
  have hb : 0 ≤ z ∧ z ≤ 255 := by simpa [Lit.wf, IntKind.min, IntKind.max, IntKind.signed, IntKind.bits] using h
  unfold toU8
  rw [UInt8.toNat_ofNat']
  show (((z.toNat) % 256 : Nat) : Int) = z
  omega

def Value.u8of : Value → UInt8 | .int _ z => toU8 z | _ => 0
theorem arg_bytes {t e : TypeId} {v : Value} {d : DataW H} {ps : List MemPlace} (ht : P.underlying t = some (.slice e)) (he : P.underlying e = some (.int .u8)) (ce : P.cellsOf e = 1) (be : P.bytesOf e = 1)
    (hval : Value.okWide P W r b0 t v) (h : DataW.Trod enc P W 0 (fun _ => true) true t v d ps) (hr : ∀ n ∈ d.weights P t, n ≤ reachBytes) :
    ∃ l : List UInt8, Sl W 1 v l.length (u8s l) ∧ l.length ≤ 140737488351232 := by
  obtain ⟨vs, D, Pl, m, hs, hb, hx⟩ := arg_slice ht ce hval h hr
  have e1 : u8s (vs.map Value.u8of) = vs := by
    apply List.ext_getElem
    · simp [u8s]
    · intro i h1 h2
      obtain ⟨k, hk, _, hw⟩ := DataW.trod_int he (hx i h2).1
      have : vs[i] = .int .u8 k := by simpa [List.getD, h2] using hk
      simp only [u8s, List.getElem_map, this, Value.u8of]
      rw [toU8_wf (by simpa using hw)]
  refine ⟨vs.map Value.u8of, ?_, ?_⟩
  · rw [e1]; simpa using hs
  · rw [be] at hb; simpa [reachBytes] using hb

def Value.strOf : Value → ByteArray | .string s => s | _ => ByteArray.empty
theorem arg_strs {t e : TypeId} {v : Value} {d : DataW H} {ps : List MemPlace} (ht : P.underlying t = some (.slice e)) (he : P.underlying e = some .string) (ce : P.cellsOf e = 1) (be : P.bytesOf e = 16)
    (hval : Value.okWide P W r b0 t v) (h : DataW.Trod enc P W 0 (fun _ => true) true t v d ps) (hr : ∀ n ∈ d.weights P t, n ≤ reachBytes) :
    ∃ ss : List ByteArray, Sl W 1 v ss.length (ss.map Value.string) ∧ ss.length * 16 ≤ 140737488351232 ∧ ∀ s ∈ ss, s.size ≤ 140737488351232 := by
  obtain ⟨vs, D, Pl, m, hs, hb, hx⟩ := arg_slice ht ce hval h hr
  have key : ∀ i (hi : i < vs.length), ∃ s : ByteArray, vs[i] = .string s ∧ s.size ≤ 140737488351232 := by
    intro i hi
    obtain ⟨h1, h2⟩ := hx i hi
    obtain ⟨s, hk, hd, _⟩ := DataW.trod_string he h1
    refine ⟨s, by simpa [List.getD, hi] using hk, ?_⟩
    simp only [Prod.mk.injEq] at hd
    rw [hd.1] at h2
    have := h2 s.data.toList.length (by simp [DataW.weights])
    simpa [reachBytes] using this
  have e1 : (vs.map Value.strOf).map Value.string = vs := by
    apply List.ext_getElem
    · simp
    · intro i h1 h2
      obtain ⟨s, hk, _⟩ := key i h2
      simp [hk, Value.strOf]
  refine ⟨vs.map Value.strOf, ?_, ?_, ?_⟩
  · rw [e1]; simpa using hs
  · rw [be] at hb; simpa [reachBytes] using hb
  · intro s hs'
    obtain ⟨i, hi, rfl⟩ := List.getElem_of_mem hs'
    simp at hi
    obtain ⟨s, hk, hz⟩ := key i hi
    simpa [hk, Value.strOf] using hz
theorem reach_of {ts : List TypeId} {ds : List (DataW H)} (h : (DataW.weightsEach P ts ds).all (fun x => decide (x ≤ reachBytes)) = true) {j : Nat} {t : TypeId} {d : DataW H} (ht : ts[j]? = some t) (hd : ds[j]? = some d) : ∀ n ∈ d.weights P t, n ≤ reachBytes := by
  intro n hn
  simpa using List.all_eq_true.1 h _ (DataW.weights_mem_each ht hd n hn)
theorem arg_string {t : TypeId} {s : ByteArray} (hr : ∀ n ∈ (DataW.lit (H := H) (.string s.data.toList)).weights P t, n ≤ reachBytes) : s.size ≤ 140737488351232 := by
  have := hr s.data.toList.length (by simp [DataW.weights])
  simpa [reachBytes] using this
end
end Go.Proofs.YtindlfiifckdnaaDoor.L
