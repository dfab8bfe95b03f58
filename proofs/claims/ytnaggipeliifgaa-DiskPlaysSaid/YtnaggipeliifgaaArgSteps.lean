/-
  Steps that came in (burgesslaw3.Step): two numbers, two texts, bytes.
-/
import Derived.Test.YtnaggipeliifgaaFacts
import Derived.Test.YtnaggipeliifgaaArgs
import Derived.Test.YtnaggipeliifgaaFetch
import Derived.Lib.SmallJoins
namespace Go.Proofs.Ytnaggipeliifgaa.Dsk
open Go.RowKit Go.ChangeShapes Go.WideShapes Go.Deep L
/-- a step -/
structure Stp where
  kind : Int
  num : Int
  a : ByteArray
  to_ : ByteArray
  bv : Value
  b : List UInt8
instance : Inhabited Stp := ⟨⟨0, 0, ByteArray.empty, ByteArray.empty, .slice none 0 0, []⟩⟩
def Stp.vals (c : Stp) : List Value := [.int .i64 c.kind, .int .i64 c.num, .string c.a, .string c.to_, c.bv]
/-- what every step that came in is -/
def StpIn (W : World) (c : Stp) : Prop := (-9223372036854775808 ≤ c.kind ∧ c.kind ≤ 9223372036854775807) ∧ (-9223372036854775808 ≤ c.num ∧ c.num ≤ 9223372036854775807) ∧ c.a.size ≤ 140737488351232 ∧ c.to_.size ≤ 140737488351232 ∧ c.b.length ≤ 140737488351232 ∧ Sl W 1 c.bv c.b.length (u8s c.b)
def stps : List Stp → List Value
  | [] => []
  | c :: r => .int .i64 c.kind :: .int .i64 c.num :: .string c.a :: .string c.to_ :: c.bv :: stps r
theorem stps_length : ∀ l : List Stp, (stps l).length = l.length * 5
  | [] => rfl
  | c :: r => by simp only [stps, List.length_cons, stps_length r]; omega
theorem stps_get : ∀ (l : List Stp) (k j : Nat), k < l.length → j < 5 → (stps l).getD (k * 5 + j) undef = (l.getD k default).vals.getD j undef
  | c :: r, 0, j, _, hj => by
    match j, hj with
    | 0, _ => rfl
    | 1, _ => rfl
    | 2, _ => rfl
    | 3, _ => rfl
    | 4, _ => rfl
  | c :: r, k + 1, j, hk, hj => by
    have := stps_get r k j (by simpa using hk) hj
    rw [show (k + 1) * 5 + j = k * 5 + j + 1 + 1 + 1 + 1 + 1 from by omega]
    simpa [stps, List.getD] using this
section
variable {H : Type} {enc : TypeId × Value → H} {W : World} {r : Reach} {b0 : Nat}
theorem trod_struct5 {P : Program} {base : Nat} {spare : Nat → Bool} {held : Bool} {t : TypeId} {f0 f1 f2 f3 f4 : Field} {fuel : Nat} {cs : List Value} {x : DataW H × List MemPlace} (ht : P.underlying t = some (.struct #[f0, f1, f2, f3, f4])) (h : DataW.trod enc P W base spare held fuel t cs = some x) :
    ∃ y0 y1 y2 y3 y4 n, x = (.agg [y0.1, y1.1, y2.1, y3.1, y4.1], y0.2 ++ (y1.2 ++ (y2.2 ++ (y3.2 ++ y4.2)))) ∧ cs.length = P.cellsOf t ∧ DataW.trod enc P W base spare held n f0.type ((cs.drop f0.offset).take (P.cellsOf f0.type)) = some y0 ∧
      DataW.trod enc P W base spare held n f1.type ((cs.drop f1.offset).take (P.cellsOf f1.type)) = some y1 ∧ DataW.trod enc P W base spare held n f2.type ((cs.drop f2.offset).take (P.cellsOf f2.type)) = some y2 ∧
      DataW.trod enc P W base spare held n f3.type ((cs.drop f3.offset).take (P.cellsOf f3.type)) = some y3 ∧ DataW.trod enc P W base spare held n f4.type ((cs.drop f4.offset).take (P.cellsOf f4.type)) = some y4 := by
  obtain ⟨xs, n, _, rfl, hl, hlen, hf⟩ := DataW.trod_struct ht h
  match xs, hlen with
  | [y0, y1, y2, y3, y4], _ => exact ⟨y0, y1, y2, y3, y4, n, by simp, hl, by simpa using hf 0 f0 rfl, by simpa using hf 1 f1 rfl, by simpa using hf 2 f2 rfl, by simpa using hf 3 f3 rfl, by simpa using hf 4 f4 rfl⟩
set_option maxRecDepth 100000 in
theorem trod_step {fuel : Nat} {cs : List Value} {x : DataW H × List MemPlace} (h : DataW.trod enc Try.prog W 0 (fun _ => true) true fuel 50 cs = some x) (hr : ∀ n ∈ x.1.weights Try.prog 50, n ≤ reachBytes) :
    ∃ c : Stp, cs = c.vals ∧ StpIn W c := by
  have hs := Try.underlying50
  obtain ⟨y0, y1, y2, y3, y4, n, rfl, hlen, h0, h1, h2, h3, h4⟩ := trod_struct5 hs h
  have hlen5 : cs.length = 5 := by rw [hlen]; kernel_rfl
  match cs, hlen5 with
  | [c0, c1, c2, c3, c4], _ =>
    have e9 : Try.prog.cellsOf 9 = 1 := by kernel_rfl
    have e3 : Try.prog.cellsOf 3 = 1 := by kernel_rfl
    have eb : Try.prog.cellsOf 23 = 1 := by kernel_rfl
    simp only [e9, e3, eb] at h0 h1 h2 h3 h4
    obtain ⟨s0, k0, d0, wf0⟩ := DataW.trod_int Try.underlying3 h0
    obtain ⟨s1, k1, d1, wf1⟩ := DataW.trod_int Try.underlying3 h1
    obtain ⟨s2, k2, d2, _⟩ := DataW.trod_string Try.underlying9 h2
    obtain ⟨s3, k3, d3, _⟩ := DataW.trod_string Try.underlying9 h3
    subst d0 d1 d2 d3
    simp at k0 k1 k2 k3
    subst k0 k1 k2 k3
    simp only [DataW.weights, hs, DataW.weightsEach, List.map_cons] at hr
    have w2 := hr s2.data.toList.length (by simp)
    have w3 := hr s3.data.toList.length (by simp)
    have h4' : DataW.trod enc Try.prog W 0 (fun _ => true) true n 23 [c4] = some (y4.1, y4.2) := by simpa using h4
    obtain ⟨l, hl1, hl2⟩ := trod_bytes (d := y4.1) (ps := y4.2) Try.underlying23 Try.underlying5 (by kernel_rfl) (by kernel_rfl) h4' fun m hm => hr m (by simp [hm])
    refine ⟨⟨s0, s1, s2, s3, c4, l⟩, rfl, ?_, ?_, by simpa [reachBytes] using w2, by simpa [reachBytes] using w3, hl2, hl1⟩
    · simpa [Lit.wf, IntKind.min, IntKind.max, IntKind.signed, IntKind.bits] using wf0
    · simpa [Lit.wf, IntKind.min, IntKind.max, IntKind.signed, IntKind.bits] using wf1
set_option maxRecDepth 100000 in
theorem arg_steps {v : Value} {d : DataW H} {ps : List MemPlace} (hval : Value.okWide Try.prog W r b0 44 v)
    (h : DataW.Trod enc Try.prog W 0 (fun _ => true) true 44 v d ps) (hr : ∀ n ∈ d.weights Try.prog 44, n ≤ reachBytes) : ∃ l : List Stp, Sl W 5 v l.length (stps l) ∧ l.length ≤ 140737488351232 ∧ ∀ c ∈ l, StpIn W c := by
  obtain ⟨a0, len, cap, rfl⟩ := okWide_slice Try.underlying44 hval
  obtain ⟨fuel, hf⟩ := h
  rcases open_slice Try.underlying44 hf with ⟨hcs, _⟩ | ⟨a, len', cap', m, n, D, Pl, hcs, _, hl, hm, hmm, hx, hc⟩
  · simp [Value.cells] at hcs
    obtain ⟨rfl, rfl, rfl⟩ := hcs
    exact ⟨[], Sl.nil _ _, by simp, by simp⟩
  · simp [Value.cells] at hcs
    obtain ⟨rfl, rfl, rfl⟩ := hcs
    simp only [if_true] at hmm
    subst hmm
    simp only [Prod.mk.injEq] at hx
    obtain ⟨rfl, _⟩ := hx
    have hw := weights_slice Try.underlying44 hr
    have e4 : Try.prog.cellsOf 50 = 5 := by kernel_rfl
    have b48 : Try.prog.bytesOf 50 = 72 := by kernel_rfl
    rw [e4] at hc
    have key : ∀ i, i < len → ∃ c : Stp, (∀ j, j < 5 → W.cell? (a.add (i * 5 + j)) = some (c.vals.getD j undef)) ∧ StpIn W c := by
      intro i hi
      obtain ⟨cs', h1, h2⟩ := hc i (by omega)
      obtain ⟨_, hlen, hcell⟩ := World.cells?_some h1
      obtain ⟨c, rfl, hin⟩ := trod_step h2 (hw.2 (D i) (List.mem_map.2 ⟨i, by simpa using hi, rfl⟩))
      refine ⟨c, fun j hj => ?_, hin⟩
      have := hcell j hj
      rw [L.add_add] at this
      rw [this]
      have hl4 : j < c.vals.length := by rw [hlen]; exact hj
      simp [List.getD, List.getElem?_eq_getElem hl4]
    obtain ⟨C, hC⟩ := choose_lt (α := Stp) (p := fun i c => (∀ j, j < 5 → W.cell? (a.add (i * 5 + j)) = some (c.vals.getD j undef)) ∧ StpIn W c) key
    have hll : ((List.range len).map C).length = len := by simp
    refine ⟨(List.range len).map C, ⟨by rw [stps_length], some a, _, by rw [hll], by rw [hll]; exact hl, hm, (fun h => by cases h), fun a' ha j hj => ?_⟩, ?_, fun c hcm => ?_⟩
    · cases ha
      rw [hll] at hj
      have hj4 : j / 5 < len := by omega
      have := (hC (j / 5) hj4).1 (j % 5) (by omega)
      rw [show j / 5 * 5 + j % 5 = j from by omega] at this
      rw [this]
      have hg := stps_get ((List.range len).map C) (j / 5) (j % 5) (by rw [hll]; exact hj4) (by omega)
      rw [show j / 5 * 5 + j % 5 = j from by omega] at hg
      rw [hg]
      simp [List.getD, hj4]
    · rw [hll]
      have := hw.1
      rw [b48] at this
      simp [reachBytes] at this
      omega
    · obtain ⟨i, hi, rfl⟩ := List.mem_map.1 hcm
      exact (hC i (by simpa using hi)).2
end
end Go.Proofs.Ytnaggipeliifgaa.Dsk
