/-
  Cells that came in: one by value; a slice of them.
-/
import Derived.Test.YtgmnpgohkabfcaaCells
import Derived.Test.YtgmnpgohkabfcaaFacts
import Derived.Test.YtgmnpgohkabfcaaArgs
import Derived.Lib.SmallJoins
namespace Go.Proofs.Ytgmnpgohkabfcaa.Bl
open Go.RowKit Go.ChangeShapes Go.WideShapes Go.Deep L
/-- what every cell that came in is -/
def CellIn (c : Cl) : Prop := c.key.size ≤ 140737488351232 ∧ c.val.size ≤ 140737488351232 ∧ -9223372036854775808 ≤ c.seq ∧ c.seq ≤ 9223372036854775807
section
variable {H : Type} {enc : TypeId × Value → H} {W : World} {r : Reach} {b0 : Nat}
theorem trod_cell {fuel : Nat} {cs : List Value} {x : DataW H × List MemPlace} (h : DataW.trod enc Try.prog W 0 (fun _ => true) true fuel 36 cs = some x) (hr : ∀ n ∈ x.1.weights Try.prog 36, n ≤ reachBytes) :
    ∃ c : Cl, cs = c.vals ∧ CellIn c := by
  have hs := Try.underlying36
  obtain ⟨y0, y1, y2, y3, n, rfl, hlen, h0, h1, h2, h3⟩ := Joins.trod_struct4 hs h
  have hlen4 : cs.length = 4 := by rw [hlen]; kernel_rfl
  match cs, hlen4 with
  | [c0, c1, c2, c3], _ =>
    have e9 : Try.prog.cellsOf 9 = 1 := by kernel_rfl
    have e4 : Try.prog.cellsOf 4 = 1 := by kernel_rfl
    have e3 : Try.prog.cellsOf 3 = 1 := by kernel_rfl
    simp only [e9, e4, e3] at h0 h1 h2 h3
    obtain ⟨s0, k0, d0, _⟩ := DataW.trod_string Try.underlying9 h0
    obtain ⟨s1, k1, d1, _⟩ := DataW.trod_string Try.underlying9 h1
    obtain ⟨s2, k2, d2⟩ := DataW.trod_bool Try.underlying4 h2
    obtain ⟨s3, k3, d3, wf⟩ := DataW.trod_int Try.underlying3 h3
    subst d0 d1 d2 d3
    simp at k0 k1 k2 k3
    subst k0 k1 k2 k3
    simp only [DataW.weights, hs, DataW.weightsEach, List.map_cons] at hr
    have w0 := hr s0.data.toList.length (by simp)
    have w1 := hr s1.data.toList.length (by simp)
    refine ⟨⟨s0, s1, s2, s3⟩, rfl, by simpa [reachBytes] using w0, by simpa [reachBytes] using w1, ?_⟩
    simpa [Lit.wf, IntKind.min, IntKind.max, IntKind.signed, IntKind.bits] using wf
theorem arg_cell {v : Value} {d : DataW H} {ps : List MemPlace} (hval : Value.okWide Try.prog W r b0 36 v)
    (h : DataW.Trod enc Try.prog W 0 (fun _ => true) true 36 v d ps) (hr : ∀ n ∈ d.weights Try.prog 36, n ≤ reachBytes) : ∃ c : Cl, v = c.agg ∧ CellIn c := by
  obtain ⟨cs, rfl, hsz⟩ := okWide_struct Try.underlying36 hval
  obtain ⟨fuel, hf⟩ := h
  obtain ⟨c, hc, hin⟩ := trod_cell hf hr
  refine ⟨c, ?_, hin⟩
  rw [Cl.agg]
  congr 1
  apply Array.toList_inj.1
  simpa [Value.cells, Cl.vals] using hc
def unvals : List Value → Cl
  | [.string a, .string b, .bool c, .int _ d] => ⟨a, b, c, d⟩
  | _ => default
theorem arg_cells {v : Value} {d : DataW H} {ps : List MemPlace} (hval : Value.okWide Try.prog W r b0 22 v)
    (h : DataW.Trod enc Try.prog W 0 (fun _ => true) true 22 v d ps) (hr : ∀ n ∈ d.weights Try.prog 22, n ≤ reachBytes) : ∃ l : List Cl, Sl W 4 v l.length (cls l) ∧ l.length * 48 ≤ 140737488351232 ∧ ∀ c ∈ l, CellIn c := by
  obtain ⟨a0, len, cap, rfl⟩ := okWide_slice Try.underlying22 hval
  obtain ⟨fuel, hf⟩ := h
  rcases open_slice Try.underlying22 hf with ⟨hcs, _⟩ | ⟨a, len', cap', m, n, D, Pl, hcs, _, hl, hm, hmm, hx, hc⟩
  · simp [Value.cells] at hcs
    obtain ⟨rfl, rfl, rfl⟩ := hcs
    exact ⟨[], Sl.nil _ _, by simp, by simp⟩
  · simp [Value.cells] at hcs
    obtain ⟨rfl, rfl, rfl⟩ := hcs
    simp only [if_true] at hmm
    subst hmm
    simp only [Prod.mk.injEq] at hx
    obtain ⟨rfl, _⟩ := hx
    have hw := weights_slice Try.underlying22 hr
    have e4 : Try.prog.cellsOf 36 = 4 := by kernel_rfl
    have b48 : Try.prog.bytesOf 36 = 48 := by kernel_rfl
    rw [e4] at hc
    have key : ∀ i, i < len → ∃ c : Cl, (∀ j, j < 4 → W.cell? (a.add (i * 4 + j)) = some (c.vals.getD j undef)) ∧ CellIn c := by
      intro i hi
      obtain ⟨cs', h1, h2⟩ := hc i (by omega)
      obtain ⟨_, hlen, hcell⟩ := World.cells?_some h1
      obtain ⟨c, rfl, hin⟩ := trod_cell h2 (hw.2 (D i) (List.mem_map.2 ⟨i, by simpa using hi, rfl⟩))
      refine ⟨c, fun j hj => ?_, hin⟩
      have := hcell j hj
      rw [L.add_add] at this
      rw [this]
      have hl4 : j < c.vals.length := by rw [hlen]; exact hj
      simp [List.getD, List.getElem?_eq_getElem hl4]
    obtain ⟨C, hC⟩ := choose_lt (α := Cl) (p := fun i c => (∀ j, j < 4 → W.cell? (a.add (i * 4 + j)) = some (c.vals.getD j undef)) ∧ CellIn c) key
    have hll : ((List.range len).map C).length = len := by simp
    refine ⟨(List.range len).map C, ⟨by rw [cls_length], some a, _, by rw [hll], by rw [hll]; exact hl, hm, (fun h => by cases h), fun a' ha j hj => ?_⟩, ?_, fun c hcm => ?_⟩
    · cases ha
      rw [hll] at hj
      have hj4 : j / 4 < len := by omega
      have := (hC (j / 4) hj4).1 (j % 4) (by omega)
      rw [show j / 4 * 4 + j % 4 = j from by omega] at this
      rw [this]
      have hg := cls_get ((List.range len).map C) (j / 4) (j % 4) (by rw [hll]; exact hj4) (by omega)
      rw [show j / 4 * 4 + j % 4 = j from by omega] at hg
      rw [hg]
      simp [List.getD, hj4]
    · rw [hll]
      have := hw.1
      rw [b48] at this
      simp [reachBytes] at this
      omega
    · obtain ⟨i, hi, rfl⟩ := List.mem_map.1 hcm
      exact (hC i (by simpa using hi)).2
end
end Go.Proofs.Ytgmnpgohkabfcaa.Bl
