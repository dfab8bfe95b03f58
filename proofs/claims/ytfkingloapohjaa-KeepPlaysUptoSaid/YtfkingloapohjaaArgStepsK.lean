/-
  Steps that came in (burgesslaw4.Step): two numbers, a text, two rows of bytes, texts.
-/
import Derived.Test.YtfkingloapohjaaFacts
import Derived.Test.YtfkingloapohjaaRows
import Derived.Test.YtfkingloapohjaaF2
import Derived.Test.YtfkingloapohjaaFetch
import Derived.Lib.SmallJoins
namespace Go.Proofs.Ytfkingloapohjaa.Kp
open Go.RowKit Go.ChangeShapes Go.WideShapes Go.Deep L
/-- a step -/
structure Stp where
  kind : Int
  num : Int
  name : ByteArray
  av : Value
  bv : Value
  sv : Value
  a : List UInt8
  b : List UInt8
  stay : List ByteArray
instance : Inhabited Stp := ⟨⟨0, 0, ByteArray.empty, .slice none 0 0, .slice none 0 0, .slice none 0 0, [], [], []⟩⟩
def Stp.vals (c : Stp) : List Value := [.int .i64 c.kind, .int .i64 c.num, .string c.name, c.av, c.bv, c.sv]
/-- how much texts weigh -/
def stW (l : List ByteArray) : Nat := (l.map fun s => s.size + 1).sum
/-- what every step that came in is -/
def StpIn (W : World) (c : Stp) : Prop := (-9223372036854775808 ≤ c.kind ∧ c.kind ≤ 9223372036854775807) ∧ (-9223372036854775808 ≤ c.num ∧ c.num ≤ 9223372036854775807) ∧ c.name.size ≤ 140737488351232 ∧
  (c.a.length ≤ 140737488351232 ∧ Sl W 1 c.av c.a.length (u8s c.a)) ∧ (c.b.length ≤ 140737488351232 ∧ Sl W 1 c.bv c.b.length (u8s c.b)) ∧ Sl W 1 c.sv c.stay.length (strs c.stay) ∧ c.name.size + c.a.length + c.b.length + stW c.stay ≤ 1048576
def stps : List Stp → List Value
  | [] => []
  | c :: r => .int .i64 c.kind :: .int .i64 c.num :: .string c.name :: c.av :: c.bv :: c.sv :: stps r
theorem stps_length : ∀ l : List Stp, (stps l).length = l.length * 6
  | [] => rfl
  | c :: r => by simp only [stps, List.length_cons, stps_length r]; omega
theorem stps_get : ∀ (l : List Stp) (k j : Nat), k < l.length → j < 6 → (stps l).getD (k * 6 + j) undef = (l.getD k default).vals.getD j undef
  | c :: r, 0, j, _, hj => by
    match j, hj with
    | 0, _ => rfl
    | 1, _ => rfl
    | 2, _ => rfl
    | 3, _ => rfl
    | 4, _ => rfl
    | 5, _ => rfl
  | c :: r, k + 1, j, hk, hj => by
    have := stps_get r k j (by simpa using hk) hj
    rw [show (k + 1) * 6 + j = k * 6 + j + 1 + 1 + 1 + 1 + 1 + 1 from by omega]
    simpa [stps, List.getD] using this
section
variable {H : Type} {enc : TypeId × Value → H} {P : Program} {W : World} {r : Reach} {b0 : Nat}
theorem bulk_one (d : DataW H) : 1 ≤ Rows.uptoBulk d := by
  cases d with
  | lit l => cases l <;> simp [Rows.uptoBulk]
  | nil => simp [Rows.uptoBulk]
  | ptr d => simp [Rows.uptoBulk]
  | slice elems spare => simp [Rows.uptoBulk]
  | agg parts => simp [Rows.uptoBulk]
  | iface t d => simp [Rows.uptoBulk]
  | map entries => simp [Rows.uptoBulk]
  | held h => simp [Rows.uptoBulk]
theorem bulk_mem {d : DataW H} {l : List (DataW H)} (h : d ∈ l) : Rows.uptoBulk d ≤ Rows.uptoBulkAll l := by
  induction l with
  | nil => cases h
  | cons x r ih =>
    simp only [Rows.uptoBulkAll]
    cases List.mem_cons.1 h with
    | inl e => subst e; omega
    | inr e => have := ih e; omega
theorem bulk_len (l : List (DataW H)) : l.length ≤ Rows.uptoBulkAll l := by
  induction l with
  | nil => simp [Rows.uptoBulkAll]
  | cons x r ih => have := bulk_one x; simp only [Rows.uptoBulkAll, List.length_cons]; omega
theorem bulk_strs : ∀ ss : List ByteArray, Rows.uptoBulkAll (H := H) (ss.map fun s => .lit (.string s.data.toList)) = stW ss
  | [] => by simp [Rows.uptoBulkAll, stW]
  | s :: r => by
    have := bulk_strs r
    simp only [List.map_cons, Rows.uptoBulkAll, Rows.uptoBulk, this, stW, List.sum_cons]
    have e : s.data.toList.length = s.size := by rw [Array.length_toList]; rfl
    omega
/-- as trod_sl1, with the bulk -/
theorem trod_sl1B {t e : TypeId} {v : Value} {d : DataW H} {ps : List MemPlace} {fuel : Nat} (ht : P.underlying t = some (.slice e)) (ce : P.cellsOf e = 1)
    (hf : DataW.trod enc P W 0 (fun _ => true) true fuel t [v] = some (d, ps)) (hr : ∀ n ∈ d.weights P t, n ≤ reachBytes) :
    ∃ (vs : List Value) (D : Nat → DataW H) (Pl : Nat → List MemPlace) (m : Nat), Sl W 1 v vs.length vs ∧ vs.length * P.bytesOf e ≤ reachBytes ∧ Rows.uptoBulkAll ((List.range vs.length).map D) + 1 ≤ Rows.uptoBulk d ∧
      ∀ i, i < vs.length → DataW.trod enc P W 0 (fun _ => true) true m e [vs.getD i undef] = some (D i, Pl i) ∧ ∀ n ∈ (D i).weights P e, n ≤ reachBytes := by
  rcases open_slice1 ht ce hf with ⟨hcs, _⟩ | ⟨a, len, cap, m, n, V, D, Pl, hcs, _, hl, hm, hmm, hx, hc⟩
  · simp only [List.cons.injEq, and_true] at hcs
    subst hcs
    exact ⟨[], fun _ => .nil, fun _ => [], 0, Sl.nil _ _, by simp, by simpa [Rows.uptoBulkAll] using bulk_one d, by simp⟩
  · simp only [List.cons.injEq, and_true] at hcs
    subst hcs
    simp only [if_true] at hmm
    subst hmm
    simp only [Prod.mk.injEq] at hx
    obtain ⟨rfl, _⟩ := hx
    have hw := weights_slice ht hr
    refine ⟨(List.range len).map V, D, Pl, n, ⟨by simp, some a, _, by simp, by simpa using hl, hm, (fun h => by cases h), fun a' ha j hj => ?_⟩, ?_, ?_, fun i hi => ?_⟩
    · cases ha
      simp at hj
      rw [(hc j (by omega)).1]
      simp [List.getD, hj]
    · refine Nat.le_trans ?_ hw.1
      simp only [List.length_map, List.length_range]
      exact Nat.mul_le_mul_right _ (by omega)
    · simp only [List.length_map, List.length_range, Rows.uptoBulk]
      omega
    · simp at hi
      refine ⟨?_, hw.2 (D i) (List.mem_map.2 ⟨i, by simpa using hi, rfl⟩)⟩
      have := (hc i (by omega)).2
      simpa [List.getD, hi] using this
theorem trod_bytesB {t e : TypeId} {v : Value} {d : DataW H} {ps : List MemPlace} {fuel : Nat} (ht : P.underlying t = some (.slice e)) (he : P.underlying e = some (.int .u8)) (ce : P.cellsOf e = 1) (be : P.bytesOf e = 1)
    (hf : DataW.trod enc P W 0 (fun _ => true) true fuel t [v] = some (d, ps)) (hr : ∀ n ∈ d.weights P t, n ≤ reachBytes) :
    ∃ l : List UInt8, Sl W 1 v l.length (u8s l) ∧ l.length ≤ 140737488351232 ∧ l.length ≤ Rows.uptoBulk d := by
  obtain ⟨vs, D, Pl, m, hs, hb, hbk, hx⟩ := trod_sl1B ht ce hf hr
  have e1 : u8s (vs.map Value.u8of) = vs := by
    apply List.ext_getElem
    · simp [u8s]
    · intro i h1 h2
      obtain ⟨k, hk, _, hw⟩ := DataW.trod_int he (hx i h2).1
      have : vs[i] = .int .u8 k := by simpa [List.getD, h2] using hk
      simp only [u8s, List.getElem_map, this, Value.u8of]
      rw [toU8_wf (by simpa using hw)]
  refine ⟨vs.map Value.u8of, ?_, ?_, ?_⟩
  · rw [e1]; simpa using hs
  · rw [be] at hb; simpa [reachBytes] using hb
  · have := bulk_len ((List.range vs.length).map D)
    simp only [List.length_map, List.length_range] at this ⊢
    omega
theorem trod_strs {t e : TypeId} {v : Value} {d : DataW H} {ps : List MemPlace} {fuel : Nat} (ht : P.underlying t = some (.slice e)) (he : P.underlying e = some .string) (ce : P.cellsOf e = 1)
    (hf : DataW.trod enc P W 0 (fun _ => true) true fuel t [v] = some (d, ps)) (hr : ∀ n ∈ d.weights P t, n ≤ reachBytes) :
    ∃ ss : List ByteArray, Sl W 1 v ss.length (ss.map Value.string) ∧ stW ss ≤ Rows.uptoBulk d := by
  obtain ⟨vs, D, Pl, m, hs, hb, hbk, hx⟩ := trod_sl1B ht ce hf hr
  have key : ∀ i (hi : i < vs.length), ∃ s : ByteArray, vs[i] = .string s ∧ D i = .lit (.string s.data.toList) := by
    intro i hi
    obtain ⟨h1, h2⟩ := hx i hi
    obtain ⟨s, hk, hd, _⟩ := DataW.trod_string he h1
    simp only [Prod.mk.injEq] at hd
    exact ⟨s, by simpa [List.getD, hi] using hk, hd.1⟩
  have e1 : (vs.map Value.strOf).map Value.string = vs := by
    apply List.ext_getElem
    · simp
    · intro i h1 h2
      obtain ⟨s, hk, _⟩ := key i h2
      simp [hk, Value.strOf]
  have e2 : (List.range vs.length).map D = (vs.map Value.strOf).map fun s => .lit (.string s.data.toList) := by
    apply List.ext_getElem
    · simp
    · intro i h1 h2
      obtain ⟨s, hk, hD⟩ := key i (by simpa using h1)
      simp [hk, hD, Value.strOf]
  refine ⟨vs.map Value.strOf, ?_, ?_⟩
  · rw [e1]; simpa using hs
  · rw [e2, bulk_strs] at hbk
    omega
end
section
variable {H : Type} {enc : TypeId × Value → H} {W : World} {r : Reach} {b0 : Nat}
theorem trod_struct6 {P : Program} {base : Nat} {spare : Nat → Bool} {held : Bool} {t : TypeId} {f0 f1 f2 f3 f4 f5 : Field} {fuel : Nat} {cs : List Value} {x : DataW H × List MemPlace} (ht : P.underlying t = some (.struct #[f0, f1, f2, f3, f4, f5])) (h : DataW.trod enc P W base spare held fuel t cs = some x) :
    ∃ y0 y1 y2 y3 y4 y5 n, x = (.agg [y0.1, y1.1, y2.1, y3.1, y4.1, y5.1], y0.2 ++ (y1.2 ++ (y2.2 ++ (y3.2 ++ (y4.2 ++ y5.2))))) ∧ cs.length = P.cellsOf t ∧ DataW.trod enc P W base spare held n f0.type ((cs.drop f0.offset).take (P.cellsOf f0.type)) = some y0 ∧
      DataW.trod enc P W base spare held n f1.type ((cs.drop f1.offset).take (P.cellsOf f1.type)) = some y1 ∧ DataW.trod enc P W base spare held n f2.type ((cs.drop f2.offset).take (P.cellsOf f2.type)) = some y2 ∧
      DataW.trod enc P W base spare held n f3.type ((cs.drop f3.offset).take (P.cellsOf f3.type)) = some y3 ∧ DataW.trod enc P W base spare held n f4.type ((cs.drop f4.offset).take (P.cellsOf f4.type)) = some y4 ∧ DataW.trod enc P W base spare held n f5.type ((cs.drop f5.offset).take (P.cellsOf f5.type)) = some y5 := by
  obtain ⟨xs, n, _, rfl, hl, hlen, hf⟩ := DataW.trod_struct ht h
  match xs, hlen with
  | [y0, y1, y2, y3, y4, y5], _ => exact ⟨y0, y1, y2, y3, y4, y5, n, by simp, hl, by simpa using hf 0 f0 rfl, by simpa using hf 1 f1 rfl, by simpa using hf 2 f2 rfl, by simpa using hf 3 f3 rfl, by simpa using hf 4 f4 rfl, by simpa using hf 5 f5 rfl⟩
set_option maxRecDepth 100000 in
theorem trod_step {fuel : Nat} {cs : List Value} {x : DataW H × List MemPlace} (h : DataW.trod enc Try.prog W 0 (fun _ => true) true fuel 47 cs = some x) (hr : ∀ n ∈ x.1.weights Try.prog 47, n ≤ reachBytes) (hbk : Rows.uptoBulk x.1 ≤ 1048576) :
    ∃ c : Stp, cs = c.vals ∧ StpIn W c := by
  have hs := Try.underlying47
  obtain ⟨y0, y1, y2, y3, y4, y5, n, rfl, hlen, h0, h1, h2, h3, h4, h5⟩ := trod_struct6 hs h
  have hlen6 : cs.length = 6 := by rw [hlen]; kernel_rfl
  match cs, hlen6 with
  | [c0, c1, c2, c3, c4, c5], _ =>
    have e9 : Try.prog.cellsOf 9 = 1 := by kernel_rfl
    have e3 : Try.prog.cellsOf 3 = 1 := by kernel_rfl
    have eb : Try.prog.cellsOf 23 = 1 := by kernel_rfl
    have es : Try.prog.cellsOf 38 = 1 := by kernel_rfl
    simp only [e9, e3, eb, es] at h0 h1 h2 h3 h4 h5
    obtain ⟨s0, k0, d0, wf0⟩ := DataW.trod_int Try.underlying3 h0
    obtain ⟨s1, k1, d1, wf1⟩ := DataW.trod_int Try.underlying3 h1
    obtain ⟨s2, k2, d2, _⟩ := DataW.trod_string Try.underlying9 h2
    subst d0 d1 d2
    simp at k0 k1 k2
    subst k0 k1 k2
    simp only [DataW.weights, hs, DataW.weightsEach, List.map_cons] at hr
    have w2 := hr s2.data.toList.length (by simp)
    have h3' : DataW.trod enc Try.prog W 0 (fun _ => true) true n 23 [c3] = some (y3.1, y3.2) := by simpa using h3
    have h4' : DataW.trod enc Try.prog W 0 (fun _ => true) true n 23 [c4] = some (y4.1, y4.2) := by simpa using h4
    have h5' : DataW.trod enc Try.prog W 0 (fun _ => true) true n 38 [c5] = some (y5.1, y5.2) := by simpa using h5
    obtain ⟨la, ha1, ha2, ha3⟩ := trod_bytesB (d := y3.1) (ps := y3.2) Try.underlying23 Try.underlying5 (by kernel_rfl) (by kernel_rfl) h3' fun m hm => hr m (by simp [hm])
    obtain ⟨lb, hb1, hb2, hb3⟩ := trod_bytesB (d := y4.1) (ps := y4.2) Try.underlying23 Try.underlying5 (by kernel_rfl) (by kernel_rfl) h4' fun m hm => hr m (by simp [hm])
    obtain ⟨ls, hs1, hs2⟩ := trod_strs (d := y5.1) (ps := y5.2) Try.underlying38 Try.underlying9 (by kernel_rfl) h5' fun m hm => hr m (by simp [hm])
    refine ⟨⟨s0, s1, s2, c3, c4, c5, la, lb, ls⟩, rfl, ?_, ?_, by simpa [reachBytes] using w2, ⟨ha2, ha1⟩, ⟨hb2, hb1⟩, hs1, ?_⟩
    · simpa [Lit.wf, IntKind.min, IntKind.max, IntKind.signed, IntKind.bits] using wf0
    · simpa [Lit.wf, IntKind.min, IntKind.max, IntKind.signed, IntKind.bits] using wf1
    · simp only [Rows.uptoBulk, Rows.uptoBulkAll] at hbk
      have e : s2.data.toList.length = s2.size := by rw [Array.length_toList]; rfl
      show s2.size + la.length + lb.length + stW ls ≤ 1048576
      omega
set_option maxRecDepth 100000 in
theorem arg_steps {v : Value} {d : DataW H} {ps : List MemPlace} (hval : Value.okWide Try.prog W r b0 41 v)
    (h : DataW.Trod enc Try.prog W 0 (fun _ => true) true 41 v d ps) (hr : ∀ n ∈ d.weights Try.prog 41, n ≤ reachBytes) (hbk : Rows.uptoBulk d ≤ 1048576) : ∃ l : List Stp, Sl W 6 v l.length (stps l) ∧ l.length ≤ 140737488351232 ∧ ∀ c ∈ l, StpIn W c := by
  obtain ⟨a0, len, cap, rfl⟩ := okWide_slice Try.underlying41 hval
  obtain ⟨fuel, hf⟩ := h
  rcases open_slice Try.underlying41 hf with ⟨hcs, _⟩ | ⟨a, len', cap', m, n, D, Pl, hcs, _, hl, hm, hmm, hx, hc⟩
  · simp [Value.cells] at hcs
    obtain ⟨rfl, rfl, rfl⟩ := hcs
    exact ⟨[], Sl.nil _ _, by simp, by simp⟩
  · simp [Value.cells] at hcs
    obtain ⟨rfl, rfl, rfl⟩ := hcs
    simp only [if_true] at hmm
    subst hmm
    simp only [Prod.mk.injEq] at hx
    obtain ⟨rfl, _⟩ := hx
    have hw := weights_slice Try.underlying41 hr
    have e4 : Try.prog.cellsOf 47 = 6 := by kernel_rfl
    have b48 : Try.prog.bytesOf 47 = 104 := by kernel_rfl
    rw [e4] at hc
    simp only [Rows.uptoBulk] at hbk
    have key : ∀ i, i < len → ∃ c : Stp, (∀ j, j < 6 → W.cell? (a.add (i * 6 + j)) = some (c.vals.getD j undef)) ∧ StpIn W c := by
      intro i hi
      obtain ⟨cs', h1, h2⟩ := hc i (by omega)
      obtain ⟨_, hlen, hcell⟩ := World.cells?_some h1
      obtain ⟨c, rfl, hin⟩ := trod_step h2 (hw.2 (D i) (List.mem_map.2 ⟨i, by simpa using hi, rfl⟩)) (by have := bulk_mem (d := D i) (List.mem_map.2 ⟨i, List.mem_range.2 hi, rfl⟩ : D i ∈ (List.range len).map D); show Rows.uptoBulk (D i) ≤ _; omega)
      refine ⟨c, fun j hj => ?_, hin⟩
      have := hcell j hj
      rw [L.add_add] at this
      rw [this]
      have hl4 : j < c.vals.length := by rw [hlen]; exact hj
      simp [List.getD, List.getElem?_eq_getElem hl4]
    obtain ⟨C, hC⟩ := choose_lt (α := Stp) (p := fun i c => (∀ j, j < 6 → W.cell? (a.add (i * 6 + j)) = some (c.vals.getD j undef)) ∧ StpIn W c) key
    have hll : ((List.range len).map C).length = len := by simp
    refine ⟨(List.range len).map C, ⟨by rw [stps_length], some a, _, by rw [hll], by rw [hll]; exact hl, hm, (fun h => by cases h), fun a' ha j hj => ?_⟩, ?_, fun c hcm => ?_⟩
    · cases ha
      rw [hll] at hj
      have hj4 : j / 6 < len := by omega
      have := (hC (j / 6) hj4).1 (j % 6) (by omega)
      rw [show j / 6 * 6 + j % 6 = j from by omega] at this
      rw [this]
      have hg := stps_get ((List.range len).map C) (j / 6) (j % 6) (by rw [hll]; exact hj4) (by omega)
      rw [show j / 6 * 6 + j % 6 = j from by omega] at hg
      rw [hg]
      simp [List.getD, hj4]
    · rw [hll]
      have := hw.1
      rw [b48] at this
      simp [reachBytes] at this
      omega
    · obtain ⟨i, hi, rfl⟩ := List.mem_map.1 hcm
      exact (hC i (by simpa using hi)).2
end
end Go.Proofs.Ytfkingloapohjaa.Kp
