/-
  An entry that came in by value (api.Entry), with its bulk.
-/
import Derived.Test.YtindlfiifckdnaaDoorSchEnt
import Derived.Test.YtindlfiifckdnaaDoorRows
import Derived.Test.YtindlfiifckdnaaDoorArgs
import Derived.Test.YtindlfiifckdnaaDoorFetch
import Derived.Lib.SmallJoins
namespace Go.Proofs.YtindlfiifckdnaaDoor.Sc
open Go.RowKit Go.ChangeShapes Go.WideShapes Go.Deep L
section
variable {H : Type} {enc : TypeId × Value → H} {P : Program} {W : World} {r : Reach} {b0 : Nat}
theorem bulk_one (d : DataW H) : 1 ≤ Rows.uptoBulk d := by
  cases d with
  | lit l => cases l <;> simp [Rows.uptoBulk]
  | nil => simp [Rows.uptoBulk]
  | ptr d => simp [Rows.uptoBulk]
  | slice elems spare => simp [Rows.uptoBulk]
  | agg parts => simp [Rows.uptoBulk]
  | iface t d => simp [Rows.uptoBulk]
  | map entries => simp [Rows.uptoBulk]
  | held h => simp [Rows.uptoBulk]
theorem bulk_mem {d : DataW H} {l : List (DataW H)} (h : d ∈ l) : Rows.uptoBulk d ≤ Rows.uptoBulkAll l := by
  induction l with
  | nil => cases h
  | cons x r ih =>
    simp only [Rows.uptoBulkAll]
    cases List.mem_cons.1 h with
    | inl e => subst e; omega
    | inr e => have := ih e; omega
theorem bulk_len (l : List (DataW H)) : l.length ≤ Rows.uptoBulkAll l := by
  induction l with
  | nil => simp [Rows.uptoBulkAll]
  | cons x r ih => have := bulk_one x; simp only [Rows.uptoBulkAll, List.length_cons]; omega
theorem flat_congr {α β : Type} {f g : α → List β} : ∀ {l : List α}, (∀ i ∈ l, f i = g i) → l.flatMap f = l.flatMap g
  | [], _ => rfl
  | a :: r, h => by rw [List.flatMap_cons, List.flatMap_cons, h a (List.mem_cons_self ..), flat_congr fun i hi => h i (List.mem_cons_of_mem _ hi)]
theorem flat_length {s : Nat} (V : Nat → List Value) : ∀ len, (∀ i, i < len → (V i).length = s) → ((List.range len).flatMap V).length = len * s
  | 0, _ => by simp
  | n + 1, h => by
    rw [List.range_succ, List.flatMap_append, List.length_append, flat_length V n fun i hi => h i (by omega)]
    simp [h n (by omega), Nat.succ_mul]
theorem flat_getD {s : Nat} (V : Nat → List Value) : ∀ len, (∀ i, i < len → (V i).length = s) → ∀ i j, i < len → j < s → ((List.range len).flatMap V).getD (i * s + j) undef = (V i).getD j undef
  | 0, _, i, _, hi, _ => by omega
  | n + 1, h, i, j, hi, hj => by
    have hl := flat_length V n fun i hi => h i (by omega)
    rw [List.range_succ, List.flatMap_append]
    by_cases e : i < n
    · have hlt : i * s + j < n * s := by
        have := Nat.mul_le_mul_right s (show i + 1 ≤ n from e)
        rw [Nat.succ_mul] at this
        omega
      have ih := flat_getD V n (fun i hi => h i (by omega)) i j e hj
      simp only [List.getD] at ih ⊢
      rw [List.getElem?_append_left (by omega), ih]
    · obtain rfl : i = n := by omega
      simp only [List.getD]
      rw [List.getElem?_append_right (by omega), hl]
      simp
/-- a slice of elements of s cells, with its bulk -/
theorem trod_slS {t e : TypeId} {s : Nat} {v : Value} {d : DataW H} {ps : List MemPlace} {fuel : Nat} (ht : P.underlying t = some (.slice e)) (ce : P.cellsOf e = s) (hs : 0 < s)
    (hf : DataW.trod enc P W 0 (fun _ => true) true fuel t [v] = some (d, ps)) (hr : ∀ n ∈ d.weights P t, n ≤ reachBytes) :
    ∃ (len : Nat) (V : Nat → List Value) (D : Nat → DataW H) (Pl : Nat → List MemPlace) (m : Nat), Sl W s v len ((List.range len).flatMap V) ∧ Rows.uptoBulkAll ((List.range len).map D) + 1 ≤ Rows.uptoBulk d ∧
      ∀ i, i < len → (V i).length = s ∧ DataW.trod enc P W 0 (fun _ => true) true m e (V i) = some (D i, Pl i) ∧ ∀ n ∈ (D i).weights P e, n ≤ reachBytes := by
  rcases open_slice ht hf with ⟨hcs, _⟩ | ⟨a, len, cap, m, n, D, Pl, hcs, _, hl, hm, hmm, hx, hc⟩
  · simp only [List.cons.injEq, and_true] at hcs
    subst hcs
    exact ⟨0, fun _ => [], fun _ => .nil, fun _ => [], 0, Sl.nil _ _, by simpa [Rows.uptoBulkAll] using bulk_one d, by simp⟩
  · simp only [List.cons.injEq, and_true] at hcs
    subst hcs
    simp only [if_true] at hmm
    subst hmm
    simp only [Prod.mk.injEq] at hx
    obtain ⟨rfl, _⟩ := hx
    have hw := weights_slice ht hr
    rw [ce] at hc
    have key : ∀ i, i < len → ∃ cs : List Value, cs.length = s ∧ (∀ j, j < s → W.cell? (a.add (i * s + j)) = some (cs.getD j undef)) ∧ DataW.trod enc P W 0 (fun _ => true) true n e cs = some (D i, Pl i) := by
      intro i hi
      obtain ⟨cs', h1, h2⟩ := hc i (by omega)
      obtain ⟨_, hlen, hcell⟩ := World.cells?_some h1
      refine ⟨cs', hlen, fun j hj => ?_, h2⟩
      have := hcell j hj
      rw [L.add_add] at this
      rw [this]
      have hl4 : j < cs'.length := by rw [hlen]; exact hj
      simp [List.getD, List.getElem?_eq_getElem hl4]
    obtain ⟨V, hV⟩ := choose_lt (α := List Value) (p := fun i cs => cs.length = s ∧ (∀ j, j < s → W.cell? (a.add (i * s + j)) = some (cs.getD j undef)) ∧ DataW.trod enc P W 0 (fun _ => true) true n e cs = some (D i, Pl i)) key
    refine ⟨len, V, D, Pl, n, ⟨flat_length V len fun i hi => (hV i hi).1, some a, _, rfl, hl, hm, (fun h => by cases h), fun a' ha j hj => ?_⟩, ?_, fun i hi => ⟨(hV i hi).1, (hV i hi).2.2, hw.2 (D i) (List.mem_map.2 ⟨i, by simpa using hi, rfl⟩)⟩⟩
    · cases ha
      have hj4 : j / s < len := (Nat.div_lt_iff_lt_mul hs).2 hj
      have hjs := Nat.mod_lt j hs
      have h1 := (hV (j / s) hj4).2.1 (j % s) hjs
      have e1 : j / s * s + j % s = j := by rw [Nat.mul_comm]; exact Nat.div_add_mod j s
      rw [e1] at h1
      rw [h1, ← flat_getD V len (fun i hi => (hV i hi).1) (j / s) (j % s) hj4 hjs, e1]
    · simp only [Rows.uptoBulk]
      omega
theorem trod_struct2 {base : Nat} {spare : Nat → Bool} {held : Bool} {t : TypeId} {f0 f1 : Field} {fuel : Nat} {cs : List Value} {x : DataW H × List MemPlace} (ht : P.underlying t = some (.struct #[f0, f1])) (h : DataW.trod enc P W base spare held fuel t cs = some x) :
    ∃ y0 y1 n, x = (.agg [y0.1, y1.1], y0.2 ++ y1.2) ∧ cs.length = P.cellsOf t ∧ DataW.trod enc P W base spare held n f0.type ((cs.drop f0.offset).take (P.cellsOf f0.type)) = some y0 ∧
      DataW.trod enc P W base spare held n f1.type ((cs.drop f1.offset).take (P.cellsOf f1.type)) = some y1 := by
  obtain ⟨xs, n, _, rfl, hl, hlen, hf⟩ := DataW.trod_struct ht h
  match xs, hlen with
  | [y0, y1], _ => exact ⟨y0, y1, n, by simp, hl, by simpa using hf 0 f0 rfl, by simpa using hf 1 f1 rfl⟩
theorem trod_strsB {t e : TypeId} {v : Value} {d : DataW H} {ps : List MemPlace} {fuel : Nat} (ht : P.underlying t = some (.slice e)) (he : P.underlying e = some .string) (ce : P.cellsOf e = 1)
    (hf : DataW.trod enc P W 0 (fun _ => true) true fuel t [v] = some (d, ps)) (hr : ∀ n ∈ d.weights P t, n ≤ reachBytes) :
    ∃ ss : List ByteArray, Sl W 1 v ss.length (L.strs ss) ∧ ss.length ≤ Rows.uptoBulk d ∧ ∀ s ∈ ss, s.size ≤ Rows.uptoBulk d := by
  obtain ⟨len, V, D, Pl, m, hs, hb, hx⟩ := trod_slS ht ce (by decide) hf hr
  have key : ∀ i, i < len → ∃ s : ByteArray, V i = [.string s] ∧ s.size ≤ Rows.uptoBulk (D i) := by
    intro i hi
    obtain ⟨h1, h2, _⟩ := hx i hi
    obtain ⟨s, hk, hd, _⟩ := DataW.trod_string he h2
    simp only [Prod.mk.injEq] at hd
    refine ⟨s, hk, ?_⟩
    rw [hd.1]
    have e : s.data.toList.length = s.size := by rw [Array.length_toList]; rfl
    simp only [Rows.uptoBulk]
    omega
  obtain ⟨S, hS⟩ := choose_lt (α := ByteArray) (p := fun i s => V i = [.string s] ∧ s.size ≤ Rows.uptoBulk (D i)) key
  have e1 : (List.range len).flatMap V = L.strs ((List.range len).map S) := by
    unfold L.strs
    rw [List.map_map, List.map_eq_flatMap]
    apply flat_congr
    intro i hi
    exact (hS i (by simpa using hi)).1
  refine ⟨(List.range len).map S, ?_, ?_, ?_⟩
  · rw [← e1]; simpa using hs
  · have := bulk_len ((List.range len).map D)
    simp only [List.length_map, List.length_range] at this ⊢
    omega
  · intro s hm
    obtain ⟨i, hi, rfl⟩ := List.mem_map.1 hm
    have h1 := (hS i (by simpa using hi)).2
    have h2 := bulk_mem (d := D i) (List.mem_map.2 ⟨i, hi, rfl⟩ : D i ∈ (List.range len).map D)
    omega
end
theorem dcl_flat (l : List (ByteArray × ByteArray)) : dcl l = l.flatMap fun p => [.string p.1, .string p.2] := by
  induction l with
  | nil => rfl
  | cons p r ih => simp [dcl, ih]
theorem acl_flat (l : List (At × Value)) : acl l = l.flatMap fun p => [.string p.1.typ, p.2] := by
  induction l with
  | nil => rfl
  | cons p r ih => simp [acl, ih]
section
variable {H : Type} {enc : TypeId × Value → H} {W : World} {r : Reach} {b0 : Nat}
theorem sum_bulk (D : Nat → DataW H) (A : Nat → At) : ∀ len, (∀ i, i < len → (A i).vals.length ≤ Rows.uptoBulk (D i)) → (((List.range len).map A).map fun a => a.vals.length).sum ≤ Rows.uptoBulkAll ((List.range len).map D)
  | 0, _ => by simp
  | n + 1, h => by
    have h1 := sum_bulk D A n fun i hi => h i (by omega)
    have h2 := h n (by omega)
    have h3 : ∀ l m : List (DataW H), Rows.uptoBulkAll (l ++ m) = Rows.uptoBulkAll l + Rows.uptoBulkAll m := by
      intro l m
      induction l with
      | nil => simp [Rows.uptoBulkAll]
      | cons x r ih => simp only [List.cons_append, Rows.uptoBulkAll, ih]; omega
    rw [List.range_succ, List.map_append, List.map_append, List.sum_append, List.map_append, h3]
    simp only [List.map_cons, List.map_nil, List.sum_cons, List.sum_nil, Rows.uptoBulkAll]
    omega
set_option maxRecDepth 100000 in
set_option maxHeartbeats 800000 in
theorem arg_ent {v : Value} {d : DataW H} {ps : List MemPlace} (hval : Value.okWide Tryd.prog W r b0 25 v)
    (h : DataW.Trod enc Tryd.prog W 0 (fun _ => true) true 25 v d ps) (hr : ∀ n ∈ d.weights Tryd.prog 25, n ≤ reachBytes) (hbk : Rows.uptoBulk d ≤ 1048576) :
    ∃ dv av e, v = .agg #[dv, av] ∧ EntAt W dv av e ∧ EntOk e 1048576 := by
  have hsE := Tryd.underlying25
  obtain ⟨cs, rfl, hsz⟩ := okWide_struct Tryd.underlying25 hval
  obtain ⟨fuel, hf⟩ := h
  have hf' : DataW.trod enc Tryd.prog W 0 (fun _ => true) true fuel 25 cs.toList = some (d, ps) := by simpa [Value.cells] using hf
  obtain ⟨y0, y1, n, hx, hlen, h0, h1⟩ := trod_struct2 hsE hf'
  simp only [Prod.mk.injEq] at hx
  obtain ⟨rfl, rfl⟩ := hx
  have hlen2 : cs.toList.length = 2 := by rw [hlen]; kernel_rfl
  obtain ⟨dv, av, hcs⟩ : ∃ dv av, cs.toList = [dv, av] := by
    match hq : cs.toList, hlen2 with
    | [c0, c1], _ => exact ⟨c0, c1, rfl⟩
  have hcs' : cs = #[dv, av] := Array.toList_inj.1 (by simpa using hcs)
  subst hcs'
  have eD : Tryd.prog.cellsOf 22 = 1 := by kernel_rfl
  have eA : Tryd.prog.cellsOf 23 = 1 := by kernel_rfl
  have eS : Tryd.prog.cellsOf 9 = 1 := by kernel_rfl
  have eL : Tryd.prog.cellsOf 28 = 1 := by kernel_rfl
  simp only [eD, eA] at h0 h1
  obtain ⟨d0, p0⟩ := y0
  obtain ⟨d1, p1⟩ := y1
  simp only [DataW.weights, hsE, DataW.weightsEach, List.map_cons] at hr
  simp only [Rows.uptoBulk, Rows.uptoBulkAll] at hbk
  have h0' : DataW.trod enc Tryd.prog W 0 (fun _ => true) true n 22 [dv] = some (d0, p0) := by simpa using h0
  have h1' : DataW.trod enc Tryd.prog W 0 (fun _ => true) true n 23 [av] = some (d1, p1) := by simpa using h1
  obtain ⟨len, V, D, Pl, m, hs, hb, hq⟩ := trod_slS Tryd.underlying22 (s := 2) (by kernel_rfl) (by decide) h0' fun m hm => hr m (by simp [hm])
  obtain ⟨len2, V2, D2, Pl2, m2, hs2, hb2, hq2⟩ := trod_slS Tryd.underlying23 (s := 2) (by kernel_rfl) (by decide) h1' fun m hm => hr m (by simp [hm])
  have key : ∀ i, i < len → ∃ p : ByteArray × ByteArray, V i = [.string p.1, .string p.2] ∧ p.1.size + p.2.size ≤ Rows.uptoBulk (D i) := by
    intro i hi
    obtain ⟨g1, g2, g3⟩ := hq i hi
    obtain ⟨z0, z1, n3, hz, _, k0, k1⟩ := trod_struct2 Tryd.underlying46 g2
    simp only [Prod.mk.injEq] at hz
    match hv : V i, g1 with
    | [c0, c1], _ =>
      rw [hv] at k0 k1
      simp only [eS] at k0 k1
      obtain ⟨a, ka, da, _⟩ := DataW.trod_string Tryd.underlying9 k0
      obtain ⟨b, kb, db, _⟩ := DataW.trod_string Tryd.underlying9 k1
      subst da db
      simp at ka kb
      subst ka kb
      refine ⟨(a, b), rfl, ?_⟩
      rw [hz.1]
      have e1 : a.data.toList.length = a.size := by rw [Array.length_toList]; rfl
      have e2 : b.data.toList.length = b.size := by rw [Array.length_toList]; rfl
      simp only [Rows.uptoBulk, Rows.uptoBulkAll]
      omega
  obtain ⟨S, hS⟩ := choose_lt (α := ByteArray × ByteArray) (p := fun i p => V i = [.string p.1, .string p.2] ∧ p.1.size + p.2.size ≤ Rows.uptoBulk (D i)) key
  have key2 : ∀ i, i < len2 → ∃ p : At × Value, V2 i = [.string p.1.typ, p.2] ∧ Sl W 1 p.2 p.1.vals.length (L.strs p.1.vals) ∧ p.1.typ.size ≤ Rows.uptoBulk (D2 i) ∧ p.1.vals.length ≤ Rows.uptoBulk (D2 i) ∧ ∀ v ∈ p.1.vals, v.size ≤ Rows.uptoBulk (D2 i) := by
    intro i hi
    obtain ⟨g1, g2, g3⟩ := hq2 i hi
    obtain ⟨z0, z1, n3, hz, _, k0, k1⟩ := trod_struct2 Tryd.underlying36 g2
    simp only [Prod.mk.injEq] at hz
    rw [hz.1] at g3
    simp only [DataW.weights, Tryd.underlying36, DataW.weightsEach, List.map_cons] at g3
    match hv : V2 i, g1 with
    | [c0, c1], _ =>
      rw [hv] at k0 k1
      simp only [eS, eL] at k0 k1
      obtain ⟨a, ka, da, _⟩ := DataW.trod_string Tryd.underlying9 k0
      subst da
      simp at ka
      subst ka
      have k1' : DataW.trod enc Tryd.prog W 0 (fun _ => true) true n3 28 [c1] = some (z1.1, z1.2) := by simpa using k1
      obtain ⟨ss, hss, hl, hv2⟩ := trod_strsB Tryd.underlying28 Tryd.underlying9 eS k1' fun m hm => g3 m (by simp [hm])
      have e1 : a.data.toList.length = a.size := by rw [Array.length_toList]; rfl
      refine ⟨(⟨a, ss⟩, c1), rfl, hss, ?_, ?_, ?_⟩
      · rw [hz.1]; simp only [Rows.uptoBulk, Rows.uptoBulkAll]; omega
      · rw [hz.1]; simp only [Rows.uptoBulk, Rows.uptoBulkAll]; show ss.length ≤ _; omega
      · intro v hm
        have := hv2 v hm
        rw [hz.1]; simp only [Rows.uptoBulk, Rows.uptoBulkAll]; omega
  obtain ⟨T, hT⟩ := choose_lt (α := At × Value) (p := fun i p => V2 i = [.string p.1.typ, p.2] ∧ Sl W 1 p.2 p.1.vals.length (L.strs p.1.vals) ∧ p.1.typ.size ≤ Rows.uptoBulk (D2 i) ∧ p.1.vals.length ≤ Rows.uptoBulk (D2 i) ∧ ∀ v ∈ p.1.vals, v.size ≤ Rows.uptoBulk (D2 i)) key2
  have eD1 : (List.range len).flatMap V = dcl ((List.range len).map S) := by
    rw [dcl_flat, List.flatMap_map]
    exact flat_congr fun i hi => (hS i (by simpa using hi)).1
  have eA1 : (List.range len2).flatMap V2 = acl ((List.range len2).map T) := by
    rw [acl_flat, List.flatMap_map]
    exact flat_congr fun i hi => (hT i (by simpa using hi)).1
  rw [eD1] at hs
  rw [eA1] at hs2
  have bd := bulk_len ((List.range len).map D)
  have ba := bulk_len ((List.range len2).map D2)
  have bm : ∀ i, i < len → Rows.uptoBulk (D i) ≤ Rows.uptoBulkAll ((List.range len).map D) := fun i hi => bulk_mem (List.mem_map.2 ⟨i, List.mem_range.2 hi, rfl⟩)
  have bm2 : ∀ i, i < len2 → Rows.uptoBulk (D2 i) ≤ Rows.uptoBulkAll ((List.range len2).map D2) := fun i hi => bulk_mem (List.mem_map.2 ⟨i, List.mem_range.2 hi, rfl⟩)
  simp only [List.length_map, List.length_range] at bd ba
  refine ⟨dv, av, ⟨(List.range len).map S, ((List.range len2).map T).map Prod.fst⟩, rfl, ⟨by simpa using hs, (List.range len2).map T, rfl, by simpa using hs2, fun p hp => ?_⟩, ⟨?_, fun p hp => ?_, ?_, fun a ha => ?_, ?_, fun a ha v hv => ?_⟩⟩
  · obtain ⟨i, hi, rfl⟩ := List.mem_map.1 hp
    exact (hT i (by simpa using hi)).2.1
  · simp only [List.length_map, List.length_range]; omega
  · obtain ⟨i, hi, rfl⟩ := List.mem_map.1 hp
    have hi := List.mem_range.1 hi
    have h1 := (hS i hi).2
    have h2 := bm i hi
    exact ⟨by omega, by omega⟩
  · simp only [List.length_map, List.length_range]; omega
  · obtain ⟨q, hq0, rfl⟩ := List.mem_map.1 ha
    obtain ⟨i, hi, rfl⟩ := List.mem_map.1 hq0
    have hi := List.mem_range.1 hi
    have h1 := (hT i hi).2.2.1
    have h2 := bm2 i hi
    omega
  · have := sum_bulk D2 (fun i => (T i).1) len2 fun i hi => (hT i hi).2.2.2.1
    rw [List.map_map] at this ⊢
    rw [List.map_map]
    simp only [Function.comp_def] at this ⊢
    omega
  · obtain ⟨q, hq0, rfl⟩ := List.mem_map.1 ha
    obtain ⟨i, hi, rfl⟩ := List.mem_map.1 hq0
    have hi := List.mem_range.1 hi
    have h1 := (hT i hi).2.2.2.2 v hv
    have h2 := bm2 i hi
    omega
end
end Go.Proofs.YtindlfiifckdnaaDoor.Sc
