/-
  An element of a slice that is read; rows of bytes that came in. Over any program.
-/
import Derived.Test.YtkbfjgmgckbogaaF1
import Derived.Deep.Matrix
namespace Go.Proofs.Ytkbfjgmgckbogaa.L
open Go.RowKit Go.ChangeShapes Go.WideShapes Go.Deep
section
variable {P : Program} {w w' : World} {v : Value} {n s : Nat} {xs : List Value}
/-- an element of one cell -/
theorem Sl.at1 (h : Sl w 1 v n xs) {t e : TypeId} (ht : P.underlying t = some (.slice e)) (hs : (P.info? e).map (fun i => i.size) = some 1) (k : Nat) (hk : k < n) :
    ∃ (A : Addr) (u : Value), (∀ w' : World, (Instr.indexAt t v (.int .i64 (k : Int))).run P w' = .ok (.pointer (some A)) w') ∧ some A.block = v.ownBlock ∧ w.cell? A = some u ∧ Hid (u = xs.getD k undef) := by
  obtain ⟨A, hA, hblk, hcell⟩ := run_indexAt_sl (P := P) h ht hs .i64 (k : Int) (by omega) (by omega)
  have hc := hcell 0 (by omega)
  simp only [add_zero, Int.toNat_natCast, Nat.mul_one, Nat.add_zero] at hc
  exact ⟨A, _, hA, hblk, hc, Lib.hid rfl⟩
theorem Sl.at8 {l : List UInt8} (h : Sl w 1 v l.length (u8s l)) {t e : TypeId} (ht : P.underlying t = some (.slice e)) (hs : (P.info? e).map (fun i => i.size) = some 1) (k : Nat) (hk : k < l.length) :
    ∃ (A : Addr) (x : UInt8), (∀ w' : World, (Instr.indexAt t v (.int .i64 (k : Int))).run P w' = .ok (.pointer (some A)) w') ∧ some A.block = v.ownBlock ∧ w.cell? A = some (.int .u8 x.toNat) ∧ Hid (x = l.getD k 0) ∧ x.toNat < 256 := by
  obtain ⟨A, u, hA, hblk, hc, hu⟩ := h.at1 (P := P) ht hs k hk
  rw [hu.out, u8s_get _ _ hk] at hc
  exact ⟨A, _, hA, hblk, hc, Lib.hid rfl, UInt8.toNat_lt _⟩
/-- the same, at a literal index -/
theorem Sl.at8' {l : List UInt8} (h : Sl w 1 v l.length (u8s l)) {t e : TypeId} (ht : P.underlying t = some (.slice e)) (hs : (P.info? e).map (fun i => i.size) = some 1) (k : Nat) (i : Int) (hi : i = (k : Int)) (hk : k < l.length) :
    ∃ (A : Addr) (x : UInt8), (∀ w' : World, (Instr.indexAt t v (.int .i64 i)).run P w' = .ok (.pointer (some A)) w') ∧ some A.block = v.ownBlock ∧ w.cell? A = some (.int .u8 x.toNat) ∧ Hid (x = l.getD k 0) ∧ x.toNat < 256 := by
  subst hi
  exact h.at8 ht hs k hk
theorem Sl.atI {zs : List Int} (h : Sl w 1 v zs.length (zs.map (Value.int .i64))) {t e : TypeId} (ht : P.underlying t = some (.slice e)) (hs : (P.info? e).map (fun i => i.size) = some 1) (k : Nat) (hk : k < zs.length) :
    ∃ (A : Addr) (z : Int), (∀ w' : World, (Instr.indexAt t v (.int .i64 (k : Int))).run P w' = .ok (.pointer (some A)) w') ∧ some A.block = v.ownBlock ∧ w.cell? A = some (.int .i64 z) ∧ Hid (z = zs.getD k 0) := by
  obtain ⟨A, u, hA, hblk, hc, hu⟩ := h.at1 (P := P) ht hs k hk
  rw [hu.out] at hc
  simp only [List.getD, List.getElem?_map, List.getElem?_eq_getElem hk, Option.map_some, Option.getD_some] at hc
  exact ⟨A, _, hA, hblk, hc, Lib.hid (by simp [List.getD, hk])⟩
theorem Sl.atI0 {zs : List Int} (h : Sl w 1 v zs.length (zs.map (Value.int .i64))) {t e : TypeId} (ht : P.underlying t = some (.slice e)) (hs : (P.info? e).map (fun i => i.size) = some 1) (hk : 0 < zs.length) :
    ∃ (A : Addr) (z : Int), (∀ w' : World, (Instr.indexAt t v (.int .i64 0)).run P w' = .ok (.pointer (some A)) w') ∧ some A.block = v.ownBlock ∧ w.cell? A = some (.int .i64 z) ∧ Hid (z = zs.getD 0 0) := h.atI ht hs 0 hk
theorem Sl.atI1 {zs : List Int} (h : Sl w 1 v zs.length (zs.map (Value.int .i64))) {t e : TypeId} (ht : P.underlying t = some (.slice e)) (hs : (P.info? e).map (fun i => i.size) = some 1) (k : Nat) (hk : k + 1 < zs.length) :
    ∃ (A : Addr) (z : Int), (∀ w' : World, (Instr.indexAt t v (.int .i64 ((k : Int) + 1))).run P w' = .ok (.pointer (some A)) w') ∧ some A.block = v.ownBlock ∧ w.cell? A = some (.int .i64 z) ∧ Hid (z = zs.getD (k + 1) 0) := h.atI ht hs (k + 1) hk
/-- rows of bytes, read -/
def SlRows (w : World) (v : Value) (ls : List (List UInt8)) : Prop :=
  ∃ vs : List Value, Sl w 1 v ls.length vs ∧ ∀ i, i < ls.length → Sl w 1 (vs.getD i undef) (ls.getD i []).length (u8s (ls.getD i []))
theorem SlRows.below' {ls : List (List UInt8)} (h : SlRows w v ls) (hb : Below w.heap.size w w') : SlRows w' v ls := by
  obtain ⟨vs, h1, h2⟩ := h
  exact ⟨vs, h1.below' hb, fun i hi => (h2 i hi).below' hb⟩
theorem SlRows.at {ls : List (List UInt8)} (h : SlRows w v ls) {t e : TypeId} (ht : P.underlying t = some (.slice e)) (hs : (P.info? e).map (fun i => i.size) = some 1) (k : Nat) (hk : k < ls.length) :
    ∃ (A : Addr) (u : Value) (l : List UInt8), (∀ w' : World, (Instr.indexAt t v (.int .i64 (k : Int))).run P w' = .ok (.pointer (some A)) w') ∧ some A.block = v.ownBlock ∧ w.cell? A = some u ∧ Hid (l = ls.getD k []) ∧ Sl w 1 u l.length (u8s l) := by
  obtain ⟨vs, h1, h2⟩ := h
  obtain ⟨A, u, hA, hblk, hc, hu⟩ := h1.at1 (P := P) ht hs k hk
  exact ⟨A, u, _, hA, hblk, hc, Lib.hid rfl, by rw [hu.out]; exact h2 k hk⟩
theorem SlRows.run_len {ls : List (List UInt8)} (h : SlRows w v ls) {t e : TypeId} (ht : P.underlying t = some (.slice e)) : ∀ (ty : TypeId) (w' : World), (Builtin.len_ #[t] ty #[v]).run P w' = .ok (.int .i64 ls.length) w' := by
  obtain ⟨vs, h1, h2⟩ := h
  exact h1.run_len ht
theorem SlRows.le {ls : List (List UInt8)} (h : SlRows w v ls) : ls.length ≤ 9223372036854775807 := by
  obtain ⟨vs, h1, h2⟩ := h
  have := h1.le
  unfold maxLen at this
  omega
theorem Sl.le' (h : Sl w s v n xs) : n ≤ 9223372036854775807 := by
  have := h.le
  unfold maxLen at this
  omega
/-- the first of some rows -/
theorem SlRows.ahead {ls : List (List UInt8)} (h : SlRows w v ls) {t e : TypeId} (ht : P.underlying t = some (.slice e)) (hs : (P.info? e).map (fun i => i.size) = some 1) (m : Nat) (hm : m ≤ ls.length) (hi : Value) (hhi : ∃ k, hi = .int k (m : Int)) :
    ∃ v', (∀ w' : World, (Instr.slice t v none (some hi) none).run P w' = .ok v' w') ∧ SlRows w v' (ls.take m) := by
  obtain ⟨vs, h1, h2⟩ := h
  obtain ⟨k, rfl⟩ := hhi
  obtain ⟨v', h3, h4, _⟩ := run_slice_sl (P := P) h1 ht hs none (some (.int k m)) 0 m (.inl ⟨rfl, rfl⟩) (.inr ⟨_, rfl⟩) (Nat.zero_le _) hm
  have hl : (ls.take m).length = m := by rw [List.length_take]; omega
  refine ⟨v', h3, vs.take m, by rw [hl]; simpa using h4, fun i hi => ?_⟩
  have hi' : i < m := by omega
  have := h2 i (by omega)
  simpa [List.getD, List.getElem?_take, hi'] using this
/-- rows that came in are read wherever only new memory has turned -/
theorem SlRows.reads {W0 : World} {ls : List (List UInt8)} (h : SlRows W0 v ls) : ∃ vs, ∀ R, ReadsRows W0 R v vs (ls.map u8s) := by
  obtain ⟨vs, h1, h2⟩ := h
  refine ⟨vs, fun R w hw => ⟨by simpa using h1.below' hw.old, fun i hi => ?_⟩⟩
  have hi' : i < ls.length := by simpa using hi
  have := (h2 i hi').below' hw.old
  have e : (ls.map u8s).getD i [] = u8s (ls.getD i []) := by simp [List.getD, hi']
  rw [e]
  simpa [u8s] using this
end
section
variable {H : Type} {enc : TypeId × Value → H} {P : Program} {W : World} {r : Reach} {b0 : Nat}
/-- a slice of one-cell elements that is read, wherever it lies -/
theorem trod_sl1 {t e : TypeId} {v : Value} {d : DataW H} {ps : List MemPlace} {fuel : Nat} (ht : P.underlying t = some (.slice e)) (ce : P.cellsOf e = 1)
    (hf : DataW.trod enc P W 0 (fun _ => true) true fuel t [v] = some (d, ps)) (hr : ∀ n ∈ d.weights P t, n ≤ reachBytes) :
    ∃ (vs : List Value) (D : Nat → DataW H) (Pl : Nat → List MemPlace) (m : Nat), Sl W 1 v vs.length vs ∧ vs.length * P.bytesOf e ≤ reachBytes ∧
      ∀ i, i < vs.length → DataW.trod enc P W 0 (fun _ => true) true m e [vs.getD i undef] = some (D i, Pl i) ∧ ∀ n ∈ (D i).weights P e, n ≤ reachBytes := by
  rcases open_slice1 ht ce hf with ⟨hcs, _⟩ | ⟨a, len, cap, m, n, V, D, Pl, hcs, _, hl, hm, hmm, hx, hc⟩
  · simp only [List.cons.injEq, and_true] at hcs
    subst hcs
    exact ⟨[], fun _ => .nil, fun _ => [], 0, Sl.nil _ _, by simp, by simp⟩
  · simp only [List.cons.injEq, and_true] at hcs
    subst hcs
    simp only [if_true] at hmm
    subst hmm
    simp only [Prod.mk.injEq] at hx
    obtain ⟨rfl, _⟩ := hx
    have hw := weights_slice ht hr
    refine ⟨(List.range len).map V, D, Pl, n, ⟨by simp, some a, _, by simp, by simpa using hl, hm, (fun h => by cases h), fun a' ha j hj => ?_⟩, ?_, fun i hi => ?_⟩
    · cases ha
      simp at hj
      rw [(hc j (by omega)).1]
      simp [List.getD, hj]
    · refine Nat.le_trans ?_ hw.1
      simp only [List.length_map, List.length_range]
      exact Nat.mul_le_mul_right _ (by omega)
    · simp at hi
      refine ⟨?_, hw.2 (D i) (List.mem_map.2 ⟨i, by simpa using hi, rfl⟩)⟩
      have := (hc i (by omega)).2
      simpa [List.getD, hi] using this
theorem trod_bytes {t e : TypeId} {v : Value} {d : DataW H} {ps : List MemPlace} {fuel : Nat} (ht : P.underlying t = some (.slice e)) (he : P.underlying e = some (.int .u8)) (ce : P.cellsOf e = 1) (be : P.bytesOf e = 1)
    (hf : DataW.trod enc P W 0 (fun _ => true) true fuel t [v] = some (d, ps)) (hr : ∀ n ∈ d.weights P t, n ≤ reachBytes) :
    ∃ l : List UInt8, Sl W 1 v l.length (u8s l) ∧ l.length ≤ 140737488351232 := by
  obtain ⟨vs, D, Pl, m, hs, hb, hx⟩ := trod_sl1 ht ce hf hr
  have e1 : u8s (vs.map Value.u8of) = vs := by
    apply List.ext_getElem
    · simp [u8s]
    · intro i h1 h2
      obtain ⟨k, hk, _, hw⟩ := DataW.trod_int he (hx i h2).1
      have : vs[i] = .int .u8 k := by simpa [List.getD, h2] using hk
      simp only [u8s, List.getElem_map, this, Value.u8of]
      rw [toU8_wf (by simpa using hw)]
  refine ⟨vs.map Value.u8of, ?_, ?_⟩
  · rw [e1]; simpa using hs
  · rw [be] at hb; simpa [reachBytes] using hb
theorem arg_rows {t e q : TypeId} {v : Value} {d : DataW H} {ps : List MemPlace} (ht : P.underlying t = some (.slice e)) (he : P.underlying e = some (.slice q)) (hq : P.underlying q = some (.int .u8)) (ce : P.cellsOf e = 1) (be : P.bytesOf e = 24) (cq : P.cellsOf q = 1) (bq : P.bytesOf q = 1)
    (hval : Value.okWide P W r b0 t v) (h : DataW.Trod enc P W 0 (fun _ => true) true t v d ps) (hr : ∀ n ∈ d.weights P t, n ≤ reachBytes) :
    ∃ ls : List (List UInt8), SlRows W v ls ∧ ls.length * 24 ≤ 140737488351232 ∧ ∀ x ∈ ls, x.length ≤ 140737488351232 := by
  obtain ⟨vs, D, Pl, m, hs, hb, hx⟩ := arg_slice ht ce hval h hr
  have key : ∀ i, i < vs.length → ∃ l : List UInt8, Sl W 1 (vs.getD i undef) l.length (u8s l) ∧ l.length ≤ 140737488351232 := fun i hi => trod_bytes he hq cq bq (hx i hi).1 (hx i hi).2
  obtain ⟨f, hf⟩ := choose_lt key
  refine ⟨(List.range vs.length).map f, ⟨vs, by simpa using hs, fun i hi => ?_⟩, ?_, fun x hx' => ?_⟩
  · simp at hi
    have := (hf i hi).1
    simpa [List.getD, hi] using this
  · rw [be] at hb; simpa [reachBytes] using hb
  · obtain ⟨i, hi, rfl⟩ := List.mem_map.1 hx'
    exact (hf i (by simpa using hi)).2
end
end Go.Proofs.Ytkbfjgmgckbogaa.L
