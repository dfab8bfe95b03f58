/-
  Texts that the proofs of this seat stand on, one behind the other: contracts of functions and plain lemmas. Conditions: those that each theorem states.
-/
import Derived.Test.YtkbfjgmgckbogaaGreatF2
import Derived.Deep.Matrix
/-
  An element of a slice that is read; rows of bytes that came in. Over any program.
-/


namespace Go.Proofs.YtkbfjgmgckbogaaGreat.L
open Go.RowKit Go.ChangeShapes Go.WideShapes Go.Deep
section
variable {P : Program} {w w' : World} {v : Value} {n s : Nat} {xs : List Value}
/-- an element of one cell -/
theorem Sl.at1 (h : Sl w 1 v n xs) {t e : TypeId} (ht : P.underlying t = some (.slice e)) (hs : (P.info? e).map (fun i => i.size) = some 1) (k : Nat) (hk : k < n) :
    ∃ (A : Addr) (u : Value), (∀ w' : World, (Instr.indexAt t v (.int .i64 (k : Int))).run P w' = .ok (.pointer (some A)) w') ∧ some A.block = v.ownBlock ∧ w.cell? A = some u ∧ Hid (u = xs.getD k undef) := by
  obtain ⟨A, hA, hblk, hcell⟩ := run_indexAt_sl (P := P) h ht hs .i64 (k : Int) (by omega) (by omega)
  have hc := hcell 0 (by omega)
  simp only [add_zero, Int.toNat_natCast, Nat.mul_one, Nat.add_zero] at hc
  exact ⟨A, _, hA, hblk, hc, Lib.hid rfl⟩
theorem Sl.at8 {l : List UInt8} (h : Sl w 1 v l.length (u8s l)) {t e : TypeId} (ht : P.underlying t = some (.slice e)) (hs : (P.info? e).map (fun i => i.size) = some 1) (k : Nat) (hk : k < l.length) :
    ∃ (A : Addr) (x : UInt8), (∀ w' : World, (Instr.indexAt t v (.int .i64 (k : Int))).run P w' = .ok (.pointer (some A)) w') ∧ some A.block = v.ownBlock ∧ w.cell? A = some (.int .u8 x.toNat) ∧ Hid (x = l.getD k 0) ∧ x.toNat < 256 := by
  obtain ⟨A, u, hA, hblk, hc, hu⟩ := h.at1 (P := P) ht hs k hk
  rw [hu.out, u8s_get _ _ hk] at hc
  exact ⟨A, _, hA, hblk, hc, Lib.hid rfl, UInt8.toNat_lt _⟩
/-- the same, at a literal index -/
theorem Sl.at8' {l : List UInt8} (h : Sl w 1 v l.length (u8s l)) {t e : TypeId} (ht : P.underlying t = some (.slice e)) (hs : (P.info? e).map (fun i => i.size) = some 1) (k : Nat) (i : Int) (hi : i = (k : Int)) (hk : k < l.length) :
    ∃ (A : Addr) (x : UInt8), (∀ w' : World, (Instr.indexAt t v (.int .i64 i)).run P w' = .ok (.pointer (some A)) w') ∧ some A.block = v.ownBlock ∧ w.cell? A = some (.int .u8 x.toNat) ∧ Hid (x = l.getD k 0) ∧ x.toNat < 256 := by
  subst hi
  exact h.at8 ht hs k hk
theorem Sl.atI {zs : List Int} (h : Sl w 1 v zs.length (zs.map (Value.int .i64))) {t e : TypeId} (ht : P.underlying t = some (.slice e)) (hs : (P.info? e).map (fun i => i.size) = some 1) (k : Nat) (hk : k < zs.length) :
    ∃ (A : Addr) (z : Int), (∀ w' : World, (Instr.indexAt t v (.int .i64 (k : Int))).run P w' = .ok (.pointer (some A)) w') ∧ some A.block = v.ownBlock ∧ w.cell? A = some (.int .i64 z) ∧ Hid (z = zs.getD k 0) := by
  obtain ⟨A, u, hA, hblk, hc, hu⟩ := h.at1 (P := P) ht hs k hk
  rw [hu.out] at hc
  simp only [List.getD, List.getElem?_map, List.getElem?_eq_getElem hk, Option.map_some, Option.getD_some] at hc
  exact ⟨A, _, hA, hblk, hc, Lib.hid (by simp [List.getD, hk])⟩
theorem Sl.atI0 {zs : List Int} (h : Sl w 1 v zs.length (zs.map (Value.int .i64))) {t e : TypeId} (ht : P.underlying t = some (.slice e)) (hs : (P.info? e).map (fun i => i.size) = some 1) (hk : 0 < zs.length) :
    ∃ (A : Addr) (z : Int), (∀ w' : World, (Instr.indexAt t v (.int .i64 0)).run P w' = .ok (.pointer (some A)) w') ∧ some A.block = v.ownBlock ∧ w.cell? A = some (.int .i64 z) ∧ Hid (z = zs.getD 0 0) := h.atI ht hs 0 hk
theorem Sl.atI1 {zs : List Int} (h : Sl w 1 v zs.length (zs.map (Value.int .i64))) {t e : TypeId} (ht : P.underlying t = some (.slice e)) (hs : (P.info? e).map (fun i => i.size) = some 1) (k : Nat) (hk : k + 1 < zs.length) :
    ∃ (A : Addr) (z : Int), (∀ w' : World, (Instr.indexAt t v (.int .i64 ((k : Int) + 1))).run P w' = .ok (.pointer (some A)) w') ∧ some A.block = v.ownBlock ∧ w.cell? A = some (.int .i64 z) ∧ Hid (z = zs.getD (k + 1) 0) := h.atI ht hs (k + 1) hk
/-- rows of bytes, read -/
def SlRows (w : World) (v : Value) (ls : List (List UInt8)) : Prop :=
  ∃ vs : List Value, Sl w 1 v ls.length vs ∧ ∀ i, i < ls.length → Sl w 1 (vs.getD i undef) (ls.getD i []).length (u8s (ls.getD i []))
theorem SlRows.below' {ls : List (List UInt8)} (h : SlRows w v ls) (hb : Below w.heap.size w w') : SlRows w' v ls := by
  obtain ⟨vs, h1, h2⟩ := h
  exact ⟨vs, h1.below' hb, fun i hi => (h2 i hi).below' hb⟩
theorem SlRows.at {ls : List (List UInt8)} (h : SlRows w v ls) {t e : TypeId} (ht : P.underlying t = some (.slice e)) (hs : (P.info? e).map (fun i => i.size) = some 1) (k : Nat) (hk : k < ls.length) :
    ∃ (A : Addr) (u : Value) (l : List UInt8), (∀ w' : World, (Instr.indexAt t v (.int .i64 (k : Int))).run P w' = .ok (.pointer (some A)) w') ∧ some A.block = v.ownBlock ∧ w.cell? A = some u ∧ Hid (l = ls.getD k []) ∧ Sl w 1 u l.length (u8s l) := by
  obtain ⟨vs, h1, h2⟩ := h
  obtain ⟨A, u, hA, hblk, hc, hu⟩ := h1.at1 (P := P) ht hs k hk
  exact ⟨A, u, _, hA, hblk, hc, Lib.hid rfl, by rw [hu.out]; exact h2 k hk⟩
theorem SlRows.run_len {ls : List (List UInt8)} (h : SlRows w v ls) {t e : TypeId} (ht : P.underlying t = some (.slice e)) : ∀ (ty : TypeId) (w' : World), (Builtin.len_ #[t] ty #[v]).run P w' = .ok (.int .i64 ls.length) w' := by
  obtain ⟨vs, h1, h2⟩ := h
  exact h1.run_len ht
theorem SlRows.le {ls : List (List UInt8)} (h : SlRows w v ls) : ls.length ≤ 9223372036854775807 := by
  obtain ⟨vs, h1, h2⟩ := h
  have := h1.le
  unfold maxLen at this
  omega
theorem Sl.le' (h : Sl w s v n xs) : n ≤ 9223372036854775807 := by
  have := h.le
  unfold maxLen at this
  omega
/-- the first of some rows -/
theorem SlRows.ahead {ls : List (List UInt8)} (h : SlRows w v ls) {t e : TypeId} (ht : P.underlying t = some (.slice e)) (hs : (P.info? e).map (fun i => i.size) = some 1) (m : Nat) (hm : m ≤ ls.length) (hi : Value) (hhi : ∃ k, hi = .int k (m : Int)) :
    ∃ v', (∀ w' : World, (Instr.slice t v none (some hi) none).run P w' = .ok v' w') ∧ SlRows w v' (ls.take m) := by
  obtain ⟨vs, h1, h2⟩ := h
  obtain ⟨k, rfl⟩ := hhi
  obtain ⟨v', h3, h4, _⟩ := run_slice_sl (P := P) h1 ht hs none (some (.int k m)) 0 m (.inl ⟨rfl, rfl⟩) (.inr ⟨_, rfl⟩) (Nat.zero_le _) hm
  have hl : (ls.take m).length = m := by rw [List.length_take]; omega
  refine ⟨v', h3, vs.take m, by rw [hl]; simpa using h4, fun i hi => ?_⟩
  have hi' : i < m := by omega
  have := h2 i (by omega)
  simpa [List.getD, List.getElem?_take, hi'] using this
/-- rows that came in are read wherever only new memory has turned -/
theorem SlRows.reads {W0 : World} {ls : List (List UInt8)} (h : SlRows W0 v ls) : ∃ vs, ∀ R, ReadsRows W0 R v vs (ls.map u8s) := by
  obtain ⟨vs, h1, h2⟩ := h
  refine ⟨vs, fun R w hw => ⟨by simpa using h1.below' hw.old, fun i hi => ?_⟩⟩
  have hi' : i < ls.length := by simpa using hi
  have := (h2 i hi').below' hw.old
  have e : (ls.map u8s).getD i [] = u8s (ls.getD i []) := by simp [List.getD, hi']
  rw [e]
  simpa [u8s] using this
end
section
variable {H : Type} {enc : TypeId × Value → H} {P : Program} {W : World} {r : Reach} {b0 : Nat}
/-- a slice of one-cell elements that is read, wherever it lies -/
theorem trod_sl1 {t e : TypeId} {v : Value} {d : DataW H} {ps : List MemPlace} {fuel : Nat} (ht : P.underlying t = some (.slice e)) (ce : P.cellsOf e = 1)
    (hf : DataW.trod enc P W 0 (fun _ => true) true fuel t [v] = some (d, ps)) (hr : ∀ n ∈ d.weights P t, n ≤ reachBytes) :
    ∃ (vs : List Value) (D : Nat → DataW H) (Pl : Nat → List MemPlace) (m : Nat), Sl W 1 v vs.length vs ∧ vs.length * P.bytesOf e ≤ reachBytes ∧
      ∀ i, i < vs.length → DataW.trod enc P W 0 (fun _ => true) true m e [vs.getD i undef] = some (D i, Pl i) ∧ ∀ n ∈ (D i).weights P e, n ≤ reachBytes := by
  rcases open_slice1 ht ce hf with ⟨hcs, _⟩ | ⟨a, len, cap, m, n, V, D, Pl, hcs, _, hl, hm, hmm, hx, hc⟩
  · simp only [List.cons.injEq, and_true] at hcs
    subst hcs
    exact ⟨[], fun _ => .nil, fun _ => [], 0, Sl.nil _ _, by simp, by simp⟩
  · simp only [List.cons.injEq, and_true] at hcs
    subst hcs
    simp only [if_true] at hmm
    subst hmm
    simp only [Prod.mk.injEq] at hx
    obtain ⟨rfl, _⟩ := hx
    have hw := weights_slice ht hr
    refine ⟨(List.range len).map V, D, Pl, n, ⟨by simp, some a, _, by simp, by simpa using hl, hm, (fun h => by cases h), fun a' ha j hj => ?_⟩, ?_, fun i hi => ?_⟩
    · cases ha
      simp at hj
      rw [(hc j (by omega)).1]
      simp [List.getD, hj]
    · refine Nat.le_trans ?_ hw.1
      simp only [List.length_map, List.length_range]
      exact Nat.mul_le_mul_right _ (by omega)
    · simp at hi
      refine ⟨?_, hw.2 (D i) (List.mem_map.2 ⟨i, by simpa using hi, rfl⟩)⟩
      have := (hc i (by omega)).2
      simpa [List.getD, hi] using this
theorem trod_bytes {t e : TypeId} {v : Value} {d : DataW H} {ps : List MemPlace} {fuel : Nat} (ht : P.underlying t = some (.slice e)) (he : P.underlying e = some (.int .u8)) (ce : P.cellsOf e = 1) (be : P.bytesOf e = 1)
    (hf : DataW.trod enc P W 0 (fun _ => true) true fuel t [v] = some (d, ps)) (hr : ∀ n ∈ d.weights P t, n ≤ reachBytes) :
    ∃ l : List UInt8, Sl W 1 v l.length (u8s l) ∧ l.length ≤ 140737488351232 := by
  obtain ⟨vs, D, Pl, m, hs, hb, hx⟩ := trod_sl1 ht ce hf hr
  have e1 : u8s (vs.map Value.u8of) = vs := by
    apply List.ext_getElem
    · simp [u8s]
    · intro i h1 h2
      obtain ⟨k, hk, _, hw⟩ := DataW.trod_int he (hx i h2).1
      have : vs[i] = .int .u8 k := by simpa [List.getD, h2] using hk
      simp only [u8s, List.getElem_map, this, Value.u8of]
      rw [toU8_wf (by simpa using hw)]
  refine ⟨vs.map Value.u8of, ?_, ?_⟩
  · rw [e1]; simpa using hs
  · rw [be] at hb; simpa [reachBytes] using hb
theorem arg_rows {t e q : TypeId} {v : Value} {d : DataW H} {ps : List MemPlace} (ht : P.underlying t = some (.slice e)) (he : P.underlying e = some (.slice q)) (hq : P.underlying q = some (.int .u8)) (ce : P.cellsOf e = 1) (be : P.bytesOf e = 24) (cq : P.cellsOf q = 1) (bq : P.bytesOf q = 1)
    (hval : Value.okWide P W r b0 t v) (h : DataW.Trod enc P W 0 (fun _ => true) true t v d ps) (hr : ∀ n ∈ d.weights P t, n ≤ reachBytes) :
    ∃ ls : List (List UInt8), SlRows W v ls ∧ ls.length * 24 ≤ 140737488351232 ∧ ∀ x ∈ ls, x.length ≤ 140737488351232 := by
  obtain ⟨vs, D, Pl, m, hs, hb, hx⟩ := arg_slice ht ce hval h hr
  have key : ∀ i, i < vs.length → ∃ l : List UInt8, Sl W 1 (vs.getD i undef) l.length (u8s l) ∧ l.length ≤ 140737488351232 := fun i hi => trod_bytes he hq cq bq (hx i hi).1 (hx i hi).2
  obtain ⟨f, hf⟩ := choose_lt key
  refine ⟨(List.range vs.length).map f, ⟨vs, by simpa using hs, fun i hi => ?_⟩, ?_, fun x hx' => ?_⟩
  · simp at hi
    have := (hf i hi).1
    simpa [List.getD, hi] using this
  · rw [be] at hb; simpa [reachBytes] using hb
  · obtain ⟨i, hi, rfl⟩ := List.mem_map.1 hx'
    exact (hf i (by simpa using hi)).2
end
end Go.Proofs.YtkbfjgmgckbogaaGreat.L

/-
  append, to a slice that is held: the walk's law in one piece. Over any program.
-/

namespace Go.Proofs.YtkbfjgmgckbogaaGreat.L
open Go.RowKit
/-- what is known of a slice type's element -/
structure ElemOk (P : Program) (t e : TypeId) (s bytes : Nat) : Prop where
  sl : P.underlying t = some (.slice e)
  info : ∃ (i : TypeInfo) (z : Value), P.info? e = some i ∧ i.zero = some z ∧ i.size = s ∧ i.bytes = bytes ∧ z.cells.size = s
  pos : 0 < s
theorem ElemOk.size {P : Program} {t e : TypeId} {s bytes : Nat} (E : ElemOk P t e s bytes) : (P.info? e).map (fun i => i.size) = some s := by
  obtain ⟨i, z, h1, _, h2, _⟩ := E.info
  rw [h1]; simp [h2]
theorem elemOk {P : Program} {t e : TypeId} {s bytes : Nat} {z : Value} (ht : P.underlying t = some (.slice e)) (hi : (P.info? e).map (fun i => (i.zero, i.size, i.bytes)) = some (some z, s, bytes)) (hz : z.cells.size = s) (hp : 0 < s) : ElemOk P t e s bytes := by
  obtain ⟨i, h1, h2⟩ := Option.map_eq_some_iff.1 hi
  simp only [Prod.mk.injEq] at h2
  exact ⟨ht, ⟨i, z, h1, h2.1, h2.2.1, h2.2.2, hz⟩, hp⟩
section
variable {P : Program} {W0 w w' : World} {R : Asrt} {t e : TypeId} {s bytes n m B : Nat} {v vx : Value} {xs news : List Value}
variable {ops : Array Oper} {rest : List Oper} {o : Oper} {a : Act} {Q : Exit → Act → World → Prop}
theorem wpList_app (E : ElemOk P t e s bytes) (H : Hold W0 ((Row e s v n xs).sep R) w) (hgd : o.guard = none) (sx x : Operand)
    (ho : o.op = .call { callee := .builtin .append, args := #[sx, x], argTypes := #[t, t] }) (hs : a.eval sx = v) (hx : a.eval x = vx) (hsx : Sl w s vx m news) (h1 : ∀ u ∈ news, u.oneCell' = true)
    (h63 : n + m ≤ 140737488355328) (hlen : (n + m) * bytes ≤ 140737488355328)
    (h : ∀ v' ys w', Hid (ys = xs ++ news) → Hold W0 ((Row e s v' (n + m) ys).sep R) w' → wpList P ops Q rest (a.put o.dst v') w') : wpList P ops Q (o :: rest) a w := by
  obtain ⟨i, z, hi, hz, hsz, hby, hzs⟩ := E.info
  refine wpList_append_row w hgd sx x t ho e i z s bytes E.sl hi hz hsz hby hzs E.pos v n xs hs H.own vx m news hx hsx h1 (by unfold maxLen; omega) hlen ?_
  intro v' w' hown hk hsub _
  exact h v' _ w' (Lib.hid rfl) (H.grow hown hk hsub)
/-- behind a literal -/
theorem wpList_appLit (E : ElemOk P t e 1 bytes) {w0 : World} (H : Hold W0 ((Row e 1 v n xs).sep R) w0) (news : List Value) (hgd : o.guard = none) (sx x : Operand)
    (ho : o.op = .call { callee := .builtin .append, args := #[sx, x], argTypes := #[t, t] }) (hw : w = w0.alloc (.cells news.toArray e)) (hs : a.eval sx = v) (hx : a.eval x = .slice (some ⟨w0.heap.size, 0, none⟩) news.length news.length) (h1 : ∀ u ∈ news, u.oneCell' = true)
    (h63 : n + news.length ≤ 140737488355328) (hlen : (n + news.length) * bytes ≤ 140737488355328)
    (h : ∀ v' ys w', Hid (ys = xs ++ news) → Hold W0 ((Row e 1 v' (n + news.length) ys).sep R) w' → wpList P ops Q rest (a.put o.dst v') w') : wpList P ops Q (o :: rest) a w := by
  subst hw
  exact wpList_app E (H.keeps ((Below.refl _ _).alloc (Nat.le_refl _) _)) hgd sx x ho hs hx (sl_built w0 news e (by unfold maxLen; omega)) h1 h63 hlen h
/-- what is owned is held -/
theorem Hold.of_own (h : Own w' w.heap.size e s v n xs) (hb : Below w.heap.size w w') : Hold w ((Row e s v n xs).sep Asrt.emp) w' := (Hold.start w).addRow hb h
/-- onto an empty slice without room, wherever it points -/
theorem wpList_appZ (E : ElemOk P t e 1 bytes) {w0 : World} (p0 : Addr) (news : List Value) (hn0 : 0 < news.length) (hgd : o.guard = none) (sx x : Operand)
    (ho : o.op = .call { callee := .builtin .append, args := #[sx, x], argTypes := #[t, t] }) (hw : w = w0.alloc (.cells news.toArray e)) (hs : a.eval sx = .slice (some p0) 0 0) (hx : a.eval x = .slice (some ⟨w0.heap.size, 0, none⟩) news.length news.length)
    (hlen : news.length * bytes ≤ 140737488355328) (hl2 : news.length ≤ 140737488355328)
    (h : ∀ v' w', Hold w ((Row e 1 v' news.length news).sep Asrt.emp) w' → wpList P ops Q rest (a.put o.dst v') w') : wpList P ops Q (o :: rest) a w := by
  subst hw
  obtain ⟨i, z, hi, hz, hsz, hby, hzs⟩ := E.info
  have hsl := sl_built w0 news e (by unfold maxLen; omega)
  obtain ⟨_, ao, c, hv, _, _, _, hcell⟩ := hsl
  simp only [Value.slice.injEq] at hv
  obtain ⟨rfl, _, rfl⟩ := hv
  refine wpList_plain hgd fun K hK => ?_
  have hr := run_append_grow (P := P) (w := w0.alloc (.cells news.toArray e)) t o.type e i z E.sl hi hz p0 0 0 [] (by simp) (by simp) ⟨w0.heap.size, 0, none⟩ news.length news.length news (by rw [hsz]; simp)
    (fun j u hj => by
      have hjl := (List.getElem?_eq_some_iff.1 hj).1
      rw [hcell _ rfl j (by omega), List.getD, hj]
      rfl) (by omega) (by omega) (growslice_fits (by omega) (by rw [hby]; simpa using hlen))
  unfold Oper.wp execOp
  simp only [ho, resolve, invoke, builtin, Sem.run_bind, Sem.run_pure, Result.andThen_ok, List.map_toArray, List.map_cons, List.map_nil, hs, hx, hr]
  refine hK _ _ (h _ _ (Hold.of_own (e := e) ?_ (((Below.refl _ (w0.alloc (.cells news.toArray e))).drew).alloc (Nat.le_refl _) _)))
  have hge := grownCap_ge (w0.alloc (.cells news.toArray e)) (0 + news.length) 0 e
  have hcm : grownCap (w0.alloc (.cells news.toArray e)) (0 + news.length) 0 e ≤ maxLen := grownCap_le_maxLen _ _ _ _ (by unfold maxLen; omega)
  refine ⟨by simp, .inr ⟨_, _, _, (by rw [Nat.zero_add]), Nat.le_refl _, Rowed.of (heap_alloc_new (w0.alloc (.cells news.toArray e)).drew _) _, by omega, hcm, ?_, ?_⟩⟩
  · simp only [Array.size_append, List.size_toArray, size_zeroCells, hzs, List.length_nil]
    omega
  · simp only [Array.toList_append, List.nil_append, Nat.mul_one]
    exact List.take_left
/-- nothing yet: a nil slice -/
theorem Hold.addNil (h : Hold W0 R w) (e : TypeId) (s : Nat) : Hold W0 ((Row e s (.slice none 0 0) 0 []).sep R) w :=
  h.add (Below.refl _ _) (A := Row e s (.slice none 0 0) 0 []) (F := fun _ => False) ⟨Own.nil _ _ _ _, fun k => by simp [Value.ownBlock]⟩ fun _ h => h.elim
theorem Hold.fin (h : Hold W0 ((Row e s v n xs).sep R) w) : Own w W0.heap.size e s v n xs ∧ Below W0.heap.size W0 w := by
  obtain ⟨F, ⟨h1, h2⟩, h3, _⟩ := h.take
  exact ⟨h1.from fun k hk => h3 k ((h2 k).2 hk), h.old⟩
/-- the beginning of what is owned -/
theorem run_slice_own (h : Own w B e s v n xs) {t e' : TypeId} (ht : P.underlying t = some (.slice e')) (hs : (P.info? e').map (fun i => i.size) = some s) (m : Nat) (hm : m ≤ n) (hi : Value) (hhi : ∃ k, hi = .int k (m : Int)) :
    ∃ v', (∀ w', (Instr.slice t v none (some hi) none).run P w' = .ok v' w') ∧ Own w B e s v' m (xs.take (m * s)) ∧ v'.ownBlock = v.ownBlock := by
  obtain ⟨ao, cap, rfl⟩ := h.shape
  have hle : n ≤ cap ∧ cap ≤ maxLen := by
    obtain ⟨_, ao', cap', e, h1, h2, _⟩ := h.sl
    simp only [Value.slice.injEq] at e
    omega
  obtain ⟨inf, hif, hsz⟩ := Option.map_eq_some_iff.1 hs
  obtain ⟨k, rfl⟩ := hhi
  refine ⟨.slice ao m cap, fun w' => ?_, h.take hm rfl, by cases ao <;> rfl⟩
  have e1 : m ≤ cap := by omega
  simp [Instr.slice, run_underlying ht, Instr.sliceBounds, run_sliceBound_if, sizeOf, typeInfo, hif, e1]
  cases ao <;> simp [add_zero]
theorem run_slice_lit {ao : Option Addr} {cap : Nat} (h : Own w B e s (.slice ao n cap) n xs) {t e' : TypeId} (ht : P.underlying t = some (.slice e')) (hs : (P.info? e').map (fun i => i.size) = some s) (m : Nat) (hm : m ≤ n) (hi : Value) (hhi : ∃ k, hi = .int k (m : Int)) :
    ∀ w', (Instr.slice t (.slice ao n cap) none (some hi) none).run P w' = .ok (.slice ao m cap) w' := by
  have hle : n ≤ cap ∧ cap ≤ maxLen := by
    obtain ⟨_, ao', cap', e, h1, h2, _⟩ := h.sl
    simp only [Value.slice.injEq] at e
    omega
  obtain ⟨inf, hif, hsz⟩ := Option.map_eq_some_iff.1 hs
  obtain ⟨k, rfl⟩ := hhi
  intro w'
  have e1 : m ≤ cap := by omega
  simp [Instr.slice, run_underlying ht, Instr.sliceBounds, run_sliceBound_if, sizeOf, typeInfo, hif, e1]
  cases ao <;> simp [add_zero]
/-- the beginning of what is owned, read -/
theorem Reads.take {ao : Option Addr} {cap : Nat} (hm : m ≤ n) : Reads W0 ((Row e s (.slice ao n cap) n xs).sep R) s (.slice ao m cap) m (xs.take (m * s)) := fun _ hw => (hw.own.take hm rfl).sl
/-- one object alone -/
theorem Hold.only {A : Asrt} (h : Hold W0 (A.sep R) w) : Hold W0 (A.sep Asrt.emp) w := by
  obtain ⟨h1, F, hF, F1, F2, h2, h3, h4, h5⟩ := h
  exact ⟨h1, F1, fun k hk => hF k ((h2 k).2 (.inl hk)), F1, fun _ => False, fun k => by simp, fun _ _ h => h, h4, fun _ h => h⟩
/-- an empty literal -/
theorem Hold.addEmpty (h : Hold W0 R w) (e : TypeId) : Hold W0 ((Row e 1 (.slice (some ⟨w.heap.size, 0, none⟩) 0 0) 0 []).sep R) (w.alloc (.cells #[] e)) :=
  h.addLits [] e (Nat.zero_le _) rfl
end
end Go.Proofs.YtkbfjgmgckbogaaGreat.L

/-
  s[:n:n] of what is owned. Over any program.
-/

namespace Go.Proofs.YtkbfjgmgckbogaaGreat.L
open Go.RowKit
section
variable {P : Program} {W0 w : World} {R : Asrt} {B n m : Nat} {e : TypeId} {s : Nat} {v : Value} {xs : List Value}
theorem Rowed.less {g : Nat} {cur : Array Value} {k : Nat} (h : Rowed w g cur k) {j : Nat} (hj : j ≤ k) : Rowed w g cur j := by
  obtain ⟨t, fz, h1, h2⟩ := h
  exact ⟨t, fz, h1, fun i hi => h2 i (by omega)⟩
theorem Own.cut {ao : Option Addr} {cap : Nat} (h : Own w B e s (.slice ao n cap) n xs) (hm : m ≤ n) : Own w B e s (.slice ao m m) m (xs.take (m * s)) := by
  have hle : m * s ≤ n * s := Nat.mul_le_mul_right _ hm
  refine ⟨by rw [List.length_take, h.1]; omega, ?_⟩
  rcases h.2 with ⟨h1, h2⟩ | ⟨g, cap', cur, h1, h2, h3, h4, h5, h6, h7⟩
  · simp only [Value.slice.injEq] at h1
    obtain ⟨rfl, _, _⟩ := h1
    obtain rfl : m = 0 := by omega
    exact .inl ⟨rfl, rfl⟩
  · simp only [Value.slice.injEq] at h1
    obtain ⟨rfl, _, rfl⟩ := h1
    have hmc : m * s ≤ cap * s := Nat.mul_le_mul_right _ (by omega)
    refine .inr ⟨g, m, cur, rfl, h2, h3.less hmc, Nat.le_refl _, by omega, by omega, ?_⟩
    rw [← h7, List.take_take, Nat.min_eq_left hle]
theorem run_slice_cut {ao : Option Addr} {cap : Nat} (h : Own w B e s (.slice ao n cap) n xs) {t e' : TypeId} (ht : P.underlying t = some (.slice e')) (hs : (P.info? e').map (fun i => i.size) = some s) (hm : m ≤ n) {k k' : IntKind} :
    ∀ w', (Instr.slice t (.slice ao n cap) none (some (.int k (m : Int))) (some (.int k' (m : Int)))).run P w' = .ok (.slice ao m m) w' := by
  have hle : n ≤ cap ∧ cap ≤ maxLen := by
    obtain ⟨_, ao', cap', e, h1, h2, _⟩ := h.sl
    simp only [Value.slice.injEq] at e
    omega
  obtain ⟨inf, hif, hsz⟩ := Option.map_eq_some_iff.1 hs
  intro w'
  have e1 : m ≤ cap := by omega
  have hnone : ao = none → m = 0 := fun he => by
    obtain ⟨_, ao', cap', e, h1, h2, h3, _⟩ := h.sl
    simp only [Value.slice.injEq] at e
    have := h3 (by rw [← e.1]; exact he)
    omega
  simp [Instr.slice, run_underlying ht, Instr.sliceBounds, run_sliceBound_if, sizeOf, typeInfo, hif, e1]
  cases ao with
  | none => simp
  | some a => simp [add_zero]
theorem Hold.cut {ao : Option Addr} {cap : Nat} (h : Hold W0 ((Row e s (.slice ao n cap) n xs).sep R) w) (hm : m ≤ n) : Hold W0 ((Row e s (.slice ao m m) m (xs.take (m * s))).sep R) w := by
  obtain ⟨F, ⟨hown, hF⟩, hge, hup⟩ := h.take
  refine hup _ (Row e s (.slice ao m m) m (xs.take (m * s))) F (Keeps.refl F w) ⟨hown.cut hm, fun k => ?_⟩ fun k hk => .inl hk
  rw [hF k]
  cases ao <;> rfl
end
end Go.Proofs.YtkbfjgmgckbogaaGreat.L
