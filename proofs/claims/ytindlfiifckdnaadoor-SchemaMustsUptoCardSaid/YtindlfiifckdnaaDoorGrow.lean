/-
  append, to a slice that is held: the walk's law in one piece. Over any program.
-/
import Derived.Test.YtindlfiifckdnaaDoorFetch
namespace Go.Proofs.YtindlfiifckdnaaDoor.L
open Go.RowKit
/-- what is known of a slice type's element -/
structure ElemOk (P : Program) (t e : TypeId) (s bytes : Nat) : Prop where
  sl : P.underlying t = some (.slice e)
  info : ∃ (i : TypeInfo) (z : Value), P.info? e = some i ∧ i.zero = some z ∧ i.size = s ∧ i.bytes = bytes ∧ z.cells.size = s
  pos : 0 < s
theorem ElemOk.size {P : Program} {t e : TypeId} {s bytes : Nat} (E : ElemOk P t e s bytes) : (P.info? e).map (fun i => i.size) = some s := by
  obtain ⟨i, z, h1, _, h2, _⟩ := E.info
  rw [h1]; simp [h2]
theorem elemOk {P : Program} {t e : TypeId} {s bytes : Nat} {z : Value} (ht : P.underlying t = some (.slice e)) (hi : (P.info? e).map (fun i => (i.zero, i.size, i.bytes)) = some (some z, s, bytes)) (hz : z.cells.size = s) (hp : 0 < s) : ElemOk P t e s bytes := by
  obtain ⟨i, h1, h2⟩ := Option.map_eq_some_iff.1 hi
  simp only [Prod.mk.injEq] at h2
  exact ⟨ht, ⟨i, z, h1, h2.1, h2.2.1, h2.2.2, hz⟩, hp⟩
section
variable {P : Program} {W0 w w' : World} {R : Asrt} {t e : TypeId} {s bytes n m B : Nat} {v vx : Value} {xs news : List Value}
variable {ops : Array Oper} {rest : List Oper} {o : Oper} {a : Act} {Q : Exit → Act → World → Prop}
theorem wpList_app (E : ElemOk P t e s bytes) (H : Hold W0 ((Row e s v n xs).sep R) w) (hgd : o.guard = none) (sx x : Operand)
    (ho : o.op = .call { callee := .builtin .append, args := #[sx, x], argTypes := #[t, t] }) (hs : a.eval sx = v) (hx : a.eval x = vx) (hsx : Sl w s vx m news) (h1 : ∀ u ∈ news, u.oneCell' = true)
    (h63 : n + m ≤ 140737488355328) (hlen : (n + m) * bytes ≤ 140737488355328)
    (h : ∀ v' ys w', Hid (ys = xs ++ news) → Hold W0 ((Row e s v' (n + m) ys).sep R) w' → wpList P ops Q rest (a.put o.dst v') w') : wpList P ops Q (o :: rest) a w := by
  obtain ⟨i, z, hi, hz, hsz, hby, hzs⟩ := E.info
  refine wpList_append_row w hgd sx x t ho e i z s bytes E.sl hi hz hsz hby hzs E.pos v n xs hs H.own vx m news hx hsx h1 (by unfold maxLen; omega) hlen ?_
  intro v' w' hown hk hsub _
  exact h v' _ w' (Lib.hid rfl) (H.grow hown hk hsub)
/-- behind a literal -/
theorem wpList_appLit (E : ElemOk P t e 1 bytes) {w0 : World} (H : Hold W0 ((Row e 1 v n xs).sep R) w0) (news : List Value) (hgd : o.guard = none) (sx x : Operand)
    (ho : o.op = .call { callee := .builtin .append, args := #[sx, x], argTypes := #[t, t] }) (hw : w = w0.alloc (.cells news.toArray e)) (hs : a.eval sx = v) (hx : a.eval x = .slice (some ⟨w0.heap.size, 0, none⟩) news.length news.length) (h1 : ∀ u ∈ news, u.oneCell' = true)
    (h63 : n + news.length ≤ 140737488355328) (hlen : (n + news.length) * bytes ≤ 140737488355328)
    (h : ∀ v' ys w', Hid (ys = xs ++ news) → Hold W0 ((Row e 1 v' (n + news.length) ys).sep R) w' → wpList P ops Q rest (a.put o.dst v') w') : wpList P ops Q (o :: rest) a w := by
  subst hw
  exact wpList_app E (H.keeps ((Below.refl _ _).alloc (Nat.le_refl _) _)) hgd sx x ho hs hx (sl_built w0 news e (by unfold maxLen; omega)) h1 h63 hlen h
/-- what is owned is held -/
theorem Hold.of_own (h : Own w' w.heap.size e s v n xs) (hb : Below w.heap.size w w') : Hold w ((Row e s v n xs).sep Asrt.emp) w' := (Hold.start w).addRow hb h
/-- onto an empty slice without room, wherever it points -/
theorem wpList_appZ (E : ElemOk P t e 1 bytes) {w0 : World} (p0 : Addr) (news : List Value) (hn0 : 0 < news.length) (hgd : o.guard = none) (sx x : Operand)
    (ho : o.op = .call { callee := .builtin .append, args := #[sx, x], argTypes := #[t, t] }) (hw : w = w0.alloc (.cells news.toArray e)) (hs : a.eval sx = .slice (some p0) 0 0) (hx : a.eval x = .slice (some ⟨w0.heap.size, 0, none⟩) news.length news.length)
    (hlen : news.length * bytes ≤ 140737488355328) (hl2 : news.length ≤ 140737488355328)
    (h : ∀ v' w', Hold w ((Row e 1 v' news.length news).sep Asrt.emp) w' → wpList P ops Q rest (a.put o.dst v') w') : wpList P ops Q (o :: rest) a w := by
  subst hw
  obtain ⟨i, z, hi, hz, hsz, hby, hzs⟩ := E.info
  have hsl := sl_built w0 news e (by unfold maxLen; omega)
  obtain ⟨_, ao, c, hv, _, _, _, hcell⟩ := hsl
  simp only [Value.slice.injEq] at hv
  obtain ⟨rfl, _, rfl⟩ := hv
  refine wpList_plain hgd fun K hK => ?_
  have hr := run_append_grow (P := P) (w := w0.alloc (.cells news.toArray e)) t o.type e i z E.sl hi hz p0 0 0 [] (by simp) (by simp) ⟨w0.heap.size, 0, none⟩ news.length news.length news (by rw [hsz]; simp)
    (fun j u hj => by
      have hjl := (List.getElem?_eq_some_iff.1 hj).1
      rw [hcell _ rfl j (by omega), List.getD, hj]
      rfl) (by omega) (by omega) (growslice_fits (by omega) (by rw [hby]; simpa using hlen))
  unfold Oper.wp execOp
  simp only [ho, resolve, invoke, builtin, Sem.run_bind, Sem.run_pure, Result.andThen_ok, List.map_toArray, List.map_cons, List.map_nil, hs, hx, hr]
  refine hK _ _ (h _ _ (Hold.of_own (e := e) ?_ (((Below.refl _ (w0.alloc (.cells news.toArray e))).drew).alloc (Nat.le_refl _) _)))
  have hge := grownCap_ge (w0.alloc (.cells news.toArray e)) (0 + news.length) 0 e
  have hcm : grownCap (w0.alloc (.cells news.toArray e)) (0 + news.length) 0 e ≤ maxLen := grownCap_le_maxLen _ _ _ _ (by unfold maxLen; omega)
  refine ⟨by simp, .inr ⟨_, _, _, (by rw [Nat.zero_add]), Nat.le_refl _, Rowed.of (heap_alloc_new (w0.alloc (.cells news.toArray e)).drew _) _, by omega, hcm, ?_, ?_⟩⟩
  · simp only [Array.size_append, List.size_toArray, size_zeroCells, hzs, List.length_nil]
    omega
  · simp only [Array.toList_append, List.nil_append, Nat.mul_one]
    exact List.take_left
/-- nothing yet: a nil slice -/
theorem Hold.addNil (h : Hold W0 R w) (e : TypeId) (s : Nat) : Hold W0 ((Row e s (.slice none 0 0) 0 []).sep R) w :=
  h.add (Below.refl _ _) (A := Row e s (.slice none 0 0) 0 []) (F := fun _ => False) ⟨Own.nil _ _ _ _, fun k => by simp [Value.ownBlock]⟩ fun _ h => h.elim
theorem Hold.fin (h : Hold W0 ((Row e s v n xs).sep R) w) : Own w W0.heap.size e s v n xs ∧ Below W0.heap.size W0 w := by
  obtain ⟨F, ⟨h1, h2⟩, h3, _⟩ := h.take
  exact ⟨h1.from fun k hk => h3 k ((h2 k).2 hk), h.old⟩
/-- the beginning of what is owned -/
theorem run_slice_own (h : Own w B e s v n xs) {t e' : TypeId} (ht : P.underlying t = some (.slice e')) (hs : (P.info? e').map (fun i => i.size) = some s) (m : Nat) (hm : m ≤ n) (hi : Value) (hhi : ∃ k, hi = .int k (m : Int)) :
    ∃ v', (∀ w', (Instr.slice t v none (some hi) none).run P w' = .ok v' w') ∧ Own w B e s v' m (xs.take (m * s)) ∧ v'.ownBlock = v.ownBlock := by
  obtain ⟨ao, cap, rfl⟩ := h.shape
  have hle : n ≤ cap ∧ cap ≤ maxLen := by
    obtain ⟨_, ao', cap', e, h1, h2, _⟩ := h.sl
    simp only [Value.slice.injEq] at e
    omega
  obtain ⟨inf, hif, hsz⟩ := Option.map_eq_some_iff.1 hs
  obtain ⟨k, rfl⟩ := hhi
  refine ⟨.slice ao m cap, fun w' => ?_, h.take hm rfl, by cases ao <;> rfl⟩
  have e1 : m ≤ cap := by omega
  simp [Instr.slice, run_underlying ht, Instr.sliceBounds, run_sliceBound_if, sizeOf, typeInfo, hif, e1]
  cases ao <;> simp [add_zero]
theorem run_slice_lit {ao : Option Addr} {cap : Nat} (h : Own w B e s (.slice ao n cap) n xs) {t e' : TypeId} (ht : P.underlying t = some (.slice e')) (hs : (P.info? e').map (fun i => i.size) = some s) (m : Nat) (hm : m ≤ n) (hi : Value) (hhi : ∃ k, hi = .int k (m : Int)) :
    ∀ w', (Instr.slice t (.slice ao n cap) none (some hi) none).run P w' = .ok (.slice ao m cap) w' := by
  have hle : n ≤ cap ∧ cap ≤ maxLen := by
    obtain ⟨_, ao', cap', e, h1, h2, _⟩ := h.sl
    simp only [Value.slice.injEq] at e
    omega
  obtain ⟨inf, hif, hsz⟩ := Option.map_eq_some_iff.1 hs
  obtain ⟨k, rfl⟩ := hhi
  intro w'
  have e1 : m ≤ cap := by omega
  simp [Instr.slice, run_underlying ht, Instr.sliceBounds, run_sliceBound_if, sizeOf, typeInfo, hif, e1]
  cases ao <;> simp [add_zero]
/-- the beginning of what is owned, read -/
theorem Reads.take {ao : Option Addr} {cap : Nat} (hm : m ≤ n) : Reads W0 ((Row e s (.slice ao n cap) n xs).sep R) s (.slice ao m cap) m (xs.take (m * s)) := fun _ hw => (hw.own.take hm rfl).sl
/-- one object alone -/
theorem Hold.only {A : Asrt} (h : Hold W0 (A.sep R) w) : Hold W0 (A.sep Asrt.emp) w := by
  obtain ⟨h1, F, hF, F1, F2, h2, h3, h4, h5⟩ := h
  exact ⟨h1, F1, fun k hk => hF k ((h2 k).2 (.inl hk)), F1, fun _ => False, fun k => by simp, fun _ _ h => h, h4, fun _ h => h⟩
/-- an empty literal -/
theorem Hold.addEmpty (h : Hold W0 R w) (e : TypeId) : Hold W0 ((Row e 1 (.slice (some ⟨w.heap.size, 0, none⟩) 0 0) 0 []).sep R) (w.alloc (.cells #[] e)) :=
  h.addLits [] e (Nat.zero_le _) rfl
end
end Go.Proofs.YtindlfiifckdnaaDoor.L
