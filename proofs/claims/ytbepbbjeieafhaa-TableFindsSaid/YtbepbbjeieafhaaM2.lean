/-
  Part 2 of the texts that the proofs of this seat stand on: contracts of functions and plain lemmas, one text behind the other. Conditions: those that each theorem states.
-/
import Derived.Deep.RegionWith
import Derived.Deep.QuietTactic
import Derived.BigQuiet
import Derived.WalkSmall
import Derived.Laws.BitsAllLaws
import Derived.WalkLawsBesides
import Derived.Laws.IdiomStrings
import Derived.Deep.RegionHeld3
import Derived.Deep.DeepCutAuto
import Derived.Test.YtbepbbjeieafhaaM1
/-
  append, to a slice that is held: the walk's law in one piece. Over any program.
-/

namespace Go.Proofs.Ytbepbbjeieafhaa.L
open Go.RowKit
/-- what is known of a slice type's element -/
structure ElemOk (P : Program) (t e : TypeId) (s bytes : Nat) : Prop where
  sl : P.underlying t = some (.slice e)
  info : ∃ (i : TypeInfo) (z : Value), P.info? e = some i ∧ i.zero = some z ∧ i.size = s ∧ i.bytes = bytes ∧ z.cells.size = s
  pos : 0 < s
theorem ElemOk.size {P : Program} {t e : TypeId} {s bytes : Nat} (E : ElemOk P t e s bytes) : (P.info? e).map (fun i => i.size) = some s := by
  obtain ⟨i, z, h1, _, h2, _⟩ := E.info
  rw [h1]; simp [h2]
theorem elemOk {P : Program} {t e : TypeId} {s bytes : Nat} {z : Value} (ht : P.underlying t = some (.slice e)) (hi : (P.info? e).map (fun i => (i.zero, i.size, i.bytes)) = some (some z, s, bytes)) (hz : z.cells.size = s) (hp : 0 < s) : ElemOk P t e s bytes := by
  obtain ⟨i, h1, h2⟩ := Option.map_eq_some_iff.1 hi
  simp only [Prod.mk.injEq] at h2
  exact ⟨ht, ⟨i, z, h1, h2.1, h2.2.1, h2.2.2, hz⟩, hp⟩
section
variable {P : Program} {W0 w w' : World} {R : Asrt} {t e : TypeId} {s bytes n m B : Nat} {v vx : Value} {xs news : List Value}
variable {ops : Array Oper} {rest : List Oper} {o : Oper} {a : Act} {Q : Exit → Act → World → Prop}
theorem wpList_app (E : ElemOk P t e s bytes) (H : Hold W0 ((Row e s v n xs).sep R) w) (hgd : o.guard = none) (sx x : Operand)
    (ho : o.op = .call { callee := .builtin .append, args := #[sx, x], argTypes := #[t, t] }) (hs : a.eval sx = v) (hx : a.eval x = vx) (hsx : Sl w s vx m news) (h1 : ∀ u ∈ news, u.oneCell' = true)
    (h63 : n + m ≤ 140737488355328) (hlen : (n + m) * bytes ≤ 140737488355328)
    (h : ∀ v' ys w', Hid (ys = xs ++ news) → Hold W0 ((Row e s v' (n + m) ys).sep R) w' → wpList P ops Q rest (a.put o.dst v') w') : wpList P ops Q (o :: rest) a w := by
  obtain ⟨i, z, hi, hz, hsz, hby, hzs⟩ := E.info
  refine wpList_append_row w hgd sx x t ho e i z s bytes E.sl hi hz hsz hby hzs E.pos v n xs hs H.own vx m news hx hsx h1 (by unfold maxLen; omega) hlen ?_
  intro v' w' hown hk hsub _
  exact h v' _ w' (Lib.hid rfl) (H.grow hown hk hsub)
/-- behind a literal -/
theorem wpList_appLit (E : ElemOk P t e 1 bytes) {w0 : World} (H : Hold W0 ((Row e 1 v n xs).sep R) w0) (news : List Value) (hgd : o.guard = none) (sx x : Operand)
    (ho : o.op = .call { callee := .builtin .append, args := #[sx, x], argTypes := #[t, t] }) (hw : w = w0.alloc (.cells news.toArray e)) (hs : a.eval sx = v) (hx : a.eval x = .slice (some ⟨w0.heap.size, 0, none⟩) news.length news.length) (h1 : ∀ u ∈ news, u.oneCell' = true)
    (h63 : n + news.length ≤ 140737488355328) (hlen : (n + news.length) * bytes ≤ 140737488355328)
    (h : ∀ v' ys w', Hid (ys = xs ++ news) → Hold W0 ((Row e 1 v' (n + news.length) ys).sep R) w' → wpList P ops Q rest (a.put o.dst v') w') : wpList P ops Q (o :: rest) a w := by
  subst hw
  exact wpList_app E (H.keeps ((Below.refl _ _).alloc (Nat.le_refl _) _)) hgd sx x ho hs hx (sl_built w0 news e (by unfold maxLen; omega)) h1 h63 hlen h
/-- what is owned is held -/
theorem Hold.of_own (h : Own w' w.heap.size e s v n xs) (hb : Below w.heap.size w w') : Hold w ((Row e s v n xs).sep Asrt.emp) w' := (Hold.start w).addRow hb h
/-- onto an empty slice without room, wherever it points -/
theorem wpList_appZ (E : ElemOk P t e 1 bytes) {w0 : World} (p0 : Addr) (news : List Value) (hn0 : 0 < news.length) (hgd : o.guard = none) (sx x : Operand)
    (ho : o.op = .call { callee := .builtin .append, args := #[sx, x], argTypes := #[t, t] }) (hw : w = w0.alloc (.cells news.toArray e)) (hs : a.eval sx = .slice (some p0) 0 0) (hx : a.eval x = .slice (some ⟨w0.heap.size, 0, none⟩) news.length news.length)
    (hlen : news.length * bytes ≤ 140737488355328) (hl2 : news.length ≤ 140737488355328)
    (h : ∀ v' w', Hold w ((Row e 1 v' news.length news).sep Asrt.emp) w' → wpList P ops Q rest (a.put o.dst v') w') : wpList P ops Q (o :: rest) a w := by
  subst hw
  obtain ⟨i, z, hi, hz, hsz, hby, hzs⟩ := E.info
  have hsl := sl_built w0 news e (by unfold maxLen; omega)
  obtain ⟨_, ao, c, hv, _, _, _, hcell⟩ := hsl
  simp only [Value.slice.injEq] at hv
  obtain ⟨rfl, _, rfl⟩ := hv
  refine wpList_plain hgd fun K hK => ?_
  have hr := run_append_grow (P := P) (w := w0.alloc (.cells news.toArray e)) t o.type e i z E.sl hi hz p0 0 0 [] (by simp) (by simp) ⟨w0.heap.size, 0, none⟩ news.length news.length news (by rw [hsz]; simp)
    (fun j u hj => by
      have hjl := (List.getElem?_eq_some_iff.1 hj).1
      rw [hcell _ rfl j (by omega), List.getD, hj]
      rfl) (by omega) (by omega) (growslice_fits (by omega) (by rw [hby]; simpa using hlen))
  unfold Oper.wp execOp
  simp only [ho, resolve, invoke, builtin, Sem.run_bind, Sem.run_pure, Result.andThen_ok, List.map_toArray, List.map_cons, List.map_nil, hs, hx, hr]
  refine hK _ _ (h _ _ (Hold.of_own (e := e) ?_ (((Below.refl _ (w0.alloc (.cells news.toArray e))).drew).alloc (Nat.le_refl _) _)))
  have hge := grownCap_ge (w0.alloc (.cells news.toArray e)) (0 + news.length) 0 e
  have hcm : grownCap (w0.alloc (.cells news.toArray e)) (0 + news.length) 0 e ≤ maxLen := grownCap_le_maxLen _ _ _ _ (by unfold maxLen; omega)
  refine ⟨by simp, .inr ⟨_, _, _, (by rw [Nat.zero_add]), Nat.le_refl _, Rowed.of (heap_alloc_new (w0.alloc (.cells news.toArray e)).drew _) _, by omega, hcm, ?_, ?_⟩⟩
  · simp only [Array.size_append, List.size_toArray, size_zeroCells, hzs, List.length_nil]
    omega
  · simp only [Array.toList_append, List.nil_append, Nat.mul_one]
    exact List.take_left
/-- nothing yet: a nil slice -/
theorem Hold.addNil (h : Hold W0 R w) (e : TypeId) (s : Nat) : Hold W0 ((Row e s (.slice none 0 0) 0 []).sep R) w :=
  h.add (Below.refl _ _) (A := Row e s (.slice none 0 0) 0 []) (F := fun _ => False) ⟨Own.nil _ _ _ _, fun k => by simp [Value.ownBlock]⟩ fun _ h => h.elim
theorem Hold.fin (h : Hold W0 ((Row e s v n xs).sep R) w) : Own w W0.heap.size e s v n xs ∧ Below W0.heap.size W0 w := by
  obtain ⟨F, ⟨h1, h2⟩, h3, _⟩ := h.take
  exact ⟨h1.from fun k hk => h3 k ((h2 k).2 hk), h.old⟩
/-- the beginning of what is owned -/
theorem run_slice_own (h : Own w B e s v n xs) {t e' : TypeId} (ht : P.underlying t = some (.slice e')) (hs : (P.info? e').map (fun i => i.size) = some s) (m : Nat) (hm : m ≤ n) (hi : Value) (hhi : ∃ k, hi = .int k (m : Int)) :
    ∃ v', (∀ w', (Instr.slice t v none (some hi) none).run P w' = .ok v' w') ∧ Own w B e s v' m (xs.take (m * s)) ∧ v'.ownBlock = v.ownBlock := by
  obtain ⟨ao, cap, rfl⟩ := h.shape
  have hle : n ≤ cap ∧ cap ≤ maxLen := by
    obtain ⟨_, ao', cap', e, h1, h2, _⟩ := h.sl
    simp only [Value.slice.injEq] at e
    omega
  obtain ⟨inf, hif, hsz⟩ := Option.map_eq_some_iff.1 hs
  obtain ⟨k, rfl⟩ := hhi
  refine ⟨.slice ao m cap, fun w' => ?_, h.take hm rfl, by cases ao <;> rfl⟩
  have e1 : m ≤ cap := by omega
  simp [Instr.slice, run_underlying ht, Instr.sliceBounds, run_sliceBound_if, sizeOf, typeInfo, hif, e1]
  cases ao <;> simp [add_zero]
theorem run_slice_lit {ao : Option Addr} {cap : Nat} (h : Own w B e s (.slice ao n cap) n xs) {t e' : TypeId} (ht : P.underlying t = some (.slice e')) (hs : (P.info? e').map (fun i => i.size) = some s) (m : Nat) (hm : m ≤ n) (hi : Value) (hhi : ∃ k, hi = .int k (m : Int)) :
    ∀ w', (Instr.slice t (.slice ao n cap) none (some hi) none).run P w' = .ok (.slice ao m cap) w' := by
  have hle : n ≤ cap ∧ cap ≤ maxLen := by
    obtain ⟨_, ao', cap', e, h1, h2, _⟩ := h.sl
    simp only [Value.slice.injEq] at e
    omega
  obtain ⟨inf, hif, hsz⟩ := Option.map_eq_some_iff.1 hs
  obtain ⟨k, rfl⟩ := hhi
  intro w'
  have e1 : m ≤ cap := by omega
  simp [Instr.slice, run_underlying ht, Instr.sliceBounds, run_sliceBound_if, sizeOf, typeInfo, hif, e1]
  cases ao <;> simp [add_zero]
/-- the beginning of what is owned, read -/
theorem Reads.take {ao : Option Addr} {cap : Nat} (hm : m ≤ n) : Reads W0 ((Row e s (.slice ao n cap) n xs).sep R) s (.slice ao m cap) m (xs.take (m * s)) := fun _ hw => (hw.own.take hm rfl).sl
/-- one object alone -/
theorem Hold.only {A : Asrt} (h : Hold W0 (A.sep R) w) : Hold W0 (A.sep Asrt.emp) w := by
  obtain ⟨h1, F, hF, F1, F2, h2, h3, h4, h5⟩ := h
  exact ⟨h1, F1, fun k hk => hF k ((h2 k).2 (.inl hk)), F1, fun _ => False, fun k => by simp, fun _ _ h => h, h4, fun _ h => h⟩
/-- an empty literal -/
theorem Hold.addEmpty (h : Hold W0 R w) (e : TypeId) : Hold W0 ((Row e 1 (.slice (some ⟨w.heap.size, 0, none⟩) 0 0) 0 []).sep R) (w.alloc (.cells #[] e)) :=
  h.addLits [] e (Nat.zero_le _) rfl
end
end Go.Proofs.Ytbepbbjeieafhaa.L

/-
  Why cells may not stand one behind the other: chapter 7's 'rises', the reference's 'Rise'.
-/






namespace Go.Proofs.Ytbepbbjeieafhaa.Bl
open Go.RowKit L
/-- do cells rise? -/
def risesB : List Cl → Bool
  | a :: b :: r => lessC a b && risesB (b :: r)
  | _ => true
/-- the error: 0, 1, 11 -/
def riseN (l : List Cl) : Nat := if l.all isC then (if risesB l then 0 else 11) else 1
theorem risesB_at : ∀ (l : List Cl) (k : Nat), k + 1 < l.length → lessC (l.getD k default) (l.getD (k + 1) default) = false → risesB l = false
  | a :: b :: r, 0, _, h => by
    have : lessC a b = false := h
    simp [risesB, this]
  | a :: b :: r, k + 1, hk, h => by
    have := risesB_at (b :: r) k (by simpa using hk) (by simpa using h)
    simp [risesB, this]
  | [a], k, hk, _ => by simp at hk
  | [], k, hk, _ => by simp at hk
theorem risesB_all : ∀ (l : List Cl), (∀ k, k + 1 < l.length → lessC (l.getD k default) (l.getD (k + 1) default) = true) → risesB l = true
  | [], _ => rfl
  | [a], _ => rfl
  | a :: b :: r, h => by
    have h0 : lessC a b = true := h 0 (by simp)
    have := risesB_all (b :: r) fun k hk => by simpa using h (k + 1) (by simpa using hk)
    simp [risesB, h0, this]
theorem getD_get {l : List Cl} {k : Nat} (h : k < l.length) : l.getD k default = l[k] := by simp [List.getD, h]
theorem all_at {l : List Cl} {k : Nat} (hk : k < l.length) (h : isC (l.getD k default) = false) : l.all isC = false := by
  rw [Bool.eq_false_iff]
  intro ha
  rw [List.all_eq_true] at ha
  have := ha _ (List.getElem_mem hk)
  rw [getD_get hk] at h
  rw [h] at this
  cases this
theorem all_all {l : List Cl} (h : ∀ k, k < l.length → isC (l.getD k default) = true) : l.all isC = true := by
  rw [List.all_eq_true]
  intro x hx
  obtain ⟨i, hi, rfl⟩ := List.getElem_of_mem hx
  have := h i hi
  rwa [getD_get hi] at this
set_option maxHeartbeats 1600000 in
theorem rises_any (v : Value) (l : List Cl) (w : World) (h : Sl w 4 v l.length (cls l)) : Calls Try.prog 56 #[v] w fun e w' => e = .returned (.int .i64 (riseN l)) ∧ Below w.heap.size w w' := by
  have hlen := h.run_len Try.underlying22
  have hmx := h.le'
  go_enter Try.func56, Try.ntmps56
  go_wp2
  go_loopw [8] (fun i wr => ∃ k : Nat, k ≤ l.length ∧ i = .int .i64 k ∧ (∀ j, j < k → isC (l.getD j default) = true) ∧ Below w.heap.size w wr) (fun i _ => l.length - (intOf i).toNat)
  case atStart => exact ⟨0, Nat.zero_le _, rfl, fun j hj => by omega, Below.refl _ _⟩
  case round =>
    obtain ⟨k, hk, rfl, hall, hbr⟩ := hrel
    have Hall := Lib.hid hall
    clear hall
    by_cases hlt : k < l.length
    · obtain ⟨A, c, hA, _, hcells, Hc⟩ := (h.below' hbr).atCl (P := Try.prog) Try.underlying22 Try.size39 k _ rfl hlt
      obtain ⟨c0, c1, c2, c3⟩ := hcells
      go_wp2_with fail
      refine (is_any c _).mono ?_
      rintro e w1 ⟨rfl, hb1⟩
      have Hb := Lib.hid ((hbr.alloc hbr.size _).trans (hb1.mono (hbr.alloc hbr.size _).size))
      clear hb1 c0 c1 c2 c3 hbr
      cases hi : isC c with
      | true =>
        have Hn : Hid (∀ j, j < k + 1 → isC (l.getD j default) = true) := Lib.hid fun j hj => by
          by_cases e : j = k
          · subst e; rw [← Hc.out]; exact hi
          · exact Hall.out j (by omega)
        clear hi
        go_wp2
        go_roundw
        case rel => exact ⟨k + 1, by omega, by go_num, Hn.out, Hb.out⟩
        case measure => simp [intOf]; omega
      | false =>
        have Hn : Hid (riseN l = 1) := Lib.hid (by rw [riseN, all_at hlt (by rw [← Hc.out]; exact hi)]; rfl)
        clear hi
        go_wp2
        go_ret
        exact ⟨ret_int (by rw [Hn.out]; rfl), Hb.out⟩
    · have Hn : Hid (l.all isC = true) := Lib.hid (all_all fun j hj => Hall.out j (by omega))
      clear Hall
      go_wp2
      obtain ⟨wo, hwo⟩ : ∃ wo : World, wo = wr := ⟨_, rfl⟩
      rw [← hwo] at hbr ⊢
      clear hwo
      go_loopw [5] (fun i wr => ∃ j : Nat, (j < l.length ∨ j = 0) ∧ i = .int .i64 ((j : Int) + 1) ∧ (∀ i, i < j → lessC (l.getD i default) (l.getD (i + 1) default) = true) ∧ Below w.heap.size w wr) (fun i _ => l.length - (intOf i).toNat)
      case atStart => exact ⟨0, .inr rfl, rfl, fun j hj => by omega, hbr⟩
      case round =>
        clear hbr
        obtain ⟨j, hj, rfl, hall, hbr⟩ := hrel
        have Hall := Lib.hid hall
        clear hall
        by_cases hlt2 : j + 1 < l.length
        · obtain ⟨A, c, hA, _, hcells, Hc⟩ := (h.below' hbr).atCl (P := Try.prog) Try.underlying22 Try.size39 j _ rfl (by omega)
          obtain ⟨A', c', hA', _, hcells', Hc'⟩ := (h.below' hbr).atCl (P := Try.prog) Try.underlying22 Try.size39 (j + 1) ((j : Int) + 1) (by omega) (by omega)
          have Hcs := Lib.hid (And.intro hcells hcells')
          clear hcells hcells'
          have Hbd := Lib.hid (below_drewN hbr 1)
          obtain ⟨c0, c1, c2, c3⟩ := Hcs.out.1
          obtain ⟨d0, d1, d2, d3⟩ := Hcs.out.2
          have hwr : IntKind.i64.wrap (j : Int) = (j : Int) := IntWalk.i64_in _ (by omega)
          have c0' : wr.drew.cell? A = some (.string c.key) := c0
          have c1' : wr.drew.cell? ⟨A.block, A.off + 1, none⟩ = some (.string c.val) := c1
          have c2' : wr.drew.cell? ⟨A.block, A.off + 2, none⟩ = some (.bool c.del) := c2
          have c3' : wr.drew.cell? ⟨A.block, A.off + 3, none⟩ = some (.int .i64 c.seq) := c3
          have d0' : wr.drew.cell? A' = some (.string c'.key) := d0
          have d1' : wr.drew.cell? ⟨A'.block, A'.off + 1, none⟩ = some (.string c'.val) := d1
          have d2' : wr.drew.cell? ⟨A'.block, A'.off + 2, none⟩ = some (.bool c'.del) := d2
          have d3' : wr.drew.cell? ⟨A'.block, A'.off + 3, none⟩ = some (.int .i64 c'.seq) := d3
          go_wp2_with fail
          go_region_with (first
            | (go_at_call 82; refine (less_any c c' _).mono ?_; rintro e w1 ⟨rfl, hb1⟩; have Hb := Lib.hid ((below_drewN hbr 1).trans (hb1.mono (below_drewN hbr 1).size)); clear hb1))
          all_goals
            clear hwr c0 c1 c2 c3 d0 d1 d2 d3 c0' c1' c2' c3' d0' d1' d2' d3'
            cases hi : lessC c c' with
            | true =>
              have Hn2 : Hid (∀ i, i < j + 1 → lessC (l.getD i default) (l.getD (i + 1) default) = true) := Lib.hid fun i hi' => by
                by_cases e : i = j
                · subst e; rw [← Hc.out, ← Hc'.out]; exact hi
                · exact Hall.out i (by omega)
              clear hi
              go_wp2
              go_roundw
              case rel => exact ⟨j + 1, by omega, by go_num, Hn2.out, Hb.out⟩
              case measure => simp [intOf]; omega
            | false =>
              have Hn2 : Hid (riseN l = 11) := Lib.hid (by rw [riseN, Hn.out, risesB_at l j hlt2 (by rw [← Hc.out, ← Hc'.out]; exact hi)]; rfl)
              clear hi
              go_wp2
              go_ret
              exact ⟨ret_int (by rw [Hn2.out]; rfl), Hb.out⟩
        · have Hn2 : Hid (riseN l = 0) := Lib.hid (by rw [riseN, Hn.out, risesB_all l fun i hi => Hall.out i (by omega)]; rfl)
          go_wp2
          go_ret
          exact ⟨ret_int (by rw [Hn2.out]; rfl), hbr⟩
set_option maxHeartbeats 1600000 in
theorem xrise_any (v : Value) (l : List Cl) (w : World) (h : Sl w 4 v l.length (cls l)) : Calls Try.prog 14 #[v] w fun e w' => e = .returned (.int .i64 (riseN l)) ∧ Below w.heap.size w w' := by
  have hlen := h.run_len Try.underlying22
  have hmx := h.le'
  go_enter Try.func14, Try.ntmps14
  go_wp2
  go_loopw [3] (fun i wr => ∃ k : Nat, k ≤ l.length ∧ i = .int .i64 k ∧ (∀ j, j < k → isC (l.getD j default) = true) ∧ Below w.heap.size w wr) (fun i _ => l.length - (intOf i).toNat)
  case atStart => exact ⟨0, Nat.zero_le _, rfl, fun j hj => by omega, Below.refl _ _⟩
  case round =>
    obtain ⟨k, hk, rfl, hall, hbr⟩ := hrel
    have Hall := Lib.hid hall
    clear hall
    by_cases hlt : k < l.length
    · obtain ⟨A, c, hA, _, hcells, Hc⟩ := (h.below' hbr).atCl (P := Try.prog) Try.underlying22 Try.size39 k _ rfl hlt
      obtain ⟨c0, c1, c2, c3⟩ := hcells
      go_wp2_with fail
      refine (xis_any c _).mono ?_
      rintro e w1 ⟨rfl, hb1⟩
      have Hb := Lib.hid (hbr.trans (hb1.mono hbr.size))
      clear hb1 c0 c1 c2 c3 hbr
      cases hi : isC c with
      | true =>
        have Hn : Hid (∀ j, j < k + 1 → isC (l.getD j default) = true) := Lib.hid fun j hj => by
          by_cases e : j = k
          · subst e; rw [← Hc.out]; exact hi
          · exact Hall.out j (by omega)
        clear hi
        go_wp2
        go_roundw
        case rel => exact ⟨k + 1, by omega, by go_num, Hn.out, Hb.out⟩
        case measure => simp [intOf]; omega
      | false =>
        have Hn : Hid (riseN l = 1) := Lib.hid (by rw [riseN, all_at hlt (by rw [← Hc.out]; exact hi)]; rfl)
        clear hi
        go_wp2
        go_ret
        exact ⟨ret_int (by rw [Hn.out]; rfl), Hb.out⟩
    · have Hn : Hid (l.all isC = true) := Lib.hid (all_all fun j hj => Hall.out j (by omega))
      clear Hall
      go_wp2
      obtain ⟨wo, hwo⟩ : ∃ wo : World, wo = wr := ⟨_, rfl⟩
      rw [← hwo] at hbr ⊢
      clear hwo
      go_loopw [4] (fun i wr => ∃ j : Nat, (j < l.length ∨ j = 0) ∧ i = .int .i64 ((j : Int) + 1) ∧ (∀ i, i < j → lessC (l.getD i default) (l.getD (i + 1) default) = true) ∧ Below w.heap.size w wr) (fun i _ => l.length - (intOf i).toNat)
      case atStart => exact ⟨0, .inr rfl, rfl, fun j hj => by omega, hbr⟩
      case round =>
        clear hbr
        obtain ⟨j, hj, rfl, hall, hbr⟩ := hrel
        have Hall := Lib.hid hall
        clear hall
        by_cases hlt2 : j + 1 < l.length
        · obtain ⟨A, c, hA, _, hcells, Hc⟩ := (h.below' hbr).atCl (P := Try.prog) Try.underlying22 Try.size39 j _ rfl (by omega)
          obtain ⟨A', c', hA', _, hcells', Hc'⟩ := (h.below' hbr).atCl (P := Try.prog) Try.underlying22 Try.size39 (j + 1) ((j : Int) + 1) (by omega) (by omega)
          have Hcs := Lib.hid (And.intro hcells hcells')
          clear hcells hcells'
          have Hbd := Lib.hid (below_drewN hbr 1)
          obtain ⟨c0, c1, c2, c3⟩ := Hcs.out.1
          obtain ⟨d0, d1, d2, d3⟩ := Hcs.out.2
          have hwr : IntKind.i64.wrap (j : Int) = (j : Int) := IntWalk.i64_in _ (by omega)
          have c0' : wr.drew.cell? A = some (.string c.key) := c0
          have c1' : wr.drew.cell? ⟨A.block, A.off + 1, none⟩ = some (.string c.val) := c1
          have c2' : wr.drew.cell? ⟨A.block, A.off + 2, none⟩ = some (.bool c.del) := c2
          have c3' : wr.drew.cell? ⟨A.block, A.off + 3, none⟩ = some (.int .i64 c.seq) := c3
          have d0' : wr.drew.cell? A' = some (.string c'.key) := d0
          have d1' : wr.drew.cell? ⟨A'.block, A'.off + 1, none⟩ = some (.string c'.val) := d1
          have d2' : wr.drew.cell? ⟨A'.block, A'.off + 2, none⟩ = some (.bool c'.del) := d2
          have d3' : wr.drew.cell? ⟨A'.block, A'.off + 3, none⟩ = some (.int .i64 c'.seq) := d3
          go_wp2_with fail
          go_region_with (first
            | (go_at_call 41; refine (xless_any c c' _).mono ?_; rintro e w1 ⟨rfl, hb1⟩; have Hb := Lib.hid ((below_drewN hbr 1).trans (hb1.mono (below_drewN hbr 1).size)); clear hb1))
          all_goals
            clear hwr c0 c1 c2 c3 d0 d1 d2 d3 c0' c1' c2' c3' d0' d1' d2' d3'
            cases hi : lessC c c' with
            | true =>
              have Hn2 : Hid (∀ i, i < j + 1 → lessC (l.getD i default) (l.getD (i + 1) default) = true) := Lib.hid fun i hi' => by
                by_cases e : i = j
                · subst e; rw [← Hc.out, ← Hc'.out]; exact hi
                · exact Hall.out i (by omega)
              clear hi
              go_wp2
              go_roundw
              case rel => exact ⟨j + 1, by omega, by go_num, Hn2.out, Hb.out⟩
              case measure => simp [intOf]; omega
            | false =>
              have Hn2 : Hid (riseN l = 11) := Lib.hid (by rw [riseN, Hn.out, risesB_at l j hlt2 (by rw [← Hc.out, ← Hc'.out]; exact hi)]; rfl)
              clear hi
              go_wp2
              go_ret
              exact ⟨ret_int (by rw [Hn2.out]; rfl), Hb.out⟩
        · have Hn2 : Hid (riseN l = 0) := Lib.hid (by rw [riseN, Hn.out, risesB_all l fun i hi => Hall.out i (by omega)]; rfl)
          go_wp2
          go_ret
          exact ⟨ret_int (by rw [Hn2.out]; rfl), hbr⟩
end Go.Proofs.Ytbepbbjeieafhaa.Bl

/-
  How many bytes two texts have alike, from the first on: chapter 7's 'shared', the reference's 'common'.
-/




namespace Go.Proofs.Ytbepbbjeieafhaa.Bl
open Go.RowKit L
/-- nothing but draws -/
def Drew (w w' : World) : Prop := ∃ n, w' = w.drewN n
theorem Drew.refl (w : World) : Drew w w := ⟨0, rfl⟩
theorem Drew.drewN {w w' : World} (h : Drew w w') (n : Nat) : Drew w (w'.drewN n) := by
  obtain ⟨m, rfl⟩ := h
  exact ⟨m + n, World.drewN_drewN ..⟩
theorem Drew.below {w w' : World} (h : Drew w w') : Below w.heap.size w w' := by
  obtain ⟨m, rfl⟩ := h
  exact below_drewN (Below.refl _ _) m
/-- how many bytes are alike -/
def sharedN : List UInt8 → List UInt8 → Nat
  | a :: x, b :: y => if a = b then sharedN x y + 1 else 0
  | _, _ => 0
theorem sharedN_le : ∀ a b : List UInt8, sharedN a b ≤ a.length ∧ sharedN a b ≤ b.length ∧ a.take (sharedN a b) = b.take (sharedN a b)
  | [], b => by simp [sharedN]
  | a :: x, [] => by simp [sharedN]
  | a :: x, b :: y => by
    have h := sharedN_le x y
    unfold sharedN
    split
    · rename_i e
      subst e
      simp [h.2.2]; omega
    · simp
theorem sharedN_at : ∀ (n : Nat) (a b : List UInt8), n ≤ a.length → n ≤ b.length → a.take n = b.take n → (a.length = n ∨ b.length = n ∨ a.getD n 0 ≠ b.getD n 0) → sharedN a b = n
  | 0, [], b, _, _, _, _ => by simp [sharedN]
  | 0, a :: x, [], _, _, _, _ => by simp [sharedN]
  | 0, a :: x, b :: y, _, _, _, h => by
    have : a ≠ b := by simpa using h
    simp [sharedN, this]
  | n + 1, a :: x, b :: y, h1, h2, h3, h4 => by
    simp only [List.take_succ_cons, List.cons.injEq] at h3
    have := sharedN_at n x y (by simpa using h1) (by simpa using h2) h3.2 (by simpa using h4)
    simp [sharedN, h3.1, this]
theorem byte_at (s : ByteArray) (n : Nat) (h : n < s.data.size) : s.data[n] = s.data.toList.getD n 0 := by
  simp only [List.getD, Array.getElem?_toList, Array.getElem?_eq_getElem h, Option.getD_some]
theorem take_snoc2 {a b : List UInt8} {k : Nat} (ha : k < a.length) (hb : k < b.length) (h : a.take k = b.take k) (h2 : a.getD k 0 = b.getD k 0) : a.take (k + 1) = b.take (k + 1) := by
  rw [List.take_succ_eq_append_getElem ha, List.take_succ_eq_append_getElem hb, h]
  simp only [List.getD, List.getElem?_eq_getElem ha, List.getElem?_eq_getElem hb, Option.getD_some] at h2
  rw [h2]
set_option maxHeartbeats 800000 in
theorem shared_any (a b : ByteArray) (w : World) (ha : a.size ≤ 140737488351232) : Calls Try.prog 57 #[.string a, .string b] w fun e w' => e = .returned (.int .i64 (sharedN a.data.toList b.data.toList : Nat)) ∧ Drew w w' := by
  have la : a.data.toList.length = a.size := by simp
  have lb : b.data.toList.length = b.size := by simp
  have La := Lib.hid la
  have Lb := Lib.hid lb
  clear la lb
  go_enter Try.func57, Try.ntmps57
  go_wp2
  go_loopw [5] (fun i wr => ∃ k : Nat, k ≤ a.size ∧ k ≤ b.size ∧ i = .int .i64 k ∧ a.data.toList.take k = b.data.toList.take k ∧ Drew w wr) (fun i _ => a.size - (intOf i).toNat)
  case atStart => exact ⟨0, Nat.zero_le _, Nat.zero_le _, rfl, rfl, Drew.refl _⟩
  case round =>
    obtain ⟨k, hk1, hk2, rfl, htk, hbr⟩ := hrel
    have Hat := fun h => Lib.hid (sharedN_at k a.data.toList b.data.toList (by rw [La.out]; exact hk1) (by rw [Lb.out]; exact hk2) htk h)
    have Htk := Lib.hid htk
    clear htk
    by_cases h1 : (k : Int) < a.size
    · by_cases h2 : (k : Int) < b.size
      · have h1' : k < a.data.size := by show k < a.size; omega
        have h2' : k < b.data.size := by show k < b.size; omega
        have h1'' : k < a.size := h1'
        have h2'' : k < b.size := h2'
        have e1 := byte_at a k h1'
        have e2 := byte_at b k h2'
        by_cases hxy : a.data[k] = b.data[k]
        · have hd : ((a.data[k].toNat : Int) == (b.data[k].toNat : Int)) = true := by simp [hxy]
          have hd' : ((a[k].toNat : Int) == (b[k].toNat : Int)) = true := by
            have : (a[k] : UInt8) = b[k] := hxy
            simp [this]
          have Hnx := Lib.hid (take_snoc2 (by rw [La.out]; exact h1'') (by rw [Lb.out]; exact h2'') Htk.out (by rw [← e1, ← e2, hxy]))
          clear e1 e2 hxy Hat
          go_wp2
          go_quiet (fail)
          go_wp2
          go_roundw
          case rel => exact ⟨k + 1, by omega, by omega, by go_num, Hnx.out, hbr.drewN _⟩
          case measure => simp [intOf]; omega
        · have hxy' : ¬ (a[k] : UInt8) = b[k] := hxy
          have hd' : ((a[k].toNat : Int) == (b[k].toNat : Int)) = false := by
            simp only [beq_eq_false_iff_ne, ne_eq]
            intro h
            exact hxy' (UInt8.toNat_inj.1 (by omega))
          have hd : ((a.data[k].toNat : Int) == (b.data[k].toNat : Int)) = false := by
            simp only [beq_eq_false_iff_ne, ne_eq]
            intro h
            exact hxy (UInt8.toNat_inj.1 (by omega))
          have Hs := Hat (.inr (.inr (by rw [← e1, ← e2]; exact hxy)))
          clear e1 e2 hxy hxy' Hat
          go_wp2
          go_quiet (fail)
          go_wp2
          go_ret
          exact ⟨ret_int (by rw [Hs.out]), hbr.drewN _⟩
      · have hd : decide (k < b.size) = false := by simp; omega
        have hd' : decide ((k : Int) < (b.size : Int)) = false := by simp; omega
        have Hs := Hat (.inr (.inl (by rw [Lb.out]; omega)))
        clear h2 Hat
        go_wp2
        go_quiet (fail)
        go_wp2
        go_ret
        exact ⟨ret_int (by rw [Hs.out]), hbr.drewN _⟩
    · have hd : decide (k < a.size) = false := by simp; omega
      have hd' : decide ((k : Int) < (a.size : Int)) = false := by simp; omega
      have Hs := Hat (.inl (by rw [La.out]; omega))
      clear h1 Hat
      go_wp2
      go_quiet (fail)
      go_wp2
      go_ret
      exact ⟨ret_int (by rw [Hs.out]), hbr.drewN _⟩
set_option maxHeartbeats 800000 in
theorem common_any (a b : ByteArray) (w : World) (ha : a.size ≤ 140737488351232) : Calls Try.prog 67 #[.string a, .string b] w fun e w' => e = .returned (.int .i64 (sharedN a.data.toList b.data.toList : Nat)) ∧ Drew w w' := by
  have la : a.data.toList.length = a.size := by simp
  have lb : b.data.toList.length = b.size := by simp
  have La := Lib.hid la
  have Lb := Lib.hid lb
  clear la lb
  go_enter Try.func67, Try.ntmps67
  go_wp2
  go_loopw [5] (fun i wr => ∃ k : Nat, k ≤ a.size ∧ k ≤ b.size ∧ i = .int .i64 k ∧ a.data.toList.take k = b.data.toList.take k ∧ Drew w wr) (fun i _ => a.size - (intOf i).toNat)
  case atStart => exact ⟨0, Nat.zero_le _, Nat.zero_le _, rfl, rfl, Drew.refl _⟩
  case round =>
    obtain ⟨k, hk1, hk2, rfl, htk, hbr⟩ := hrel
    have Hat := fun h => Lib.hid (sharedN_at k a.data.toList b.data.toList (by rw [La.out]; exact hk1) (by rw [Lb.out]; exact hk2) htk h)
    have Htk := Lib.hid htk
    clear htk
    by_cases h1 : (k : Int) < a.size
    · by_cases h2 : (k : Int) < b.size
      · have h1' : k < a.data.size := by show k < a.size; omega
        have h2' : k < b.data.size := by show k < b.size; omega
        have h1'' : k < a.size := h1'
        have h2'' : k < b.size := h2'
        have e1 := byte_at a k h1'
        have e2 := byte_at b k h2'
        by_cases hxy : a.data[k] = b.data[k]
        · have hd : ((a.data[k].toNat : Int) == (b.data[k].toNat : Int)) = true := by simp [hxy]
          have hd' : ((a[k].toNat : Int) == (b[k].toNat : Int)) = true := by
            have : (a[k] : UInt8) = b[k] := hxy
            simp [this]
          have Hnx := Lib.hid (take_snoc2 (by rw [La.out]; exact h1'') (by rw [Lb.out]; exact h2'') Htk.out (by rw [← e1, ← e2, hxy]))
          clear e1 e2 hxy Hat
          go_wp2
          go_quiet (fail)
          go_wp2
          go_roundw
          case rel => exact ⟨k + 1, by omega, by omega, by go_num, Hnx.out, hbr.drewN _⟩
          case measure => simp [intOf]; omega
        · have hxy' : ¬ (a[k] : UInt8) = b[k] := hxy
          have hd' : ((a[k].toNat : Int) == (b[k].toNat : Int)) = false := by
            simp only [beq_eq_false_iff_ne, ne_eq]
            intro h
            exact hxy' (UInt8.toNat_inj.1 (by omega))
          have hd : ((a.data[k].toNat : Int) == (b.data[k].toNat : Int)) = false := by
            simp only [beq_eq_false_iff_ne, ne_eq]
            intro h
            exact hxy (UInt8.toNat_inj.1 (by omega))
          have Hs := Hat (.inr (.inr (by rw [← e1, ← e2]; exact hxy)))
          clear e1 e2 hxy hxy' Hat
          go_wp2
          go_quiet (fail)
          go_wp2
          go_ret
          exact ⟨ret_int (by rw [Hs.out]), hbr.drewN _⟩
      · have hd : decide (k < b.size) = false := by simp; omega
        have hd' : decide ((k : Int) < (b.size : Int)) = false := by simp; omega
        have Hs := Hat (.inr (.inl (by rw [Lb.out]; omega)))
        clear h2 Hat
        go_wp2
        go_quiet (fail)
        go_wp2
        go_ret
        exact ⟨ret_int (by rw [Hs.out]), hbr.drewN _⟩
    · have hd : decide (k < a.size) = false := by simp; omega
      have hd' : decide ((k : Int) < (a.size : Int)) = false := by simp; omega
      have Hs := Hat (.inl (by rw [La.out]; omega))
      clear h1 Hat
      go_wp2
      go_quiet (fail)
      go_wp2
      go_ret
      exact ⟨ret_int (by rw [Hs.out]), hbr.drewN _⟩
end Go.Proofs.Ytbepbbjeieafhaa.Bl

/-
  Plain mathematics of chapter 1 (octet): numbers as bytes and back, rows, the check sum. No program here.
-/

namespace Go.Proofs.Ytbepbbjeieafhaa.Oct

/-- a number as bytes, seven binary digits a byte -/
def enc (u : Nat) : List UInt8 := if _h : u < 128 then [UInt8.ofNat u] else UInt8.ofNat (u % 128 + 128) :: enc (u / 128)
termination_by u
decreasing_by omega
def clamp (z : Int) : Nat := (max 0 (min z 4611686018427387904)).toNat
def encs (zs : List Int) : List UInt8 := zs.flatMap fun z => enc (clamp z)
def row (l : List UInt8) : List UInt8 := enc l.length ++ l
def rows (ls : List (List UInt8)) : List UInt8 := ls.flatMap row
/-- a number taken: its value and what is left; i bytes of it, and u, were taken before -/
def dec : Nat → Nat → List UInt8 → Option (Nat × List UInt8)
  | _, _, [] => none
  | i, u, c :: r =>
    if 9 ≤ i ∨ (0 < i ∧ c.toNat = 0) then none
    else if c.toNat < 128 then (if 4611686018427387904 < u + c.toNat * 2 ^ (7 * i) then none else some (u + c.toNat * 2 ^ (7 * i), r))
    else dec (i + 1) (u + (c.toNat - 128) * 2 ^ (7 * i)) r
/-- a row taken -/
def decRow (l : List UInt8) : Option (List UInt8 × List UInt8) :=
  match dec 0 0 l with
  | none => none
  | some (n, r) => if n ≤ r.length then some (r.take n, r.drop n) else none

theorem enc_lt {u : Nat} (h : u < 128) : enc u = [UInt8.ofNat u] := by rw [enc, dif_pos h]
theorem enc_ge {u : Nat} (h : 128 ≤ u) : enc u = UInt8.ofNat (u % 128 + 128) :: enc (u / 128) := by rw [enc, dif_neg (by omega)]
theorem enc_pos (u : Nat) : 1 ≤ (enc u).length := by
  by_cases h : u < 128
  · rw [enc_lt h]; simp
  · rw [enc_ge (by omega)]; simp
theorem clamp_le (z : Int) : clamp z ≤ 4611686018427387904 := by unfold clamp; omega
/-- a number below 128^k has at most k bytes -/
theorem enc_length : ∀ (k u : Nat), u < 128 ^ (k + 1) → (enc u).length ≤ k + 1
  | 0, u, h => by rw [enc_lt (by simpa using h)]; simp
  | k + 1, u, h => by
    by_cases h1 : u < 128
    · rw [enc_lt h1]; simp
    · rw [enc_ge (by omega), List.length_cons]
      have := enc_length k (u / 128) (by rw [Nat.div_lt_iff_lt_mul (by omega)]; rwa [← Nat.pow_succ])
      omega
theorem enc_le9 {u : Nat} (h : u ≤ 4611686018427387904) : (enc u).length ≤ 9 := enc_length 8 u (by omega)
theorem encs_nil : encs [] = [] := rfl
theorem encs_append (a b : List Int) : encs (a ++ b) = encs a ++ encs b := by simp [encs]
theorem encs_snoc (a : List Int) (z : Int) : encs (a ++ [z]) = encs a ++ enc (clamp z) := by simp [encs]
theorem encs_length (zs : List Int) : (encs zs).length ≤ 9 * zs.length := by
  induction zs with
  | nil => simp [encs]
  | cons z r ih =>
    have h1 : encs (z :: r) = enc (clamp z) ++ encs r := by simp [encs]
    have h2 := enc_le9 (clamp_le z)
    rw [h1, List.length_append, List.length_cons]
    omega
theorem rows_nil : rows [] = [] := rfl
theorem rows_append (a b : List (List UInt8)) : rows (a ++ b) = rows a ++ rows b := by simp [rows]
theorem rows_snoc (a : List (List UInt8)) (l : List UInt8) : rows (a ++ [l]) = rows a ++ row l := by simp [rows]

/-- what was laid is taken -/
theorem dec_enc_go : ∀ (v i u : Nat) (r : List UInt8), (enc v).length + i ≤ 9 → (0 < i → 0 < v) → u + v * 2 ^ (7 * i) ≤ 4611686018427387904 → dec i u (enc v ++ r) = some (u + v * 2 ^ (7 * i), r) := by
  intro v
  induction v using Nat.strongRecOn with
  | _ v ih =>
    intro i u r hl h0 hu
    by_cases hv : v < 128
    · rw [enc_lt hv] at hl ⊢
      have e : (UInt8.ofNat v).toNat = v := by rw [UInt8.toNat_ofNat']; show v % 256 = v; omega
      simp only [List.cons_append, List.nil_append, dec, e]
      simp only [List.length_singleton] at hl
      rw [if_neg (by rintro (h | ⟨h1, h2⟩); omega; have := h0 h1; omega), if_pos hv, if_neg (by omega)]
    · rw [enc_ge (by omega)] at hl ⊢
      simp only [List.length_cons] at hl
      have e : (UInt8.ofNat (v % 128 + 128)).toNat = v % 128 + 128 := by rw [UInt8.toNat_ofNat']; show (v % 128 + 128) % 256 = _; omega
      simp only [List.cons_append, dec, e]
      rw [if_neg (by rintro (h | ⟨h1, h2⟩) <;> omega), if_neg (by omega)]
      have e2 : u + v * 2 ^ (7 * i) = u + (v % 128 + 128 - 128) * 2 ^ (7 * i) + v / 128 * 2 ^ (7 * (i + 1)) := by
        have h1 : 2 ^ (7 * (i + 1)) = 128 * 2 ^ (7 * i) := by rw [Nat.mul_succ, Nat.pow_add]; omega
        rw [h1, Nat.add_sub_cancel]
        have h2 : v * 2 ^ (7 * i) = (v % 128 + 128 * (v / 128)) * 2 ^ (7 * i) := by rw [Nat.mod_add_div]
        rw [h2, Nat.add_mul]
        have h3 : 128 * (v / 128) * 2 ^ (7 * i) = v / 128 * (128 * 2 ^ (7 * i)) := by rw [Nat.mul_comm 128 (v / 128), Nat.mul_assoc]
        omega
      rw [e2]
      exact ih (v / 128) (by omega) (i + 1) _ r (by omega) (by omega) (by rw [← e2]; exact hu)
theorem dec_enc (v : Nat) (r : List UInt8) (hv : v ≤ 4611686018427387904) : dec 0 0 (enc v ++ r) = some (v, r) := by
  have := dec_enc_go v 0 0 r (by have := enc_le9 hv; omega) (by omega) (by simpa using hv)
  simpa using this
theorem decRow_row (l r : List UInt8) (hl : l.length ≤ 4611686018427387904) : decRow (row l ++ r) = some (l, r) := by
  unfold decRow row
  rw [List.append_assoc, dec_enc _ _ hl]
  simp
theorem dec_length : ∀ (l : List UInt8) (i u n : Nat) (r : List UInt8), dec i u l = some (n, r) → r.length < l.length ∧ n ≤ 4611686018427387904
  | [], i, u, n, r, h => by simp [dec] at h
  | c :: l, i, u, n, r, h => by
    simp only [dec] at h
    split at h
    · cases h
    · split at h
      · split at h
        · cases h
        · simp only [Option.some.injEq, Prod.mk.injEq] at h
          obtain ⟨rfl, rfl⟩ := h
          simp; omega
      · have := dec_length l _ _ _ _ h
        simp; omega
end Go.Proofs.Ytbepbbjeieafhaa.Oct

/-
  Cells as bytes (chapter 7), in plain mathematics.
-/



namespace Go.Proofs.Ytbepbbjeieafhaa.Bl
open Oct
/-- how many bytes of its key a cell does not say -/
def nAt (l : List Cl) (k : Nat) : Nat := if k % 4 = 0 then 0 else sharedN (l.getD (k - 1) default).key.data.toList (l.getD k default).key.data.toList
/-- a cell as bytes, n bytes of its key left out -/
def encC (n : Nat) (c : Cl) : List UInt8 := enc n ++ row (c.key.data.toList.drop n) ++ enc (clamp c.seq) ++ (if c.del then enc 1 else enc 0 ++ row c.val.data.toList)
/-- the first k cells as bytes -/
def encUp (l : List Cl) : Nat → List UInt8
  | 0 => []
  | k + 1 => encUp l k ++ encC (nAt l k) (l.getD k default)
def encL (l : List Cl) : List UInt8 := encUp l l.length
/-- how much cells weigh -/
def weight : List Cl → Nat
  | [] => 0
  | c :: r => c.key.size + c.val.size + 1 + weight r
theorem weight_take : ∀ (l : List Cl) (k : Nat), k < l.length → weight (l.take (k + 1)) = weight (l.take k) + ((l.getD k default).key.size + (l.getD k default).val.size + 1)
  | c :: r, 0, _ => by simp [weight]
  | c :: r, k + 1, h => by
    have := weight_take r k (by simpa using h)
    simp only [List.take_succ_cons, weight, this]
    have e : (c :: r).getD (k + 1) default = r.getD k default := by simp [List.getD]
    rw [e]; omega
theorem weight_take_le : ∀ (l : List Cl) (k : Nat), weight (l.take k) ≤ weight l
  | [], k => by simp
  | c :: r, 0 => by simp [weight]
  | c :: r, k + 1 => by
    have := weight_take_le r k
    simp only [List.take_succ_cons, weight]; omega
theorem encC_length (n : Nat) (c : Cl) (hn : n ≤ 4611686018427387904) (hk : c.key.size ≤ 4611686018427387904) (hv : c.val.size ≤ 4611686018427387904) : (encC n c).length ≤ c.key.size + c.val.size + 46 := by
  have h1 := enc_le9 hn
  have h2 := enc_le9 (clamp_le c.seq)
  have h3 : (row (c.key.data.toList.drop n)).length ≤ c.key.size + 9 := by
    have : (c.key.data.toList.drop n).length ≤ c.key.size := by simp
    have h9 := enc_le9 (u := (c.key.data.toList.drop n).length) (by omega)
    simp only [row, List.length_append]; omega
  have h4 : (row c.val.data.toList).length ≤ c.val.size + 9 := by
    have : c.val.data.toList.length = c.val.size := by simp
    have h9 := enc_le9 (u := c.val.data.toList.length) (by omega)
    simp only [row, List.length_append]; omega
  have h5 := enc_le9 (u := 0) (by omega)
  have h6 := enc_le9 (u := 1) (by omega)
  unfold encC
  simp only [List.length_append]
  split
  · omega
  · simp only [List.length_append]; omega
end Go.Proofs.Ytbepbbjeieafhaa.Bl

/-
  bytes.Clone: new memory with the same bytes.
-/




namespace Go.Proofs.Ytbepbbjeieafhaa.Oct
open Go.RowKit L
theorem u8s_one (l : List UInt8) : ∀ u ∈ u8s l, u.oneCell' = true := by
  intro u hu
  obtain ⟨c, _, rfl⟩ := List.mem_map.1 hu
  rfl
theorem u8s_append (a b : List UInt8) : u8s (a ++ b) = u8s a ++ u8s b := by simp [u8s]
theorem u8s_length (l : List UInt8) : (u8s l).length = l.length := by simp [u8s]
set_option maxHeartbeats 400000 in
theorem clone_any (v : Value) (l : List UInt8) (w : World) (hv : Sl w 1 v l.length (u8s l)) (hn : l.length ≤ 140737488355328) :
    Calls Try.prog 66 #[v] w (RetV fun v' w' => Own w' w.heap.size 5 1 v' l.length (u8s l) ∧ Below w.heap.size w w') := by
  obtain ⟨i5, hi, hz0, hz1, hz2⟩ := info_parts Try.info5
  obtain ⟨hl, ao, cap, rfl, hc, hm, hnone, hcell⟩ := hv
  cases ao with
  | none =>
    obtain rfl : cap = 0 := hnone rfl
    have hl0 : l.length = 0 := by omega
    obtain rfl : l = [] := List.eq_nil_of_length_eq_zero hl0
    simp only [List.length_nil]
    have hne : ∀ w' : World, (binOp .eql 24 (.slice none 0 0) (.slice none 0 0)).run Try.prog w' = .ok (.bool true) w' := fun w' => by kernel_rfl
    go_enter Try.func66, Try.ntmps66
    go_wp2
    go_ret
    exact ⟨_, rfl, Own.nil _ _ _ _, Below.refl _ _⟩
  | some a =>
    have hne : ∀ w' : World, (binOp .eql 24 (.slice (some a) l.length cap) (.slice none 0 0)).run Try.prog w' = .ok (.bool false) w' := fun w' => by kernel_rfl
    have hsl : Sl w 1 (.slice (some a) l.length cap) l.length (u8s l) := ⟨hl, some a, cap, rfl, hc, hm, hnone, hcell⟩
    have h0 : Own (w.alloc (.cells #[] 5)) w.heap.size 5 1 (.slice (some ⟨w.heap.size, 0, none⟩) 0 0) 0 [] := Own.lit w [] 5 (Nat.zero_le _)
    have hb0 : Below w.heap.size w (w.alloc (.cells #[] 5)) := (Below.refl _ _).alloc (Nat.le_refl _) _
    have hs0 := hsl.below' hb0
    clear hcell hnone hl
    go_enter Try.func66, Try.ntmps66
    go_wp2_with (at_builtin; refine wpList_append_row _ rfl _ _ 24 rfl 5 i5 (.int .u8 0) 1 1 Try.underlying24 hi hz0 hz1 hz2 rfl (by decide) _ 0 [] rfl (h0.zero) _ l.length (u8s l) rfl hs0 (u8s_one l) (by unfold maxLen; omega) (by omega) ?_; intro v' w1 hown hk hsub hnil)
    go_wp2
    go_ret
    refine ⟨v', rfl, Own.from (by simpa using hown) fun k hk' => ?_, hb0.trans (hk.below hb0.size fun k hk' => ?_)⟩
    · rcases hsub k hk' with h | h
      · have : w.heap.size = k := Option.some.inj h
        omega
      · have := hb0.size; omega
    · have : w.heap.size = k := Option.some.inj hk'
      omega
end Go.Proofs.Ytbepbbjeieafhaa.Oct

/-
  Bytes and rows of bytes: what the walks of all chapters share.
-/


namespace Go.Proofs.Ytbepbbjeieafhaa.Oct
open Go.RowKit L
def ints (zs : List Int) : List Value := zs.map (Value.int .i64)
def u8ss (ls : List (List UInt8)) : List (List Value) := ls.map u8s
theorem u8ss_get (ls : List (List UInt8)) (k : Nat) : (u8ss ls).getD k [] = u8s (ls.getD k []) := by
  by_cases h : k < ls.length
  · simp [u8ss, List.getD, h]
  · simp [u8ss, List.getD, h, u8s]
/-- rows that are laid side by side as resources -/
theorem readsRows_one {W0 : World} {R : Asrt} {e : TypeId} {v v1 : Value} {l : List UInt8} (h1 : Reads W0 R 1 v1 l.length (u8s l)) :
    ReadsRows W0 ((Row e 1 v 1 [v1]).sep R) v [v1] (u8ss [l]) := by
  intro w hw
  refine ⟨hw.sl, fun i hi => ?_⟩
  simp [u8ss] at hi
  subst hi
  have := h1.at hw.drop1
  simpa [u8ss, u8s_length] using this
theorem readsRows_two {W0 : World} {R : Asrt} {e : TypeId} {v v1 v2 : Value} {l1 l2 : List UInt8} (h1 : Reads W0 R 1 v1 l1.length (u8s l1)) (h2 : Reads W0 R 1 v2 l2.length (u8s l2)) :
    ReadsRows W0 ((Row e 1 v 2 [v1, v2]).sep R) v [v1, v2] (u8ss [l1, l2]) := by
  intro w hw
  refine ⟨hw.sl, fun i hi => ?_⟩
  simp [u8ss] at hi
  have h1 := h1.at hw.drop1
  have h2 := h2.at hw.drop1
  have hi2 : i = 0 ∨ i = 1 := by omega
  rcases hi2 with rfl | rfl
  · simpa [u8ss, u8s_length] using h1
  · simpa [u8ss, u8s_length] using h2
theorem el8 : ElemOk Try.prog 24 5 1 1 := elemOk Try.underlying24 Try.info5 rfl (by decide)
theorem heavy_step {ls : List (List UInt8)} {k : Nat} (hk : k < ls.length) : (ls.take (k + 1)).flatten.length = (ls.take k).flatten.length + (ls.getD k []).length := by
  rw [List.take_succ_eq_append_getElem hk, List.flatten_append, List.length_append]
  simp only [List.flatten_cons, List.flatten_nil, List.append_nil, List.getD, List.getElem?_eq_getElem hk, Option.getD_some]
theorem flatten_take_le (ls : List (List UInt8)) (k : Nat) : (ls.take k).flatten.length ≤ ls.flatten.length := by
  conv => rhs; rw [← List.take_append_drop k ls, List.flatten_append, List.length_append]
  omega
theorem sl_prefix {w : World} {v : Value} {l x : List UInt8} (h : Sl w 1 v (l ++ x).length (u8s (l ++ x))) {t e : TypeId} (ht : Try.prog.underlying t = some (.slice e)) (hs : (Try.prog.info? e).map (fun i => i.size) = some 1) (hi : Value) (hhi : ∃ k, hi = .int k (l.length : Int)) :
    ∃ v', (∀ w' : World, (Instr.slice t v none (some hi) none).run Try.prog w' = .ok v' w') ∧ Sl w 1 v' l.length (u8s l) ∧ v'.ownBlock = v.ownBlock := by
  obtain ⟨k, rfl⟩ := hhi
  obtain ⟨v', h1, h2, h3⟩ := run_slice_sl (P := Try.prog) h ht hs none (some (.int k l.length)) 0 l.length (.inl ⟨rfl, rfl⟩) (.inr ⟨_, rfl⟩) (Nat.zero_le _) (by simp)
  refine ⟨v', h1, ?_, h3⟩
  simpa [u8s, List.take_append, List.take_of_length_le] using h2
theorem elR : ElemOk Try.prog 95 24 1 24 := elemOk Try.underlying95 Try.info24 rfl (by decide)
theorem rows_alloc {w : World} {v : Value} {ls : List (List UInt8)} (h : SlRows w v ls) (o : Obj) : SlRows (w.alloc o) v ls := h.below' ((Below.refl _ _).alloc (Nat.le_refl _) _)
theorem sl_alloc {w : World} {s n : Nat} {v : Value} {xs : List Value} (h : Sl w s v n xs) (o : Obj) : Sl (w.alloc o) s v n xs := h.below' ((Below.refl _ _).alloc (Nat.le_refl _) _)
/-- a literal of rows -/
theorem rowsLit {w : World} (vs : List Value) (ls : List (List UInt8)) (e : TypeId) (hl : vs.length = ls.length) (hm : vs.length ≤ 1000) (h : ∀ i, i < ls.length → Sl w 1 (vs.getD i undef) (ls.getD i []).length (u8s (ls.getD i []))) {b : Nat} (hb : w.heap.size = b) :
    SlRows (w.alloc (.cells vs.toArray e)) (.slice (some ⟨b, 0, none⟩) vs.length vs.length) ls := by
  subst hb
  have := sl_built w vs e (by unfold maxLen; omega)
  refine ⟨vs, by rw [← hl]; exact this, fun i hi => sl_alloc (h i hi) _⟩
theorem rowsLit1 {w : World} {v1 : Value} {l1 : List UInt8} (e : TypeId) (h1 : Sl w 1 v1 l1.length (u8s l1)) {b : Nat} (hb : w.heap.size = b) :
    SlRows (w.alloc (.cells #[v1] e)) (.slice (some ⟨b, 0, none⟩) 1 1) [l1] :=
  rowsLit [v1] [l1] e rfl (by simp) (fun i hi => by
    have : i = 0 := by simp at hi; omega
    subst this; exact h1) hb
theorem rowsLit2 {w : World} {v1 v2 : Value} {l1 l2 : List UInt8} (e : TypeId) (h1 : Sl w 1 v1 l1.length (u8s l1)) (h2 : Sl w 1 v2 l2.length (u8s l2)) {b : Nat} (hb : w.heap.size = b) :
    SlRows (w.alloc (.cells #[v1, v2] e)) (.slice (some ⟨b, 0, none⟩) 2 2) [l1, l2] :=
  rowsLit [v1, v2] [l1, l2] e rfl (by simp) (fun i hi => by
    have : i = 0 ∨ i = 1 := by simp at hi; omega
    rcases this with rfl | rfl
    · exact h1
    · exact h2) hb
theorem rowsNil (w : World) : SlRows w (.slice none 0 0) [] := ⟨[], Sl.nil w 1, fun i hi => by simp at hi⟩
/-- lists of rows, one behind the other -/
theorem rowsAppend {w : World} {v : Value} {vs1 vs2 : List Value} {l1 l2 : List (List UInt8)} (h : Sl w 1 v (l1.length + l2.length) (vs1 ++ vs2)) (hl1 : vs1.length = l1.length)
    (h1 : ∀ i, i < l1.length → Sl w 1 (vs1.getD i undef) (l1.getD i []).length (u8s (l1.getD i []))) (h2 : ∀ i, i < l2.length → Sl w 1 (vs2.getD i undef) (l2.getD i []).length (u8s (l2.getD i []))) : SlRows w v (l1 ++ l2) := by
  refine ⟨vs1 ++ vs2, by rw [List.length_append]; exact h, fun i hi => ?_⟩
  by_cases hi1 : i < l1.length
  · have := h1 i hi1
    simpa [List.getD, List.getElem?_append_left hi1, List.getElem?_append_left (show i < vs1.length by omega)] using this
  · have := h2 (i - l1.length) (by rw [List.length_append] at hi; omega)
    simpa [List.getD, List.getElem?_append_right (show l1.length ≤ i by omega), List.getElem?_append_right (show vs1.length ≤ i by omega), hl1] using this
theorem SlRows.mem {w : World} {v : Value} {ls : List (List UInt8)} (h : SlRows w v ls) : ls.length ≤ maxLen := by
  obtain ⟨vs, h1, _⟩ := h
  exact h1.le
theorem rows_ones {w : World} {vs : List Value} {ls : List (List UInt8)} (hl : vs.length = ls.length) (h : ∀ i, i < ls.length → Sl w 1 (vs.getD i undef) (ls.getD i []).length (u8s (ls.getD i []))) : ∀ u ∈ vs, u.oneCell' = true := by
  intro u hu
  obtain ⟨i, hi, rfl⟩ := List.getElem_of_mem hu
  have := (h i (by omega)).one
  simpa [List.getD, hi] using this
theorem _root_.Go.Proofs.Ytbepbbjeieafhaa.L.Sl.shape {w : World} {s n : Nat} {v : Value} {xs : List Value} (h : Sl w s v n xs) : ∃ ao cap, v = .slice ao n cap := by
  obtain ⟨_, ao, cap, rfl, _⟩ := h
  exact ⟨_, _, rfl⟩
/-- a constant's bytes, as a conversion leaves them -/
theorem slConst (w : World) (l : List UInt8) (e : TypeId) (k : Nat) (hm : l.length ≤ 1000000) {b : Nat} (hb : w.heap.size = b) :
    Sl (w.alloc (.cells (u8s l).toArray e (k, k + 1))) 1 (.slice (some ⟨b, 0, none⟩) l.length l.length) l.length (u8s l) := by
  have h := ((Hold.start w).addConst (u8s l) e k (by rw [u8s_length]; unfold maxLen; omega) hb).ro
  rw [u8s_length] at h
  exact h
end Go.Proofs.Ytbepbbjeieafhaa.Oct

/-
  The Writer of chapter 1: Nums, Raw, Bytes, Out: what they lay.
-/


namespace Go.Proofs.Ytbepbbjeieafhaa.Oct
open Go.RowKit L
/-- a Writer at a block of its own, and what was laid -/
def Wr (b : Nat) (l : List UInt8) : Asrt where
  at_ F w := ∃ v, w.heap[b]? = some (.cells #[v] 55 (0, 0)) ∧ Own w 0 5 1 v l.length (u8s l) ∧ v.ownBlock ≠ some b ∧ ∀ k, F k ↔ k = b ∨ v.ownBlock = some k
  stay := by
    rintro F w w' ⟨v, h1, h2, h3, h4⟩ hk
    have hr : (Row 5 1 v l.length (u8s l)).at_ (fun k => v.ownBlock = some k) w := ⟨h2, fun k => Iff.rfl⟩
    exact ⟨v, by rw [hk b ((h4 b).2 (.inl rfl))]; exact h1, ((Row 5 1 v l.length (u8s l)).stay hr fun k e => hk k ((h4 k).2 (.inr e))).1, h3, h4⟩
  lt := by
    rintro F w ⟨v, h1, h2, h3, h4⟩ k hk
    rcases (h4 k).1 hk with rfl | h
    · exact (Array.getElem?_eq_some_iff.1 h1).1
    · exact (h2.lt k h).2
/-- a Writer as it is made -/
theorem addWr {W0 w : World} {R : Asrt} (h : Hold W0 R w) {b : Nat} (hb : w.heap.size = b) : Hold W0 ((Wr b []).sep R) (w.alloc (.cells #[.slice none 0 0] 55)) := by
  subst hb
  exact h.add ((Below.refl _ _).alloc (Nat.le_refl _) _) (A := Wr w.heap.size []) (F := fun k => k = w.heap.size)
    ⟨.slice none 0 0, heap_alloc_new w _, Own.nil _ _ _ _, by simp [Value.ownBlock], fun k => by simp [Value.ownBlock]⟩ fun k hk => by omega

/-- what an append and the store back make of a Writer -/
theorem wr_step {W0 w w1 : World} {R : Asrt} {b : Nat} {l x : List UInt8} {F : Nat → Prop} {v v' : Value} {o : Obj}
    (hup : ∀ (w' : World) (A' : Asrt) (F' : Nat → Prop), Keeps F w w' → A'.at_ F' w' → (∀ k, F' k → F k ∨ w.heap.size ≤ k) → Hold W0 (A'.sep R) w')
    (hb : w.heap[b]? = some (.cells #[v] 55 (0, 0))) (hne : v.ownBlock ≠ some b) (hF : ∀ k, F k ↔ k = b ∨ v.ownBlock = some k)
    (hown : Own w1 0 5 1 v' (l.length + x.length) (u8s l ++ u8s x)) (hk : Keeps (fun k => v.ownBlock = some k) (w.alloc o) w1)
    (hsub : ∀ k, v'.ownBlock = some k → v.ownBlock = some k ∨ (w.alloc o).heap.size ≤ k) :
    w1.heap[b]? = some (.cells #[v] 55 (0, 0)) ∧ Hold W0 ((Wr b (l ++ x)).sep R) (w1.setCell ⟨b, 0, none⟩ v') := by
  have hblt : b < w.heap.size := (Array.getElem?_eq_some_iff.1 hb).1
  have hb1 : w1.heap[b]? = some (.cells #[v] 55 (0, 0)) := by
    rw [hk.block b (by simp; omega) hne, Below.heap_alloc _ _ _ hblt]; exact hb
  refine ⟨hb1, hup _ (Wr b (l ++ x)) (fun k => k = b ∨ v'.ownBlock = some k) ?_ ⟨v', ?_, ?_, ?_, fun k => Iff.rfl⟩ ?_⟩
  · refine Keeps.setCell (((Keeps.refl F w).alloc o).trans hk fun k hk' hv => (hF k).2 (.inr hv)) (fun _ => (hF b).2 (.inl rfl)) _
  · exact blk_set hb1 0 v'
  · have hne' : v'.ownBlock ≠ some b := by
      intro e
      rcases hsub b e with h | h
      · exact hne h
      · simp at h; omega
    have hr : (Row 5 1 v' (l ++ x).length (u8s (l ++ x))).at_ (fun k => v'.ownBlock = some k) w1 := ⟨by rw [u8s_append, List.length_append]; exact hown, fun k => Iff.rfl⟩
    exact ((Row 5 1 v' (l ++ x).length (u8s (l ++ x))).stay hr fun k hk' => Below.heap_setCell _ _ _ _ (fun e => hne' (by rw [hk', e]))).1
  · intro e
    rcases hsub b e with h | h
    · exact hne h
    · simp at h; omega
  · rintro k (rfl | hk')
    · exact .inl ((hF k).2 (.inl rfl))
    · rcases hsub k hk' with h | h
      · exact .inl ((hF k).2 (.inr h))
      · right; simp at h; omega
/-- the same, where no literal was laid ahead -/
theorem wr_step0 {W0 w w1 : World} {R : Asrt} {b : Nat} {l x : List UInt8} {F : Nat → Prop} {v v' : Value}
    (hup : ∀ (w' : World) (A' : Asrt) (F' : Nat → Prop), Keeps F w w' → A'.at_ F' w' → (∀ k, F' k → F k ∨ w.heap.size ≤ k) → Hold W0 (A'.sep R) w')
    (hb : w.heap[b]? = some (.cells #[v] 55 (0, 0))) (hne : v.ownBlock ≠ some b) (hF : ∀ k, F k ↔ k = b ∨ v.ownBlock = some k)
    (hown : Own w1 0 5 1 v' (l.length + x.length) (u8s l ++ u8s x)) (hk : Keeps (fun k => v.ownBlock = some k) w w1)
    (hsub : ∀ k, v'.ownBlock = some k → v.ownBlock = some k ∨ w.heap.size ≤ k) :
    w1.heap[b]? = some (.cells #[v] 55 (0, 0)) ∧ Hold W0 ((Wr b (l ++ x)).sep R) (w1.setCell ⟨b, 0, none⟩ v') := by
  have hblt : b < w.heap.size := (Array.getElem?_eq_some_iff.1 hb).1
  have hb1 : w1.heap[b]? = some (.cells #[v] 55 (0, 0)) := by
    rw [hk.block b hblt hne]; exact hb
  have hne' : v'.ownBlock ≠ some b := by
    intro e
    rcases hsub b e with h | h
    · exact hne h
    · omega
  refine ⟨hb1, hup _ (Wr b (l ++ x)) (fun k => k = b ∨ v'.ownBlock = some k) ?_ ⟨v', ?_, ?_, hne', fun k => Iff.rfl⟩ ?_⟩
  · exact Keeps.setCell ((Keeps.refl F w).trans hk fun k hk' hv => (hF k).2 (.inr hv)) (fun _ => (hF b).2 (.inl rfl)) _
  · exact blk_set hb1 0 v'
  · have hr : (Row 5 1 v' (l ++ x).length (u8s (l ++ x))).at_ (fun k => v'.ownBlock = some k) w1 := ⟨by rw [u8s_append, List.length_append]; exact hown, fun k => Iff.rfl⟩
    exact ((Row 5 1 v' (l ++ x).length (u8s (l ++ x))).stay hr fun k hk' => Below.heap_setCell _ _ _ _ (fun e => hne' (by rw [hk', e]))).1
  · rintro k (rfl | hk')
    · exact .inl ((hF k).2 (.inl rfl))
    · rcases hsub k hk' with h | h
      · exact .inl ((hF k).2 (.inr h))
      · exact .inr h

set_option maxHeartbeats 800000 in
theorem raw_any {W0 w : World} {R : Asrt} {b : Nat} {l : List UInt8} (h : Hold W0 ((Wr b l).sep R) w) (v : Value) (x : List UInt8) (hx : Reads W0 R 1 v x.length (u8s x)) (hn : l.length + x.length ≤ 140737488355328) :
    Calls Try.prog 60 #[.pointer (some ⟨b, 0, none⟩), v] w fun e w' => e = .returned (.tuple #[]) ∧ Hold W0 ((Wr b (l ++ x)).sep R) w' := by
  obtain ⟨i5, hi, hz0, hz1, hz2⟩ := info_parts Try.info5
  have hsx := hx.at h.drop1
  obtain ⟨F, ⟨vw, hb, hown, hne, hF⟩, hge, hup⟩ := h.take
  have hc0 : w.cell? ⟨b, 0, none⟩ = some vw := blk_cell hb 0
  clear hx
  go_enter Try.func60, Try.ntmps60
  go_wp2_with (at_builtin; refine wpList_append_row _ rfl _ _ 24 rfl 5 i5 (.int .u8 0) 1 1 Try.underlying24 hi hz0 hz1 hz2 rfl (by decide) _ l.length (u8s l) rfl hown _ x.length (u8s x) rfl hsx (u8s_one x) (by unfold maxLen; omega) (by omega) ?_; intro v' w1 hown' hk hsub hnil; obtain ⟨ao', cap', rfl⟩ := hown'.shape; obtain ⟨hb1, hH⟩ := wr_step0 hup hb hne hF hown' hk hsub; have hc1 : w1.cell? ⟨b, 0, none⟩ = some vw := blk_cell hb1 0; have hf1 := blk_free hb1 0)
  go_end0
  exact ⟨rfl, hH⟩
theorem or128 (u : Nat) : bits .or .u8 ((u : Int) % 256) 128 = ((UInt8.ofNat (u % 128 + 128)).toNat : Int) := by
  have h1 : ((u : Int) % 256) = ((u % 256 : Nat) : Int) := by omega
  rw [h1, show (128 : Int) = ((128 : Nat) : Int) from rfl, u8_or_nat _ _ (by omega) (by omega), UInt8.toNat_ofNat']
  congr 1
  show u % 256 ||| 128 = (u % 128 + 128) % 256
  have h2 : ∀ a : Fin 256, (a.val ||| 128) = (a.val % 128 + 128) % 256 := by decide +kernel
  have := h2 ⟨u % 256, by omega⟩
  simp only at this
  rw [this]
  omega
theorem byte_lt (u : Nat) : ((u : Int) % 256) = ((UInt8.ofNat u).toNat : Int) := by
  rw [UInt8.toNat_ofNat']
  show _ = ((u % 256 : Nat) : Int)
  omega
theorem u8s_single (c : UInt8) : u8s [c] = [.int .u8 c.toNat] := rfl
set_option maxRecDepth 100000 in
set_option maxHeartbeats 2000000 in
theorem nums_any {W0 w : World} {R : Asrt} {b : Nat} {l : List UInt8} (h : Hold W0 ((Wr b l).sep R) w) (va : Value) (zs : List Int) (ha : Reads W0 R 1 va zs.length (ints zs)) (hz : ∀ z ∈ zs, -9223372036854775808 ≤ z ∧ z ≤ 9223372036854775807)
    (hn : l.length + 9 * zs.length ≤ 140737488355328) :
    Calls Try.prog 29 #[.pointer (some ⟨b, 0, none⟩), va] w fun e w' => e = .returned (.tuple #[]) ∧ Hold W0 ((Wr b (l ++ encs zs)).sep R) w' := by
  obtain ⟨i5, hi, hz0, hz1, hz2⟩ := info_parts Try.info5
  have hlen := (ha.at h.drop1).run_len Try.underlying92
  have Ha := Lib.hid ha
  have Hz := Lib.hid hz
  clear ha hz
  go_enter Try.func29, Try.ntmps29
  go_wp2
  go_loopw [11] (fun i wr => ∃ k : Nat, k ≤ zs.length ∧ i = .int .i64 k ∧ Hold W0 ((Wr b (l ++ encs (zs.take k))).sep R) wr) (fun i _ => zs.length - (intOf i).toNat)
  case atStart => exact ⟨0, Nat.zero_le _, rfl, by simpa [encs] using h⟩
  case round =>
    obtain ⟨k, hk, rfl, hH⟩ := hrel
    by_cases hlt : k < zs.length
    · obtain ⟨z, hze⟩ : ∃ z, z = zs[k] := ⟨_, rfl⟩
      obtain ⟨A, hA, hblk, hcell⟩ := run_indexAt_sl (P := Try.prog) (Ha.out.at hH.drop1) Try.underlying92 Try.size3 .i64 (k : Int) (by omega) (by omega)
      have hc := hcell 0 (by omega)
      have hzb := Hz.out z (by rw [hze]; exact List.getElem_mem _)
      simp only [add_zero, Int.toNat_natCast, Nat.mul_one, Nat.add_zero, ints, List.getD, List.getElem?_map, List.getElem?_eq_getElem hlt, Option.map_some, Option.getD_some] at hc
      rw [← hze] at hc
      have htk : zs.take (k + 1) = zs.take k ++ [z] := by rw [List.take_succ_eq_append_getElem hlt, hze]
      have Htk : Hid (encs (zs.take (k + 1)) = encs (zs.take k) ++ enc (clamp z)) := by show _ = _; rw [htk, encs_snoc]
      have hle : (encs (zs.take k)).length ≤ 9 * k := by have := encs_length (zs.take k); simp at this; omega
      clear hcell hze htk
      obtain ⟨B, hB⟩ : ∃ B, B = l ++ encs (zs.take k) := ⟨_, rfl⟩
      have hBl : B.length ≤ l.length + 9 * k := by rw [hB, List.length_append]; omega
      rw [← hB] at hH
      have HB := Lib.hid hB
      clear hB
      have hcl := clamp_le z
      have h9 := enc_le9 hcl
      have hcz : z ≤ 0 ∧ clamp z = 0 ∨ 0 < z ∧ z ≤ 4611686018427387904 ∧ (clamp z : Int) = z ∨ 4611686018427387904 < z ∧ clamp z = 4611686018427387904 := by unfold clamp; omega
      obtain ⟨C, hC⟩ : ∃ C, C = clamp z := ⟨_, rfl⟩
      rw [← hC] at hcz h9 hcl Htk
      clear hC
      rcases hcz with ⟨hz1', hz2'⟩ | ⟨hz1', hz2', hz3'⟩ | ⟨hz1', hz2'⟩
      all_goals
        go_wp2
        go_loopw [6] (fun x wr => ∃ (u : Nat) (l1 : List UInt8), u ≤ 4611686018427387904 ∧ x = .int .u64 u ∧ Hold W0 ((Wr b l1).sep R) wr ∧ l1 ++ enc u = B ++ enc C) (fun x _ => (intOf x).toNat)
        case atStart => exact ⟨C, B, hcl, by first | (rw [hz3']) | (rw [hz2']; rfl), hH, rfl⟩
        case round =>
          obtain ⟨u, l1, hu, rfl, hHi, hl1⟩ := hrel
          have hll : l1.length + (enc u).length ≤ l.length + 9 * zs.length := by
            have := congrArg List.length hl1
            simp only [List.length_append] at this
            omega
          have hep := enc_pos u
          have Hl1 := Lib.hid hl1
          clear hl1
          obtain ⟨F, ⟨vw, hb, hown, hne, hF⟩, _, hup⟩ := hHi.take
          have Hup := Lib.hid hup
          have HF := Lib.hid hF
          clear hup hF
          have hc0 : wr.cell? ⟨b, 0, none⟩ = some vw := blk_cell hb 0
          by_cases h128 : u < 128
          · obtain ⟨c, rfl⟩ : ∃ c : UInt8, u = c.toNat := ⟨UInt8.ofNat u, by rw [UInt8.toNat_ofNat']; show u = u % 256; omega⟩
            go_wp2_with (at_builtin; refine wpList_append_row _ rfl _ _ 24 rfl 5 i5 (.int .u8 0) 1 1 Try.underlying24 hi hz0 hz1 hz2 rfl (by decide) _ l1.length (u8s l1) rfl (hown.alloc _) _ 1 (u8s [c]) rfl (sl_built wr (u8s [c]) 5 (by simp [u8s, maxLen])) (u8s_one _) (by unfold maxLen; omega) (by omega) ?_; intro v' w1 hown' hk hsub hnil; obtain ⟨ao', cap', rfl⟩ := hown'.shape; obtain ⟨hb1, hH'⟩ := wr_step (x := [c]) Hup.out hb hne HF.out hown' hk hsub; have hc1 : w1.cell? ⟨b, 0, none⟩ = some vw := blk_cell hb1 0; have hf1 := blk_free hb1 0)
            have hfin : l ++ encs (zs.take (k + 1)) = l1 ++ [c] := by
              rw [Htk.out, ← List.append_assoc, ← HB.out, ← Hl1.out, enc_lt h128]
              congr 2
              apply UInt8.toNat_inj.1
              simp
            go_roundw
            case rel => exact ⟨k + 1, by omega, by go_num, by rw [hfin]; exact hH'⟩
            case measure => simp [intOf]; omega
          · obtain ⟨c, hcu⟩ : ∃ c, c = UInt8.ofNat (u % 128 + 128) := ⟨_, rfl⟩
            have hor := or128 u
            rw [← hcu] at hor
            have Hcu := Lib.hid hcu
            clear hcu
            go_wp2_with (at_builtin; refine wpList_append_row _ rfl _ _ 24 rfl 5 i5 (.int .u8 0) 1 1 Try.underlying24 hi hz0 hz1 hz2 rfl (by decide) _ l1.length (u8s l1) rfl (hown.alloc _) _ 1 (u8s [c]) rfl (sl_built wr (u8s [c]) 5 (by simp [u8s, maxLen])) (u8s_one _) (by unfold maxLen; omega) (by omega) ?_; intro v' w1 hown' hk hsub hnil; obtain ⟨ao', cap', rfl⟩ := hown'.shape; obtain ⟨hb1, hH'⟩ := wr_step (x := [c]) Hup.out hb hne HF.out hown' hk hsub; have hc1 : w1.cell? ⟨b, 0, none⟩ = some vw := blk_cell hb1 0; have hf1 := blk_free hb1 0)
            have hfin : (l1 ++ [c]) ++ enc (u / 128) = B ++ enc C := by
              rw [← Hl1.out, enc_ge (u := u) (by omega), List.append_assoc, ← Hcu.out]
              rfl
            go_roundw
            case rel => exact ⟨u / 128, l1 ++ [c], by omega, by go_num, hH', hfin⟩
            case measure => simp [intOf]; omega
    · go_wp2
      go_end0
      obtain rfl : k = zs.length := by omega
      exact ⟨rfl, by simpa using hH⟩
theorem rows_length_le (ls : List (List UInt8)) (k : Nat) : (rows (ls.take k)).length ≤ (rows ls).length := by
  conv => rhs; rw [← List.take_append_drop k ls, rows_append, List.length_append]
  omega
set_option maxHeartbeats 800000 in
theorem wbytes_any {W0 w : World} {R : Asrt} {b : Nat} {l : List UInt8} (h : Hold W0 ((Wr b l).sep R) w) (va : Value) (vs : List Value) (ls : List (List UInt8)) (ha : ReadsRows W0 R va vs (u8ss ls))
    (hn : l.length + (rows ls).length + 9 ≤ 140737488355328) :
    Calls Try.prog 30 #[.pointer (some ⟨b, 0, none⟩), va] w fun e w' => e = .returned (.tuple #[]) ∧ Hold W0 ((Wr b (l ++ rows ls)).sep R) w' := by
  have hll : (u8ss ls).length = ls.length := by simp [u8ss]
  have hsl := ha.outer h.drop1
  rw [hll] at hsl
  have hlen := hsl.run_len Try.underlying95
  have hmx := hsl.le
  unfold maxLen at hmx
  have Ha := Lib.hid ha
  have Hll := Lib.hid hll
  clear ha hsl hll
  go_enter Try.func30, Try.ntmps30
  go_wp2
  go_loopw [8] (fun i wr => ∃ k : Nat, k ≤ ls.length ∧ i = .int .i64 k ∧ Hold W0 ((Wr b (l ++ rows (ls.take k))).sep R) wr) (fun i _ => ls.length - (intOf i).toNat)
  case atStart => exact ⟨0, Nat.zero_le _, rfl, by simpa [rows] using h⟩
  case round =>
    obtain ⟨k, hk, rfl, hH⟩ := hrel
    by_cases hlt : k < ls.length
    · have hsl := Ha.out.outer hH.drop1
      rw [Hll.out] at hsl
      obtain ⟨A, hA, hblk, hcell⟩ := run_indexAt_sl (P := Try.prog) hsl Try.underlying95 Try.size24 .i64 (k : Int) (by omega) (by omega)
      have hc := hcell 0 (by omega)
      simp only [add_zero, Int.toNat_natCast, Nat.mul_one, Nat.add_zero] at hc
      obtain ⟨x, hx⟩ : ∃ x, x = ls.getD k [] := ⟨_, rfl⟩
      have hin := Ha.out.inner (i := k) (by rw [Hll.out]; exact hlt)
      rw [u8ss_get, ← hx, u8s_length] at hin
      obtain ⟨v, hv⟩ : ∃ v, v = vs.getD k undef := ⟨_, rfl⟩
      rw [← hv] at hc hin
      have htk : rows (ls.take (k + 1)) = rows (ls.take k) ++ row x := by
        rw [List.take_succ_eq_append_getElem hlt, rows_snoc, hx]
        simp [List.getD, hlt]
      have hbd := rows_length_le ls (k + 1)
      rw [htk, List.length_append] at hbd
      have hrow : (row x).length = (enc x.length).length + x.length := by simp [row]
      have hlv := (hin.at hH.drop1).run_len Try.underlying24
      have hxl := (hin.at hH.drop1).le
      unfold maxLen at hxl
      have Hin := Lib.hid hin
      have Htk := Lib.hid htk
      have Hrow := Lib.hid hrow
      clear hsl hcell hx hin hv htk hrow hlen
      have hcap : clamp (x.length : Int) = x.length := by have := Hrow.out; unfold clamp; omega
      have he9 : (rows (ls.take k)).length ≤ (rows ls).length := rows_length_le ls k
      have Hcap := Lib.hid hcap
      clear hcap
      go_wp2_with fail
      have h1 := (hH.addLit (.int .i64 (x.length : Int)) 3).up2
      refine (nums_any h1 _ [(x.length : Int)] Reads.row (by intro z hz; simp at hz; omega) (by simp only [List.length_append, List.length_singleton]; omega)).mono ?_
      rintro e w1 ⟨rfl, h2⟩
      rw [show encs [(x.length : Int)] = enc x.length from by simp [encs, Hcap.out]] at h2
      have h3 := h2.up2.drop1
      clear h1 h2
      go_wp2_with fail
      refine (raw_any h3 v x Hin.out (by have := Hrow.out; simp only [List.length_append]; omega)).mono ?_
      rintro e w2 ⟨rfl, h4⟩
      rw [show l ++ rows (ls.take k) ++ enc x.length ++ x = l ++ rows (ls.take (k + 1)) from by rw [Htk.out, row]; simp] at h4
      go_wp2
      go_roundw
      case rel => exact ⟨k + 1, by omega, by go_num, h4⟩
      case measure => simp [intOf]; omega
    · go_wp2
      go_end0
      obtain rfl : k = ls.length := by omega
      exact ⟨rfl, by simpa using hH⟩
theorem out_any {W0 w : World} {R : Asrt} {b : Nat} {l : List UInt8} (h : Hold W0 ((Wr b l).sep R) w) (hn : l.length ≤ 140737488355328) :
    Calls Try.prog 34 #[.pointer (some ⟨b, 0, none⟩)] w (RetV fun v' w' => Own w' w.heap.size 5 1 v' l.length (u8s l) ∧ Below w.heap.size w w') := by
  obtain ⟨F, ⟨vw, hb, hown, hne, hF⟩, _, _⟩ := h.take
  have hc0 : w.cell? ⟨b, 0, none⟩ = some vw := blk_cell hb 0
  go_enter Try.func34, Try.ntmps34
  go_wp2_with fail
  refine (clone_any vw l _ (Own.sl hown) hn).mono ?_
  rintro e w1 ⟨v', rfl, hr⟩
  have Hr := Lib.hid hr
  clear hr
  go_wp2
  go_ret
  exact ⟨v', rfl, Hr.out⟩
end Go.Proofs.Ytbepbbjeieafhaa.Oct

/-
  []byte(s): a text's bytes as a slice of their own: the walk's law. Over any program.
-/


namespace Go.Proofs.Ytbepbbjeieafhaa.L
open Go.RowKit
/-- the bytes of a text -/
def byts (s : ByteArray) : List UInt8 := s.data.toList
theorem byts_length (s : ByteArray) : (byts s).length = s.size := by simp [byts]
section
variable {P : Program} {W0 w : World} {R : Asrt} {src dst e : TypeId}
theorem own_conv (s : ByteArray) (hs : P.underlying src = some .string) (hd : P.underlying dst = some (.slice e)) (he : P.underlying e = some (.int .u8)) (hn : s.size ≤ maxLen) :
    ∃ v w', (convert src dst (.string s)).run P w = .ok v w' ∧ Own w' w.heap.size e 1 v (byts s).length (u8s (byts s)) ∧ Below w.heap.size w w' := by
  have hge := grownCap_ge w s.size 0 e
  have hcm : grownCap w s.size 0 e ≤ maxLen := grownCap_le_maxLen w s.size 0 e hn
  refine ⟨_, _, run_bytes_of_string w src dst e s hs hd he, ⟨by simp [u8s], .inr ⟨w.heap.size, grownCap w s.size 0 e, bytesRow s (grownCap w s.size 0 e), by rw [byts_length], Nat.le_refl _, ⟨e, _, heap_alloc_new w.drew _, ?_⟩, by rw [byts_length]; exact hge, hcm, ?_, ?_⟩⟩, ((Below.refl _ _).drew).alloc (Nat.le_refl _) _⟩
  · intro i hi
    have : (bytesRow s (grownCap w s.size 0 e)).size = grownCap w s.size 0 e := by
      simp only [bytesRow, Array.size_append, Array.size_map, Array.size_replicate]
      have : s.data.size = s.size := rfl
      omega
    rw [this]
    simp; omega
  · simp only [bytesRow, Array.size_append, Array.size_map, Array.size_replicate]
    have : s.data.size = s.size := rfl
    omega
  · rw [byts_length]
    simp only [bytesRow, Array.toList_append, Array.toList_map, Nat.mul_one]
    rw [List.take_append_of_le_length (by simp), List.take_of_length_le (by simp)]
    rfl
variable {ops : Array Oper} {rest : List Oper} {o : Oper} {a : Act} {Q : Exit → Act → World → Prop}
/-- []byte(s) in a walk -/
theorem wpList_conv (H : Hold W0 R w) (hgd : o.guard = none) (x : Operand) (ho : o.op = .convert src dst x) (s : ByteArray) (hx : a.eval x = .string s)
    (hs : P.underlying src = some .string) (hd : P.underlying dst = some (.slice e)) (he : P.underlying e = some (.int .u8)) (hn : s.size ≤ 140737488355328)
    (h : ∀ v w', Hold W0 ((Row e 1 v (byts s).length (u8s (byts s))).sep R) w' → wpList P ops Q rest (a.put o.dst v) w') : wpList P ops Q (o :: rest) a w := by
  refine wpList_plain hgd fun K hK => ?_
  obtain ⟨v, w', hr, hown, hb⟩ := own_conv (P := P) (w := w) s hs hd he (by unfold maxLen; omega)
  unfold Oper.wp execOp
  simp only [ho, hx]
  simp [hr, Result.andThen]
  exact hK _ _ (h v w' (H.addRow hb hown))
end
end Go.Proofs.Ytbepbbjeieafhaa.L

/-
  Encode of chapter 7: what it answers.
-/





namespace Go.Proofs.Ytbepbbjeieafhaa.Bl
open Go.RowKit L Oct
/-- what Encode hands back -/
def encR (l : List Cl) : List UInt8 := if riseN l = 0 then encL l else []
def RetEnc (w : World) (l : List Cl) (e : Ending) (w' : World) : Prop := ∃ v, e = .returned (.tuple #[v, .int .i64 (riseN l)]) ∧ Own w' w.heap.size 5 1 v (encR l).length (u8s (encR l)) ∧ Below w.heap.size w w'
def goneN (b : Bool) : Int := if b then 1 else 0
theorem gone_any (b : Bool) (w : World) : Calls Try.prog 58 #[.bool b] w fun e w' => e = .returned (.int .i64 (goneN b)) ∧ w = w' := by
  cases b with
  | true =>
    go_enter Try.func58, Try.ntmps58
    go_wp2
    go_ret
    exact ⟨rfl, rfl⟩
  | false =>
    go_enter Try.func58, Try.ntmps58
    go_wp2
    go_ret
    exact ⟨rfl, rfl⟩
theorem isC_key {c : Cl} (h : isC c = true) : c.key.size ≤ 4096 ∧ c.val.size ≤ 16384 := by
  simp only [isC, Bool.and_eq_true, decide_eq_true_eq] at h
  omega
theorem isC_seq {c : Cl} (h : isC c = true) : 1 ≤ c.seq ∧ c.seq ≤ 1099511627776 := by
  simp only [isC, Bool.and_eq_true, decide_eq_true_eq] at h
  exact ⟨h.1.2, h.2⟩
theorem seq_ok {q : Int} {b : Bool} (h : 1 ≤ q ∧ q ≤ 1099511627776) : ∀ z ∈ [q, goneN b], -9223372036854775808 ≤ z ∧ z ≤ 9223372036854775807 := by
  intro z hz
  simp only [List.mem_cons, List.not_mem_nil, or_false] at hz
  rcases hz with rfl | rfl
  · omega
  · unfold goneN
    split <;> omega
theorem encs_cell (q : Int) (b : Bool) : encs [q, goneN b] = enc (clamp q) ++ enc (if b then 1 else 0) := by
  have h0 : clamp 0 = 0 := by decide
  have h1 : clamp 1 = 1 := by decide
  cases b
  · simp [encs, goneN, h0]
  · simp [encs, goneN, h1]
theorem nAt_le (l : List Cl) (k : Nat) : nAt l k ≤ (l.getD k default).key.size := by
  unfold nAt
  split
  · omega
  · have := (sharedN_le (l.getD (k - 1) default).key.data.toList (l.getD k default).key.data.toList).2.1
    simpa using this
theorem encUp_length (l : List Cl) (h : ∀ c ∈ l, isC c = true) : ∀ k, k ≤ l.length → (encUp l k).length ≤ 21000 * k
  | 0, _ => by simp [encUp]
  | k + 1, hk => by
    have ih := encUp_length l h k (by omega)
    have h1 := isC_key (h (l.getD k default) (by rw [getD_get (show k < l.length by omega)]; exact List.getElem_mem _))
    have h2 := nAt_le l k
    have h3 := encC_length (nAt l k) (l.getD k default) (by omega) (by omega) (by omega)
    rw [encUp, List.length_append]
    omega
theorem riseN_all {l : List Cl} (h : riseN l = 0) : ∀ c ∈ l, isC c = true := by
  unfold riseN at h
  cases ha : l.all isC with
  | false => simp [ha] at h
  | true => exact List.all_eq_true.1 ha
theorem byts_from (s : ByteArray) (n : Nat) : byts (s.extract n s.size) = (byts s).drop n := by
  simp [byts, ByteArray.data_extract, Array.toList_extract, List.extract_eq_take_drop]
  rw [List.take_of_length_le (by simp)]
theorem rows_one (l : List UInt8) : rows [l] = row l := by simp [rows]
theorem riseN_small (l : List Cl) : riseN l ≤ 11 := by unfold riseN; split <;> (try split) <;> omega
set_option maxRecDepth 100000 in
set_option maxHeartbeats 1600000 in
theorem encode_any (v : Value) (l : List Cl) (w : World) (h : Sl w 4 v l.length (cls l)) (hn : l.length ≤ 100000) : Calls Try.prog 27 #[v] w (RetEnc w l) := by
  have hlen := h.run_len Try.underlying22
  have hr11 := riseN_small l
  go_enter Try.func27, Try.ntmps27
  go_wp2_with fail
  refine (rises_any v l w h).mono ?_
  rintro e w1 ⟨rfl, hb1⟩
  by_cases hr : riseN l = 0
  · have hz : ((riseN l : Int) != 0) = false := by simp [hr]
    have H0 := addWr ((Hold.start w).keeps hb1) (b := w1.heap.size) rfl
    have Hr := Lib.hid hr
    have Hall := Lib.hid (riseN_all hr)
    clear hr hb1
    go_wp2
    go_loopw [16] (fun i wr => ∃ k : Nat, k ≤ l.length ∧ i = .int .i64 k ∧ Hold w ((Wr w1.heap.size (encUp l k)).sep Asrt.emp) wr) (fun i _ => l.length - (intOf i).toNat)
    case atStart => exact ⟨0, Nat.zero_le _, rfl, H0⟩
    case round =>
      clear H0
      obtain ⟨k, hk, rfl, H⟩ := hrel
      by_cases hlt : k < l.length
      · obtain ⟨A, c, hA, _, hcells, Hc⟩ := (h.below' H.old).atCl (P := Try.prog) Try.underlying22 Try.size39 k _ rfl hlt
        obtain ⟨c0, c1, c2, c3⟩ := hcells
        have hlen2 : (encUp l k).length ≤ 21000 * k := encUp_length l Hall.out k (by omega)
        have hck := isC_key (Hall.out c (by rw [Hc.out, getD_get hlt]; exact List.getElem_mem hlt))
        have Hsq := Lib.hid (isC_seq (Hall.out c (by rw [Hc.out, getD_get hlt]; exact List.getElem_mem hlt)))
        have HB := Lib.hid (H.addBlk (cs := #[.string c.key, .string c.val, .bool c.del, .int .i64 c.seq]) (t := 39) (b := wr.heap.size) rfl)
        go_upto_if 23 with fail
        obtain ⟨b7, hb7⟩ : ∃ b7, b7 = wr.heap.size := ⟨_, rfl⟩
        obtain ⟨w2, hw2⟩ : ∃ w2, w2 = wr.alloc (.cells #[.string c.key, .string c.val, .bool c.del, .int .i64 c.seq] 39) := ⟨_, rfl⟩
        rw [← hb7, ← hw2] at HB
        rw [← hb7, ← hw2]
        clear hb7 hw2
        go_cut [8] (fun s8 wc => ∃ n : Nat, s8 = .int .i64 n ∧ Hid (n = nAt l k) ∧ Hold w ((Blk b7 #[.string c.key, .string c.val, .bool c.del, .int .i64 c.seq] 39).sep ((Wr w1.heap.size (encUp l k)).sep Asrt.emp)) wc)
        case first =>
          clear c0 c1 c2 c3 H
          by_cases h4 : k % 4 = 0
          · have h4z : ((k : Int) % 4 != 0) = false := by simp; omega
            have hN : Hid (nAt l k = 0) := Lib.hid (by rw [nAt, if_pos h4])
            clear h4
            go_wp2
            go_meet
            exact ⟨0, rfl, Lib.hid hN.out.symm, HB.out⟩
          · have h4z : ((k : Int) % 4 != 0) = true := by simp; omega
            have hN : Hid (nAt l k = sharedN (l.getD (k - 1) default).key.data.toList c.key.data.toList) := Lib.hid (by rw [nAt, if_neg h4, Hc.out])
            have hk1 : 1 ≤ k := by omega
            clear h4
            obtain ⟨A', c', hA', _, hcells', Hc'⟩ := (h.below' HB.out.old).atCl (P := Try.prog) Try.underlying22 Try.size39 (k - 1) ((k : Int) - 1) (by omega) (by omega)
            have hck' := isC_key (Hall.out c' (by rw [Hc'.out, getD_get (show k - 1 < l.length by omega)]; exact List.getElem_mem _))
            have c0' := hcells'.key
            have d0 := blk_cell HB.out.blk 0
            have h01 : (0 : Int) ≤ (k : Int) - 1 := by omega
            have hwr : IntKind.i64.wrap ((k : Int) - 1) = (k : Int) - 1 := IntWalk.i64_in _ (by omega)
            clear hcells'
            go_wp2_with fail
            go_region_held3 (fun w' => w'.cell? A' = some (.string c'.key) ∧ w'.cell? ⟨b7, 0, none⟩ = some (.string c.key)) (go_keep)
              (first | (go_at_call 57; refine (shared_any c'.key c.key _ (by omega)).mono ?_; rintro e w3 ⟨rfl, q, rfl⟩))
            go_wp2_with fail
            go_meet
            exact ⟨_, rfl, Lib.hid (by rw [hN.out, Hc'.out]), HB.out.keeps (below_drewN (Below.refl _ _) _)⟩
        case rest =>
          clear HB H
          obtain ⟨n, rfl, Hn, H2⟩ := hcut
          have hnl := nAt_le l k
          rw [← Hn.out, ← Hc.out] at hnl
          have hcl : Hid (clamp (n : Int) = n) := Lib.hid (by unfold clamp; omega)
          go_wp2_with fail
          have H3 := (H2.up2.addLits [.int .i64 n] 3 (by simp [maxLen]) (b := wc.heap.size) rfl).up2
          refine (nums_any H3 _ [(n : Int)] Reads.row (by intro z hz; simp at hz; subst hz; omega) (by simp only [List.length_singleton]; omega)).mono ?_
          rintro e w3 ⟨rfl, H4⟩
          rw [show encs [(n : Int)] = enc n from by simp [encs, hcl.out]] at H4
          have H5 := H4.up2.drop1
          have k0 := blk_cell H5.up2.blk 0
          clear H2 H3 H4
          have hxs : (c.key.extract n c.key.size).size ≤ 4096 := by rw [ByteArray.size_extract]; omega
          have Hxs : Hid (byts (c.key.extract n c.key.size) = (byts c.key).drop n) := Lib.hid (byts_from c.key n)
          have h9n := enc_le9 (u := n) (by omega)
          have h9d := enc_le9 (u := c.key.size - n) (by omega)
          have h9x := enc_le9 (u := (c.key.extract n c.key.size).size) (by omega)
          go_wp2_with (with_reducible refine wpList_conv H5 rfl _ rfl (c.key.extract n c.key.size) rfl Try.underlying9 Try.underlying24 Try.underlying5 (by omega) ?_; intro v4 w4 H6; obtain ⟨ao4, cap4, rfl⟩ := H6.own.shape; clear H5)
          have H7 := (H6.addLits [.slice ao4 (byts (c.key.extract n c.key.size)).length cap4] 24 (by simp [maxLen]) (b := w4.heap.size) rfl).up3
          clear H6
          refine (wbytes_any H7 _ _ [byts (c.key.extract n c.key.size)] (readsRows_one Reads.row) (by simp only [List.length_append, rows_one, row, byts_length]; omega)).mono ?_
          rintro e w5 ⟨rfl, H8⟩
          have H9 := H8.up2.drop1.up2.drop1
          rw [rows_one, Hxs.out] at H9
          have k3 := blk_cell H9.up2.blk 3
          have k2 := blk_cell H9.up2.blk 2
          clear H7 H8
          go_wp2_with fail
          go_region_held3 (fun w' => w'.cell? ⟨b7, 3, none⟩ = some (.int .i64 c.seq) ∧ w'.cell? ⟨b7, 2, none⟩ = some (.bool c.del)) (go_keep)
            (first
              | (go_at_call 58; refine (gone_any _ _).mono ?_; rintro e w3 ⟨rfl, rfl⟩)
              | (go_at_call 29; refine (nums_any ((H9.addLits [.int .i64 c.seq, .int .i64 (goneN c.del)] 3 (by simp [maxLen]) (b := w5.heap.size) rfl).up2).drew _ [c.seq, goneN c.del] Reads.row (seq_ok Hsq.out) (by simp only [List.length_append, List.length_cons, List.length_nil, row, List.length_drop, byts_length]; omega)).mono ?_; rintro e w6 ⟨rfl, H10⟩; have H11 := H10.up2.drop1; have k6 := blk_cell H11.up2.blk 3; have k7 := blk_cell H11.up2.blk 2; have k8 := blk_cell H11.up2.blk 1; clear H10 k3 k2))
          have H12 := Lib.hid H11
          clear H9 H11
          cases hdel : c.del with
          | true =>
            rw [hdel] at k7 H12
            have HF : Hid (Hold w ((Wr w1.heap.size (encUp l (k + 1))).sep Asrt.emp) w6) := Lib.hid (by
              have := H12.out.up2.drop1
              rw [encs_cell] at this
              rw [encUp, ← Hc.out, ← Hn.out, encC, hdel]
              simpa [List.append_assoc, byts] using this)
            clear hdel
            go_wp2_with fail
            go_roundw
            case rel => exact ⟨k + 1, by omega, by go_num, HF.out⟩
            case measure => simp [intOf]; omega
          | false =>
            rw [hdel] at k7 H12
            have Hv := Lib.hid H12.out
            have h9v := enc_le9 (u := c.val.size) (by omega)
            have h9s := enc_le9 (clamp_le c.seq)
            have h90 := enc_le9 (u := 0) (by omega)
            have hdel' := Lib.hid hdel
            clear hdel H12
            go_wp2_with (with_reducible refine wpList_conv Hv.out rfl _ rfl c.val rfl Try.underlying9 Try.underlying24 Try.underlying5 (by omega) ?_; intro v7 w7 H13; obtain ⟨ao7, cap7, rfl⟩ := H13.own.shape; clear Hv)
            have H14 := (H13.addLits [.slice ao7 (byts c.val).length cap7] 24 (by simp [maxLen]) (b := w7.heap.size) rfl).up3
            clear H13
            refine (wbytes_any H14 _ _ [byts c.val] (readsRows_one Reads.row) (by rw [encs_cell]; simp only [List.length_append, rows_one, row, List.length_drop, byts_length]; simp; omega)).mono ?_
            rintro e w8 ⟨rfl, H15⟩
            have HF : Hid (Hold w ((Wr w1.heap.size (encUp l (k + 1))).sep Asrt.emp) w8) := Lib.hid (by
              have := H15.up2.drop1.up2.drop1.up2.drop1
              rw [encs_cell, rows_one] at this
              rw [encUp, ← Hc.out, ← Hn.out, encC, hdel'.out]
              simpa [List.append_assoc, byts] using this)
            clear H14 H15
            go_wp2_with fail
            go_roundw
            case rel => exact ⟨k + 1, by omega, by go_num, HF.out⟩
            case measure => simp [intOf]; omega
      · obtain rfl : k = l.length := by omega
        have hle : (encUp l l.length).length ≤ 21000 * l.length := encUp_length l Hall.out _ (Nat.le_refl _)
        have hR : Hid (encR l = encUp l l.length) := Lib.hid (by rw [encR, if_pos Hr.out, encL])
        go_wp2_with fail
        refine (out_any H (by omega)).mono ?_
        rintro e w2 ⟨v', rfl, ho, hb⟩
        have HO := Lib.hid ho
        have hbl := (H.keeps hb).old
        clear ho hb hlt hk hle
        go_wp2
        go_ret2
        exact ⟨_, by rw [Hr.out]; rfl, by rw [hR.out]; exact HO.out.from fun k hk => Nat.le_trans H.old.size (HO.out.lt k hk).1, hbl⟩
  · have hz : ((riseN l : Int) != 0) = true := by simp [hr]
    have hR : Hid (encR l = []) := Lib.hid (by rw [encR, if_neg hr])
    clear hr
    go_wp2
    go_ret2
    exact ⟨_, rfl, by rw [hR.out]; exact Own.nil _ _ _ _, hb1⟩
end Go.Proofs.Ytbepbbjeieafhaa.Bl

/-
  The Reader of chapter 1: NewReader, Bad, Good, Whole, Left, Raw, Num, Bytes: what they take.
-/

namespace Go.Proofs.Ytbepbbjeieafhaa.Oct
open Go.RowKit L
/-- a Reader at a block of its own: what is left, and whether it erred -/
def Rd (b : Nat) (l : List UInt8) (bad : Bool) : Asrt where
  at_ F w := ∃ v, w.heap[b]? = some (.cells #[v, .bool bad] 108 (0, 0)) ∧ Sl w 1 v l.length (u8s l) ∧ (0 < l.length → v.ownBlock ≠ some b) ∧ ∀ k, F k ↔ k = b ∨ (v.ownBlock = some k ∧ 0 < l.length)
  stay := by
    rintro F w w' ⟨v, h1, h2, h3, h4⟩ hk
    refine ⟨v, by rw [hk b ((h4 b).2 (.inl rfl))]; exact h1, ?_, h3, h4⟩
    by_cases hl : 0 < l.length
    · exact h2.kept fun k e => hk k ((h4 k).2 (.inr ⟨e, hl⟩))
    · exact h2.none (by omega)
  lt := by
    rintro F w ⟨v, h1, h2, h3, h4⟩ k hk
    rcases (h4 k).1 hk with rfl | ⟨h, hl⟩
    · exact (Array.getElem?_eq_some_iff.1 h1).1
    · exact h2.lt (by omega) k h
theorem addRd {W0 w w1 : World} {R : Asrt} {v : Value} {l : List UInt8} (h : Hold W0 R w) (hb : Below w.heap.size w w1) (ho : Own w1 w.heap.size 5 1 v l.length (u8s l)) :
    Hold W0 ((Rd w1.heap.size l false).sep R) (w1.alloc (.cells #[v, .bool false] 108)) := by
  refine h.add (hb.alloc hb.size _) (A := Rd w1.heap.size l false) (F := fun k => k = w1.heap.size ∨ (v.ownBlock = some k ∧ 0 < l.length)) ⟨v, heap_alloc_new w1 _, (ho.alloc _).sl, fun _ e => ?_, fun k => Iff.rfl⟩ ?_
  · have := (ho.lt _ e).2
    omega
  · rintro k (rfl | ⟨e, _⟩)
    · exact hb.size
    · exact (ho.lt k e).1
theorem newReader_any {W0 w : World} {R : Asrt} (h : Hold W0 R w) (v : Value) (l : List UInt8) (hv : Sl w 1 v l.length (u8s l)) (hn : l.length ≤ 140737488355328) :
    Calls Try.prog 43 #[v] w (RetV fun p w' => ∃ b, p = .pointer (some ⟨b, 0, none⟩) ∧ Hold W0 ((Rd b l false).sep R) w') := by
  go_enter Try.func43, Try.ntmps43
  go_wp2_with fail
  refine (clone_any v l _ hv hn).mono ?_
  rintro e w1 ⟨v', rfl, hown, hb⟩
  obtain ⟨ao, cap, rfl⟩ := hown.shape
  have hH := addRd h hb hown
  have HH := Lib.hid hH
  clear hH hown hb
  go_wp2
  go_ret
  exact ⟨_, rfl, _, rfl, HH.out⟩
theorem bad_any {W0 w : World} {R : Asrt} {b : Nat} {l : List UInt8} {bad : Bool} (h : Hold W0 ((Rd b l bad).sep R) w) :
    Calls Try.prog 72 #[.pointer (some ⟨b, 0, none⟩)] w fun e w' => e = .returned (.tuple #[]) ∧ Hold W0 ((Rd b [] true).sep R) w' := by
  obtain ⟨F, ⟨v, hb, hsl, hne, hF⟩, hge, hup⟩ := h.take
  have hc0 : w.cell? ⟨b, 0, none⟩ = some v := blk_cell hb 0
  have hc1 : w.cell? ⟨b, 1, none⟩ = some (.bool bad) := blk_cell hb 1
  have hf0 := blk_free hb 0
  have hf1 := blk_free hb 1
  have hs0 := blk_set hb 0 (.slice none 0 0)
  have hs1 := blk_set hs0 1 (.bool true)
  have hfin := hup ((w.setCell ⟨b, 0, none⟩ (.slice none 0 0)).setCell ⟨b, 1, none⟩ (.bool true)) (Rd b [] true) (fun k => k = b)
    (((Keeps.refl F w).setCell (fun _ => (hF b).2 (.inl rfl)) _).setCell (fun _ => (hF b).2 (.inl rfl)) _)
    ⟨.slice none 0 0, hs1, Sl.nil _ _, by simp, fun k => by simp⟩ (fun k hk => .inl ((hF k).2 (.inl hk)))
  have hc1' := blk_cell hs0 1
  have hf1' := blk_free hs0 1
  have Hfin := Lib.hid hfin
  clear hfin hup hge hs1 hs0
  go_enter Try.func72, Try.ntmps72
  go_wp2
  go_end0
  exact ⟨rfl, Hfin.out⟩
theorem good_any {W0 w : World} {R : Asrt} {b : Nat} {l : List UInt8} {bad : Bool} (h : Hold W0 ((Rd b l bad).sep R) w) :
    Calls Try.prog 47 #[.pointer (some ⟨b, 0, none⟩)] w fun e w' => e = .returned (.bool !bad) ∧ w = w' := by
  obtain ⟨F, v, hb, hsl, hne, hF⟩ := h.fst
  have hc1 : w.cell? ⟨b, 1, none⟩ = some (.bool bad) := blk_cell hb 1
  go_enter Try.func47, Try.ntmps47
  go_wp2
  go_ret
  exact ⟨rfl, rfl⟩
end Go.Proofs.Ytbepbbjeieafhaa.Oct
