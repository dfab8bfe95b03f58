/-
  Maps from texts in a walk: stores, deletions, and a loop over one. Over any program.
-/
import Derived.Test.YtindlfiifckdnaaDoorMapT
namespace Go.Proofs.YtindlfiifckdnaaDoor.L
open Go.RowKit Go.MapKept Go.ChangeMaps
/-- a loop over a map under way: what is still to come -/
def RangeAt (w : World) (b r : Nat) (m rem : List (ByteArray × Value)) : Prop :=
  ∃ es clock since seen c0, w.heap[b]? = some (.map es clock) ∧ Stamped es clock ∧ es.toList.map kv = kvs m ∧ w.heap[r]? = some (.mapIter (some b) since seen c0) ∧ (∀ x ∈ es.toList, x.born < since) ∧ since ≤ c0 ∧ since ≤ clock ∧
    (leftOf es seen).toList.map kv = kvs rem
def RangeA (b r : Nat) (m rem : List (ByteArray × Value)) : Asrt where
  at_ F w := RangeAt w b r m rem ∧ ∀ k, F k ↔ k = b ∨ k = r
  stay := by
    rintro F w w' ⟨⟨es, clock, since, seen, c0, h1, h2, h3, h4, h5⟩, h6⟩ hk
    exact ⟨⟨es, clock, since, seen, c0, by rw [hk b ((h6 b).2 (.inl rfl))]; exact h1, h2, h3, by rw [hk r ((h6 r).2 (.inr rfl))]; exact h4, h5⟩, h6⟩
  lt := by
    rintro F w ⟨⟨es, clock, since, seen, c0, h1, h2, h3, h4, h5⟩, h6⟩ k hk
    rcases (h6 k).1 hk with rfl | rfl
    · exact (Array.getElem?_eq_some_iff.1 h1).1
    · exact (Array.getElem?_eq_some_iff.1 h4).1
section
variable {P : Program} {W0 w w' : World} {R : Asrt} {b r : Nat} {m rem : List (ByteArray × Value)} {es : Array MapEntry} {clock : Nat}
theorem Hold.map (h : Hold W0 ((MapA b m).sep R) w) : MapAt w b m := by
  obtain ⟨F, h1, _⟩ := h.fst
  exact h1
theorem keeps_setBlock {F : Nat → Prop} {o o' : Obj} (hb : w.heap[b]? = some o) (hF : F b) : Keeps F w (setBlock w b o') :=
  ⟨rfl, rfl, rfl, by simp [setBlock], fun k _ hk => (heap_set hb).2 k fun e => hk (by rw [e]; exact hF)⟩
theorem Hold.setMap {m' : List (ByteArray × Value)} {o : Obj} (h : Hold W0 ((MapA b m).sep R) w) (hm : MapAt (setBlock w b o) b m') : Hold W0 ((MapA b m').sep R) (setBlock w b o) := by
  obtain ⟨F, ⟨⟨es, clock, hb, _⟩, hF⟩, hge, hup⟩ := h.take
  exact hup _ (MapA b m') F (keeps_setBlock hb ((hF b).2 rfl)) ⟨hm, hF⟩ fun k hk => .inl hk
theorem Hold.addMap (h : Hold W0 R w) : Hold W0 ((MapA w.heap.size []).sep R) (w.alloc (.map #[] 0)) :=
  h.add ((Below.refl _ _).alloc (Nat.le_refl _) _) (A := MapA w.heap.size []) (F := fun k => k = w.heap.size) ⟨⟨#[], 0, heap_alloc_new w _, stamped_empty 0, rfl⟩, fun k => Iff.rfl⟩ fun k hk => by omega
variable {ops : Array Oper} {rest : List Oper} {o : Oper} {a : Act} {Q : Exit → Act → World → Prop}
/-- m[k] = v in a walk -/
theorem wpList_mput (H : Hold W0 ((MapA b m).sep R) w) (hg : o.guard = none) (mo x v : Operand) (t : TypeId) (hop : o.op = Op.mapUpdate t mo x v) {k e : TypeId} (ht : P.underlying t = some (.map k e)) (hk : P.underlying k = some .string)
    (hm : a.eval mo = .map (some b)) (s : ByteArray) (val : Value) (hx : a.eval x = .string s) (hv : a.eval v = val)
    (hK : ∀ w', Hold W0 ((MapA b (mput m s val)).sep R) w' → wpList P ops Q rest (a.put o.dst undef) w') : wpList P ops Q (o :: rest) a w := by
  refine wpList_plain hg fun K' hK' => ?_
  obtain ⟨ob, hrun, h1⟩ := run_put (P := P) H.map ht hk s val
  unfold Oper.wp
  simp [execOp, hop, hm, hx, hv, hrun, Result.andThen]
  exact hK' _ _ (hK _ (H.setMap h1))
/-- delete(m, k) in a walk -/
theorem wpList_mdel (H : Hold W0 ((MapA b m).sep R) w) (hg : o.guard = none) (mo x : Operand) (t k : TypeId) (hop : o.op = Op.call { callee := Callee.builtin Builtin.delete, args := #[mo, x], argTypes := #[t, k] }) {e : TypeId}
    (ht : P.underlying t = some (.map k e)) (hk : P.underlying k = some .string) (hm : a.eval mo = .map (some b)) (s : ByteArray) (hx : a.eval x = .string s)
    (hK : ∀ w', Hold W0 ((MapA b (mdel m s)).sep R) w' → wpList P ops Q rest (a.put o.dst (.tuple #[])) w') : wpList P ops Q (o :: rest) a w := by
  refine wpList_plain hg fun K' hK' => ?_
  obtain ⟨ob, hrun, h1⟩ := run_del (P := P) (ty := o.type) H.map ht hk s
  unfold Oper.wp
  simp [execOp, hop, resolve, invoke, builtin, hm, hx, hrun, Result.andThen]
  exact hK' _ _ (hK _ (H.setMap h1))
/-- range m in a walk -/
theorem wpList_mrange (H : Hold W0 ((MapA b m).sep R) w) (hg : o.guard = none) (mo : Operand) (t : TypeId) (hop : o.op = Op.range t mo) {k e : TypeId} (ht : P.underlying t = some (.map k e)) (hm : a.eval mo = .map (some b))
    (hK : ∀ r w', Hold W0 ((RangeA b r m m).sep R) w' → wpList P ops Q rest (a.put o.dst (.pointer (some ⟨r, 0, none⟩))) w') : wpList P ops Q (o :: rest) a w := by
  refine wpList_plain hg fun K' hK' => ?_
  obtain ⟨F, ⟨⟨es, clock, hb, hS, hkv⟩, hF⟩, hge, hup⟩ := H.take
  have hrun := run_range_map (P := P) w t k e b es clock ht hb
  have hlt : b < w.heap.size := (Array.getElem?_eq_some_iff.1 hb).1
  unfold Oper.wp
  simp [execOp, hop, hm, hrun, Result.andThen]
  refine hK' _ _ (hK _ _ (hup _ (RangeA b w.heap.size m m) (fun k => k = b ∨ k = w.heap.size) ((Keeps.refl F w).alloc _) ⟨⟨es, clock, clock, #[], clock, ?_, hS, hkv, heap_alloc_new w _, hS.1, Nat.le_refl _, Nat.le_refl _, ?_⟩, fun k => Iff.rfl⟩ ?_))
  · rw [Below.heap_alloc _ _ _ hlt]; exact hb
  · rw [leftOf, Array.toList_filter, List.filter_eq_self.2 (by simp)]; exact hkv
  · rintro k (rfl | rfl)
    · exact .inl ((hF _).2 rfl)
    · exact .inr (Nat.le_refl _)
theorem Hold.range_map (h : Hold W0 ((RangeA b r m rem).sep R) w) : Hold W0 ((MapA b m).sep R) w := by
  obtain ⟨F, ⟨⟨es, clock, since, seen, c0, hb, hS, hkv, _⟩, hF⟩, hge, hup⟩ := h.take
  exact hup _ (MapA b m) (fun k => k = b) (Keeps.refl F w) ⟨⟨es, clock, hb, hS, hkv⟩, fun k => Iff.rfl⟩ fun k hk => .inl ((hF k).2 (.inl hk))
theorem Hold.range_nodup (h : Hold W0 ((RangeA b r m rem).sep R) w) : (rem.map (·.1)).Nodup ∧ ∀ p ∈ rem, p ∈ m := by
  obtain ⟨F, ⟨es, clock, since, seen, c0, hb, hS, hkv, hr, h5, h6, h7, h8⟩, _⟩ := h.fst
  have hsub : List.Sublist (kvs rem) (kvs m) := by
    rw [← h8, ← hkv]
    refine List.Sublist.map _ ?_
    rw [leftOf, Array.toList_filter]
    exact List.filter_sublist
  have hinj : ∀ l l' : List (ByteArray × Value), List.Sublist (kvs l) (kvs l') → List.Sublist l l' := by
    intro l l' h
    have := h.map fun q : Value × Value => ((match q.1 with | .string s => s | _ => ByteArray.empty), q.2)
    simpa [kvs, Function.comp_def] using this
  have hs := hinj _ _ hsub
  exact ⟨(hs.map _).nodup (kvs_nodup hS hkv), fun p hp => hs.subset hp⟩
theorem Hold.range_left (h : Hold W0 ((RangeA b r m rem).sep R) w) : w.rangeLeft b r = rem.length := by
  obtain ⟨F, ⟨es, clock, since, seen, c0, hb, hS, hkv, hr, h5, h6, h7, h8⟩, _⟩ := h.fst
  have := congrArg List.length h8
  simp only [World.rangeLeft, hb, hr]
  simpa [kvs] using this
/-- the step of a loop in a walk -/
theorem wpList_mnext (H : Hold W0 ((RangeA b r m rem).sep R) w) (hg : o.guard = none) (it : Operand) (hop : o.op = Op.next it false) (hit : a.eval it = .pointer (some ⟨r, 0, none⟩))
    (hDone : rem = [] → wpList P ops Q rest (a.put o.dst (.tuple #[.bool false])) w)
    (hMore : ∀ p w', p ∈ rem → (mdel rem p.1).length < rem.length → Hold W0 ((RangeA b r m (mdel rem p.1)).sep R) w' → (Instr.entry (.pointer (some ⟨r, 0, none⟩))).run P w' = .ok (.tuple #[.string p.1, p.2]) w' →
      wpList P ops Q rest (a.put o.dst (.tuple #[.bool true, .string p.1, p.2])) w') : wpList P ops Q (o :: rest) a w := by
  refine wpList_plain hg fun K' hK' => ?_
  have hnd := H.range_nodup.1
  obtain ⟨F, ⟨⟨es, clock, since, seen, c0, hb, hS, hkv, hr, h5, h6, h7, h8⟩, hF⟩, hge, hup⟩ := H.take
  unfold Oper.wp
  rcases run_next_at (P := P) w o.type r b since c0 seen es clock hr hb h5 h6 with ⟨h0, hrun⟩ | ⟨e, he, w1, hal, hrun⟩
  · have hrem : rem = [] := by
      have : (leftOf es seen).toList = [] := by
        apply List.eq_nil_of_length_eq_zero
        simpa using h0
      rw [this] at h8
      cases rem with
      | nil => rfl
      | cons p l => simp [kvs] at h8
    simp [execOp, hop, hit, hrun, Result.andThen]
    exact hK' _ _ (hDone hrem)
  · obtain ⟨hem, hes⟩ := mem_left he
    obtain ⟨i, hi⟩ := List.getElem?_of_mem he
    have hge2 : (kvs rem)[i]? = some (kv e) := by rw [← h8, List.getElem?_map, hi]; rfl
    rw [kvs, List.getElem?_map] at hge2
    obtain ⟨p, hp, hpe⟩ := Option.map_eq_some_iff.1 hge2
    simp only [kv, Prod.mk.injEq] at hpe
    have hr1 : w1.heap[r]? = some (.mapIter (some b) since seen c0) := by rcases hal with rfl | rfl <;> exact hr
    have hb1 : w1.heap[b]? = some (.map es clock) := by rcases hal with rfl | rfl <;> exact hb
    have hrb : r ≠ b := by intro e1; rw [e1, hb] at hr; cases hr
    have hset := heap_set (o' := .mapIter (some b) since (seen.push e.born) clock) hr1
    have hb' : (setBlock w1 r (.mapIter (some b) since (seen.push e.born) clock)).heap[b]? = some (.map es clock) := (hset.2 b (fun e1 => hrb e1.symm)).trans hb1
    have hbn := ((stamped_iff es clock).1 hS).2.1
    have hen := run_entry_at (P := P) _ r b since seen es clock e hset.1 hb' hem hbn
    have hleft : (leftOf es (seen.push e.born)).toList.map kv = kvs (mdel rem p.1) := by
      have e1 : (leftOf es (seen.push e.born)).toList = (leftOf es seen).toList.filter fun x => !(x.born == e.born) := by
        simp only [leftOf, Array.toList_filter, List.filter_filter]
        apply List.filter_congr
        intro x _
        rw [contains_push]
        cases seen.contains x.born <;> cases (x.born == e.born) <;> rfl
      rw [e1]
      have hli : i < (leftOf es seen).toList.length := (List.getElem?_eq_some_iff.1 hi).1
      have hnb : ((leftOf es seen).toList.map (·.born)).Nodup := by
        have : List.Sublist ((leftOf es seen).toList) es.toList := by
          rw [leftOf, Array.toList_filter]; exact List.filter_sublist
        exact (this.map _).nodup hbn
      rw [filter_erase _ _ i hli, map_eraseIdx, h8, kvs, ← map_eraseIdx, mdel, filter_erase rem _ i (List.getElem?_eq_some_iff.1 hp).1]
      · rfl
      · intro j x hx
        constructor
        · intro hf
          exact nodup_at hnd hx hp (by simpa using hf)
        · rintro rfl
          rw [hp] at hx
          obtain rfl := Option.some.inj hx
          simp
      · intro j x hx
        constructor
        · intro hf
          have hxe : x.born = e.born := by simpa using hf
          refine (List.getElem?_inj (l := (leftOf es seen).toList.map (·.born)) (by simpa using (List.getElem?_eq_some_iff.1 hx).1) hnb).1 ?_
          rw [List.getElem?_map, List.getElem?_map, hx, hi]
          simp [hxe]
        · rintro rfl
          rw [hi] at hx
          obtain rfl := Option.some.inj hx
          simp
    have hlen : (mdel rem p.1).length < rem.length := by
      have hpm : p ∈ rem := List.mem_of_getElem? hp
      rw [mdel]
      rcases Nat.lt_or_ge (rem.filter fun q => !decide (q.1 = p.1)).length rem.length with h | h
      · exact h
      · have := List.filter_eq_self.1 (List.Sublist.eq_of_length_le List.filter_sublist h) p hpm
        simp at this
    simp [execOp, hop, hit, hrun, Result.andThen]
    rw [← hpe.1, ← hpe.2] at hen ⊢
    refine hK' _ _ (hMore p _ (List.mem_of_getElem? hp) hlen (hup _ (RangeA b r m (mdel rem p.1)) F ?_ ⟨⟨es, clock, since, seen.push e.born, clock, hb', hS, hkv, hset.1, h5, h7, h7, hleft⟩, hF⟩ fun k hk => .inl hk) hen)
    rcases hal with rfl | rfl
    · exact keeps_setBlock hr1 ((hF r).2 (.inr rfl))
    · exact ((Keeps.refl F w).drew).trans (keeps_setBlock (F := F) hr1 ((hF r).2 (.inr rfl))) fun _ _ h => h
end
end Go.Proofs.YtindlfiifckdnaaDoor.L
