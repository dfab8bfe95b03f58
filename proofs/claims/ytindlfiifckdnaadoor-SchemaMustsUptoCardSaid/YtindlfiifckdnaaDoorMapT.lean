/-
  Maps from texts, by footprints: look-up, store, deletion, length, and a loop over one that does not turn it. Over any program.
-/
import Derived.Test.YtindlfiifckdnaaDoorAssoc
import Derived.Maps.Range
import Derived.Maps.RangeWalk
import Derived.ChangeMaps4
namespace Go.Proofs.YtindlfiifckdnaaDoor.L
open Go.RowKit Go.MapKept Go.ChangeMaps
/-- entries as keys and values -/
def kvs (m : List (ByteArray × Value)) : List (Value × Value) := m.map fun p => (.string p.1, p.2)
def kv (e : MapEntry) : Value × Value := (e.key, e.val)
/-- what stands at a key -/
def mget (m : List (ByteArray × Value)) (s : ByteArray) : Option Value := (m.find? fun p => decide (p.1 = s)).map (·.2)
def mhas (m : List (ByteArray × Value)) (s : ByteArray) : Bool := m.any fun p => decide (p.1 = s)
def mput (m : List (ByteArray × Value)) (s : ByteArray) (v : Value) : List (ByteArray × Value) :=
  if mhas m s then m.map fun p => if p.1 = s then (s, v) else p else m ++ [(s, v)]
def mdel (m : List (ByteArray × Value)) (s : ByteArray) : List (ByteArray × Value) := m.filter fun p => !decide (p.1 = s)
def MapAt (w : World) (b : Nat) (m : List (ByteArray × Value)) : Prop :=
  ∃ es clock, w.heap[b]? = some (.map es clock) ∧ Stamped es clock ∧ es.toList.map kv = kvs m
/-- a map at a block of its own -/
def MapA (b : Nat) (m : List (ByteArray × Value)) : Asrt where
  at_ F w := MapAt w b m ∧ ∀ k, F k ↔ k = b
  stay := by
    rintro F w w' ⟨⟨es, clock, h1, h2⟩, h3⟩ hk
    exact ⟨⟨es, clock, by rw [hk b ((h3 b).2 rfl)]; exact h1, h2⟩, h3⟩
  lt := by
    rintro F w ⟨⟨es, clock, h1, h2⟩, h3⟩ k hk
    rw [(h3 k).1 hk]
    exact (Array.getElem?_eq_some_iff.1 h1).1
section
variable {P : Program} {w w' : World} {b : Nat} {m : List (ByteArray × Value)} {es : Array MapEntry} {clock : Nat}
theorem kvs_get {i : Nat} {e : MapEntry} (h : es.toList.map kv = kvs m) (he : es.toList[i]? = some e) : ∃ p, m[i]? = some p ∧ e.key = .string p.1 ∧ e.val = p.2 := by
  have h1 : (es.toList.map kv)[i]? = some (kv e) := by rw [List.getElem?_map, he]; rfl
  rw [h, kvs, List.getElem?_map] at h1
  cases hm : m[i]? with
  | none => rw [hm] at h1; cases h1
  | some p =>
    rw [hm] at h1
    simp only [Option.map_some, Option.some.injEq, kv, Prod.mk.injEq] at h1
    exact ⟨p, rfl, h1.1.symm, h1.2.symm⟩
theorem kvs_key {p : ByteArray × Value} {i : Nat} (h : es.toList.map kv = kvs m) (hp : m[i]? = some p) : ∃ e, es.toList[i]? = some e ∧ e.key = .string p.1 ∧ e.val = p.2 := by
  have h1 : (kvs m)[i]? = some (.string p.1, p.2) := by rw [kvs, List.getElem?_map, hp]; rfl
  rw [← h, List.getElem?_map] at h1
  cases he : es.toList[i]? with
  | none => rw [he] at h1; cases h1
  | some e =>
    rw [he] at h1
    simp only [Option.map_some, Option.some.injEq, kv, Prod.mk.injEq] at h1
    exact ⟨e, rfl, h1.1, h1.2⟩
theorem kvs_str (h : es.toList.map kv = kvs m) : ∀ x ∈ es.toList, IsKey .string x.key := by
  intro x hx
  obtain ⟨i, hi, rfl⟩ := List.getElem_of_mem hx
  obtain ⟨p, _, hp, _⟩ := kvs_get (i := i) h (List.getElem?_eq_getElem hi)
  rw [hp]; trivial
theorem kvs_length (h : es.toList.map kv = kvs m) : es.size = m.length := by
  have := congrArg List.length h
  simpa [kvs] using this
/-- keys stand once -/
theorem kvs_nodup (hS : Stamped es clock) (h : es.toList.map kv = kvs m) : (m.map (·.1)).Nodup := by
  have h1 : es.toList.map (·.key) = m.map fun p => Value.string p.1 := by
    have := congrArg (List.map Prod.fst) h
    simpa [kvs, kv, Function.comp_def] using this
  have h2 := hS.2.2
  rw [h1] at h2
  have : (m.map fun p => Value.string p.1) = (m.map (·.1)).map Value.string := by simp
  rw [this] at h2
  rw [List.Nodup, List.pairwise_map] at h2
  exact h2.imp fun h e => h (by rw [e])
theorem MapAt.nodup (h : MapAt w b m) : (m.map (·.1)).Nodup := by
  obtain ⟨es, clock, _, h2, h3⟩ := h
  exact kvs_nodup h2 h3
theorem nodup_at {i j : Nat} {p q : ByteArray × Value} (h : (m.map (·.1)).Nodup) (hi : m[i]? = some p) (hj : m[j]? = some q) (e : p.1 = q.1) : i = j := by
  have hil := (List.getElem?_eq_some_iff.1 hi).1
  refine (List.getElem?_inj (l := m.map (·.1)) (by simpa using hil) h).1 ?_
  rw [List.getElem?_map, List.getElem?_map, hi, hj]
  simp [e]
/-- where a key stands -/
theorem kvs_find (s : ByteArray) (hS : Stamped es clock) (h : es.toList.map kv = kvs m) :
    (Instr.findNow .string (.string s) es.toList 0 = some none ∧ (∀ x ∈ es.toList, x.key ≠ .string s) ∧ mget m s = none ∧ mhas m s = false) ∨
    ∃ j p, Instr.findNow .string (.string s) es.toList 0 = some (some (j, p.2)) ∧ m[j]? = some p ∧ p.1 = s ∧ mget m s = some p.2 ∧ mhas m s = true := by
  rcases findNow_spec (d := .string) (k := .string s) trivial es.toList 0 (kvs_str h) with ⟨h1, h2⟩ | ⟨j, e, h1, h2, h3⟩
  · refine .inl ⟨h1, h2, ?_, ?_⟩
    · rw [mget, List.find?_eq_none.2]
      · rfl
      · intro p hp hps
        obtain ⟨i, hi, rfl⟩ := List.getElem_of_mem hp
        obtain ⟨e, he, hk, _⟩ := kvs_key h (List.getElem?_eq_getElem hi)
        exact h2 e (List.mem_of_getElem? he) (by rw [hk, of_decide_eq_true hps])
    · rw [mhas, List.any_eq_false]
      intro p hp hps
      obtain ⟨i, hi, rfl⟩ := List.getElem_of_mem hp
      obtain ⟨e, he, hk, _⟩ := kvs_key h (List.getElem?_eq_getElem hi)
      exact h2 e (List.mem_of_getElem? he) (by rw [hk, of_decide_eq_true hps])
  · obtain ⟨p, hp, hk, hv⟩ := kvs_get h h2
    have hps : p.1 = s := by rw [h3] at hk; exact (Value.string.inj hk).symm
    rw [Nat.zero_add, hv] at h1
    have hmem : p ∈ m := List.mem_of_getElem? hp
    refine .inr ⟨j, p, h1, hp, hps, ?_, ?_⟩
    · have hnd := kvs_nodup hS h
      rw [mget]
      cases hf : m.find? fun p => decide (p.1 = s) with
      | none =>
        rw [List.find?_eq_none] at hf
        exact (hf p hmem (by simpa using hps)).elim
      | some q =>
        have hq := List.find?_some hf
        obtain ⟨i, hi, rfl⟩ := List.getElem_of_mem (List.mem_of_find?_eq_some hf)
        have := nodup_at hnd (List.getElem?_eq_getElem hi) hp (by rw [hps]; simpa using hq)
        subst this
        rw [List.getElem?_eq_getElem hi] at hp
        rw [Option.some.inj hp]; rfl
    · rw [mhas, List.any_eq_true]
      exact ⟨p, hmem, by simpa using hps⟩
theorem filter_erase {α : Type} : ∀ (l : List α) (f : α → Bool) (j : Nat), j < l.length → (∀ i x, l[i]? = some x → (f x = false ↔ i = j)) → l.filter f = l.eraseIdx j
  | [], _, _, h, _ => by simp at h
  | a :: r, f, 0, _, h => by
    have h0 : f a = false := (h 0 a rfl).2 rfl
    have hr : r.filter f = r := List.filter_eq_self.2 fun x hx => by
      obtain ⟨i, hi⟩ := List.getElem?_of_mem hx
      cases hf : f x with
      | true => rfl
      | false =>
        have := (h (i + 1) x hi).1 hf
        omega
    simp [h0, hr]
  | a :: r, f, j + 1, hj, h => by
    have h0 : f a = true := by
      cases hf : f a with
      | true => rfl
      | false => have := (h 0 a rfl).1 hf; omega
    have := filter_erase r f j (by simpa using hj) fun i x hx => by
      rw [h (i + 1) x hx]; omega
    simp [h0, this]
/-- m[k] -/
theorem run_look (h : MapAt w b m) {t k e : TypeId} (ht : P.underlying t = some (.map k e)) (hk : P.underlying k = some .string) {z : Value} (hz : (zeroValue e).run P w = .ok z w) (s : ByteArray) :
    (Instr.lookup t (.map (some b)) (.string s) false).run P w = .ok ((mget m s).getD z) w := by
  obtain ⟨es, clock, hb, hS, hkv⟩ := h
  rcases kvs_find s hS hkv with ⟨h1, _, h3, _⟩ | ⟨j, p, h1, _, _, h4, _⟩
  · rw [h3]
    simp [Instr.lookup, run_underlying ht, MapKept.run_getObj_map hb, MapKept.run_checkKey hk (k := .string s) trivial, MapKept.run_findKey hk h1, hz, Result.andThen]
  · rw [h4]
    simp [Instr.lookup, run_underlying ht, MapKept.run_getObj_map hb, MapKept.run_checkKey hk (k := .string s) trivial, MapKept.run_findKey hk h1, Result.andThen]
/-- m[k] = v -/
theorem run_put (h : MapAt w b m) {t k e : TypeId} (ht : P.underlying t = some (.map k e)) (hk : P.underlying k = some .string) (s : ByteArray) (v : Value) :
    ∃ o, (Instr.mapUpdate t (.map (some b)) (.string s) v).run P w = .ok () (setBlock w b o) ∧ MapAt (setBlock w b o) b (mput m s v) := by
  obtain ⟨es, clock, hb, hS, hkv⟩ := h
  have hnd := kvs_nodup hS hkv
  rcases kvs_find s hS hkv with ⟨h1, h2, _, h4⟩ | ⟨j, p, h1, hp, hps, _, h5⟩
  · refine ⟨.map (es.push ⟨.string s, v, clock⟩) (clock + 1), ?_, _, _, heap_setBlock_same hb _, stamped_push hS h2, ?_⟩
    · simp [Instr.mapUpdate, run_underlying ht, MapKept.run_getObj_map hb, MapKept.run_checkKey hk (k := .string s) trivial, MapKept.run_findKey hk h1, MapKept.run_setObj_map _ hb, Result.andThen, setBlock]
    · simp [mput, h4, kvs, hkv, kv]
  · obtain ⟨e0, he0, hk0, _⟩ := kvs_key hkv hp
    rw [hps] at hk0
    have hj : es[j]? = some e0 := by rw [← Array.getElem?_toList]; exact he0
    refine ⟨.map (es.modify j (fun e' => { e' with key := .string s, val := v })) clock, ?_, _, _, heap_setBlock_same hb _, stamped_modify hS _ _ (fun _ _ => rfl) (fun e' _ he' => ?_), ?_⟩
    · simp [Instr.mapUpdate, run_underlying ht, MapKept.run_getObj_map hb, MapKept.run_checkKey hk (k := .string s) trivial, MapKept.run_findKey hk h1, hj, hk0, MapKept.run_keyThatStays (d := .string) (k := .string s) trivial, MapKept.run_setObj_map _ hb, Result.andThen, setBlock]
    · rw [hj] at he'
      obtain rfl := Option.some.inj he'
      exact hk0.symm
    · rw [mput, h5, if_pos rfl]
      apply List.ext_getElem?
      intro i
      have hi := congrArg (fun l : List (Value × Value) => l[i]?) hkv
      simp only [kvs, List.getElem?_map, Array.getElem?_toList] at hi ⊢
      rw [Array.getElem?_modify]
      cases hm : m[i]? with
      | none =>
        rw [hm] at hi
        simp only [Option.map_none, Option.map_eq_none_iff] at hi
        simp [hi]
      | some q =>
        rw [hm] at hi
        simp only [Option.map_some, Option.map_eq_some_iff] at hi
        obtain ⟨e, he, hkve⟩ := hi
        by_cases hij : j = i
        · subst hij
          rw [hp] at hm
          obtain rfl := Option.some.inj hm
          simp [he, hps, kv]
        · have hq : ¬ q.1 = s := fun e => hij (nodup_at hnd hp hm (by rw [hps, e]))
          simp [hij, he, hq, hkve]
/-- delete(m, k) -/
theorem run_del (h : MapAt w b m) {t k e ty : TypeId} (ht : P.underlying t = some (.map k e)) (hk : P.underlying k = some .string) (s : ByteArray) :
    ∃ o, (Builtin.delete_ #[t, k] ty #[.map (some b), .string s]).run P w = .ok (.tuple #[]) (setBlock w b o) ∧ MapAt (setBlock w b o) b (mdel m s) := by
  obtain ⟨es, clock, hb, hS, hkv⟩ := h
  have hnd := kvs_nodup hS hkv
  rcases kvs_find s hS hkv with ⟨h1, _, _, h4⟩ | ⟨j, p, h1, hp, hps, _, h5⟩
  · refine ⟨.map es clock, ?_, _, _, heap_setBlock_same hb _, hS, ?_⟩
    · simp [Builtin.delete_, run_underlying ht, MapKept.run_getObj_map hb, MapKept.run_checkKey hk (k := .string s) trivial, MapKept.run_findKey hk h1, MapKept.run_setObj_map _ hb, Result.andThen, setBlock]
    · rw [mdel, List.filter_eq_self.2, hkv]
      intro q hq
      rw [mhas, List.any_eq_false] at h4
      simpa using h4 q hq
  · have hjl : j < m.length := (List.getElem?_eq_some_iff.1 hp).1
    have hjs : j < es.size := by rw [kvs_length hkv]; exact hjl
    have hsub : (es.eraseIdxIfInBounds j).toList = es.toList.eraseIdx j := by
      unfold Array.eraseIdxIfInBounds
      rw [dif_pos hjs]
      simp
    refine ⟨.map (es.eraseIdxIfInBounds j) clock, ?_, _, _, heap_setBlock_same hb _, stamped_erase hS j, ?_⟩
    · simp [Builtin.delete_, run_underlying ht, MapKept.run_getObj_map hb, MapKept.run_checkKey hk (k := .string s) trivial, MapKept.run_findKey hk h1, MapKept.run_setObj_map _ hb, Result.andThen, setBlock]
    · rw [hsub, map_eraseIdx, hkv, kvs, ← map_eraseIdx, mdel, filter_erase m _ j hjl]
      · rfl
      · intro i x hx
        constructor
        · intro hf
          exact nodup_at hnd hx hp (by rw [hps]; simpa using hf)
        · rintro rfl
          rw [hp] at hx
          obtain rfl := Option.some.inj hx
          simp [hps]
theorem run_mlen (h : MapAt w b m) {t k e : TypeId} (ht : P.underlying t = some (.map k e)) (ty : TypeId) : (Builtin.len_ #[t] ty #[.map (some b)]).run P w = .ok (.int .i64 m.length) w := by
  obtain ⟨es, clock, hb, _, hkv⟩ := h
  simp [Builtin.len_, run_underlying ht, MapKept.run_getObj_map hb, goInt, kvs_length hkv]
end
end Go.Proofs.YtindlfiifckdnaaDoor.L
