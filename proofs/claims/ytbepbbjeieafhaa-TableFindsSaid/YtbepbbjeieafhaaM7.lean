/-
  Part 7 of the texts that the proofs of this seat stand on: contracts of functions and plain lemmas, one text behind the other. Conditions: those that each theorem states.
-/
import Derived.Maps.Range
import Derived.Maps.RangeWalk
import Derived.ChangeMaps4
import Derived.Laws.StructEq
import Derived.WalkKit
import Derived.RegionTactic
import Derived.ChangeAlike
import Derived.BigRegion
import Derived.StillTailTactics
import Derived.Deep.QuietTactic
import Derived.BigQuiet
import Derived.Deep.RegionWith
import Derived.Deep.RegionHeld3
import Derived.Test.YtbepbbjeieafhaaM6
/-
  Bytes as a table (chapter 8), in plain mathematics.
-/



namespace Go.Proofs.Ytbepbbjeieafhaa.Tb
open L Oct Bl Fr BloomP
/-- bytes are the table of these cells -/
def OpenOk (b : List UInt8) (l : List Cl) : Prop := buildN l = 0 ∧ buildR l = b
theorem build_len {l : List Cl} (h : buildN l = 0) : 1 ≤ l.length ∧ l.length ≤ 4096 ∧ riseN l = 0 := by
  have hl : ¬ (l.length < 1 ∨ 4096 < l.length) := by
    intro h2; rw [buildN, if_pos h2] at h; cases h
  rw [buildN, if_neg hl] at h
  exact ⟨by omega, by omega, h⟩
theorem riseN_sub {l : List Cl} (h : riseN l = 0) {f t : Nat} (ht : t ≤ l.length) : riseN (sub l (f, t)) = 0 := by
  have hall := riseN_all h
  have hr := riseN_rises h
  have hl := sub_length (l := l) (f := f) ht
  have hget : ∀ i, i < t - f → (sub l (f, t)).getD i default = l.getD (f + i) default := fun i hi => by
    simp only [sub, List.getD, List.getElem?_take, List.getElem?_drop]
    rw [if_pos hi]
  have h1 : (sub l (f, t)).all isC = true := List.all_eq_true.2 fun c hc => hall c (List.mem_of_mem_drop (List.mem_of_mem_take hc))
  have h2 : risesB (sub l (f, t)) = true := risesB_all _ fun k hk => by
    rw [hl] at hk
    rw [hget k (by omega), hget (k + 1) (by omega)]
    exact rises_at l (f + k) hr (by omega)
  rw [riseN, if_pos h1, if_pos h2]
theorem encR_sub {l : List Cl} (h : riseN l = 0) {f t : Nat} (ht : t ≤ l.length) : DecOk (encR (sub l (f, t))) (sub l (f, t)) :=
  ⟨riseN_sub h ht, by rw [encR, if_pos (riseN_sub h ht)]⟩
theorem rowsU_flat (l : List Cl) : ∀ k, k ≤ l.length → (rowsU l k).flatten = l.take (bl l k).2.1
  | 0, _ => by simp [rowsU, bl]
  | k + 1, hk => by
    have ih := rowsU_flat l k (by omega)
    unfold rowsU at ih ⊢
    rw [bl]
    split
    · simp
    · rename_i h0
      split
      · obtain ⟨j, rfl⟩ : ∃ j, k = j + 1 := ⟨k - 1, by omega⟩
        have hf := bl_from l j
        rw [List.map_append, List.flatten_append, ih]
        show _ ++ (([((bl l (j + 1)).2.1, j + 1)]).map (sub l)).flatten = l.take (j + 1)
        rw [take_sub (l := l) (f := (bl l (j + 1)).2.1) (t := j + 1) (by omega)]
        simp
      · exact ih
theorem rows_flat {l : List Cl} (h : l ≠ []) : (rows l).flatten = l := by
  rw [rows_end h, List.flatten_append, rowsU_flat l l.length (Nat.le_refl _), nowU, if_neg (by simpa using h)]
  obtain ⟨j, hj⟩ : ∃ j, l.length = j + 1 := ⟨l.length - 1, by have := List.length_pos_iff.2 h; omega⟩
  have hf := bl_from l j
  rw [← hj] at hf
  have := take_sub (l := l) (f := (bl l l.length).2.1) (t := l.length) (by omega)
  rw [List.take_length] at this
  simpa using this.symm
def FollowT (p : List UInt8) (k : Nat) (acc : List Cl) (rest : List UInt8) : Prop :=
  ∀ l0, buildN l0 = 0 → payload l0 = p → k ≤ (parts l0).length ∧ acc = ((rows l0).take k).flatten ∧ ∃ t, rest = ((parts l0).drop k).flatMap (partB l0) ++ t
theorem payload_eq (l : List Cl) : payload l = enc (parts l).length ++ ((parts l).flatMap (partB l) ++ (enc l.length ++ row (BloomP.make (Bloom.keysOf (keys l))))) := by
  simp only [payload, bodyU, List.take_length, List.append_assoc]
theorem followT_start {p : List UInt8} : (∀ l0, buildN l0 = 0 → payload l0 = p → dec 0 0 p = some ((parts l0).length, left (dec 0 0 p))) ∧ FollowT p 0 [] (left (dec 0 0 p)) := by
  have key : ∀ l0, buildN l0 = 0 → payload l0 = p → dec 0 0 p = some ((parts l0).length, (parts l0).flatMap (partB l0) ++ (enc l0.length ++ row (BloomP.make (Bloom.keysOf (keys l0))))) := by
    rintro l0 h0 rfl
    have := partsU_len l0 l0.length
    have := build_len h0
    rw [payload_eq, dec_enc _ _ (by unfold parts; omega)]
  refine ⟨fun l0 h0 hp => ?_, fun l0 h0 hp => ?_⟩
  · rw [key l0 h0 hp]; rfl
  · rw [key l0 h0 hp]
    exact ⟨Nat.zero_le _, by simp, _, rfl⟩
theorem followT_step {p : List UInt8} {k : Nat} {acc : List Cl} {rest : List UInt8} (h : FollowT p k acc rest) : ∀ l0, buildN l0 = 0 → payload l0 = p → k < (parts l0).length →
    (decRow rest).isNone = false ∧ (dec 0 0 (left (decRow rest))).isNone = false ∧ (decRow (left (dec 0 0 (left (decRow rest))))).isNone = false ∧
    DecOk (got [] (decRow (left (dec 0 0 (left (decRow rest)))))) ((rows l0).getD k []) ∧ ∃ t, left (decRow (left (dec 0 0 (left (decRow rest))))) = ((parts l0).drop (k + 1)).flatMap (partB l0) ++ t := by
  intro l0 h0 hp hk
  obtain ⟨_, _, t, rfl⟩ := h l0 h0 hp
  obtain ⟨hl1, hl2, hr⟩ := build_len h0
  rw [List.drop_eq_getElem_cons hk, List.flatMap_cons]
  have hmem := parts_in l0 _ (List.getElem_mem hk)
  have hget : (rows l0).getD k [] = sub l0 ((parts l0)[k]) := by rw [rows_get hk]; simp [List.getD, hk]
  obtain ⟨q, hq⟩ : ∃ q, q = (parts l0)[k] := ⟨_, rfl⟩
  rw [← hq] at hmem hget ⊢
  obtain ⟨f, tt⟩ := q
  obtain ⟨h1, h2⟩ := hmem
  dsimp only at h1 h2
  have hkk := isC_key (riseN_all hr (l0.getD (tt - 1) default) (by rw [getD_get (show tt - 1 < l0.length by omega)]; exact List.getElem_mem _))
  have hk1 : (byts (l0.getD (tt - 1) default).key).length ≤ 4611686018427387904 := by rw [byts_length]; omega
  have hk2 : (encR (sub l0 (f, tt))).length ≤ 4611686018427387904 := by
    have h3 := encR_len (sub l0 (f, tt))
    have h4 := weight_big (l := sub l0 (f, tt)) fun c hc => isC_key (riseN_all hr c (List.mem_of_mem_drop (List.mem_of_mem_take hc)))
    rw [sub_length h2] at h3 h4
    omega
  have e : partB l0 (f, tt) ++ List.flatMap (partB l0) (List.drop (k + 1) (parts l0)) ++ t = row (byts (l0.getD (tt - 1) default).key) ++ (enc (clamp (l0.getD (tt - 1) default).seq) ++ (row (encR (sub l0 (f, tt))) ++ (List.flatMap (partB l0) (List.drop (k + 1) (parts l0)) ++ t))) := by
    simp only [partB, List.append_assoc]
  rw [e, decRow_row _ _ hk1]
  simp only [left_some]
  rw [dec_enc _ _ (clamp_le _)]
  simp only [left_some]
  rw [decRow_row _ _ hk2]
  simp only [left_some, got_some, Option.isNone_some, true_and]
  exact ⟨by rw [hget]; exact encR_sub hr h2, t, rfl⟩
theorem followT_more {p : List UInt8} {k : Nat} {acc l2 : List Cl} {rest : List UInt8} (h : FollowT p k acc rest) (hn : ∀ l0, buildN l0 = 0 → payload l0 = p → k < (parts l0).length)
    (hd : DecOk (got [] (decRow (left (dec 0 0 (left (decRow rest)))))) l2) : FollowT p (k + 1) (acc ++ l2) (left (decRow (left (dec 0 0 (left (decRow rest)))))) := by
  intro l0 h0 hp
  have hk := hn l0 h0 hp
  obtain ⟨_, _, _, h4, h5⟩ := followT_step h l0 h0 hp hk
  obtain ⟨_, ha, _⟩ := h l0 h0 hp
  have hk2 : k < (rows l0).length := by rw [rows_length]; exact hk
  refine ⟨hk, ?_, h5⟩
  rw [List.take_succ_eq_append_getElem hk2, List.flatten_append, ← ha, decOk_one hd h4]
  simp [List.getD, hk2]
theorem followT_end {p : List UInt8} {k : Nat} {acc : List Cl} {rest : List UInt8} (h : FollowT p k acc rest) {l0 : List Cl} (h0 : buildN l0 = 0) (hp : payload l0 = p) (hk : (parts l0).length ≤ k) : acc = l0 := by
  obtain ⟨h1, h2, _⟩ := h l0 h0 hp
  obtain ⟨hl1, _, _⟩ := build_len h0
  rw [h2, List.take_of_length_le (by rw [rows_length]; exact hk), rows_flat (by intro e; rw [e] at hl1; simp at hl1)]
/-- a record of a payload is the record alone -/
theorem open_one {b : List UInt8} {l : List Cl} (h : OpenOk b l) (hb : b.length ≤ 40000) : unone b = (payload l, 0) := by
  obtain ⟨h1, h2⟩ := h
  rw [buildR, if_pos h1] at h2
  have hl := rec_length (payload l)
  rw [h2] at hl
  have := unrec_rec (payload l) [] (by omega)
  rw [List.append_nil, h2] at this
  rw [unone, this]
  simp
  omega
/-- blocks begin one behind the other -/
theorem bl_inc (l : List Cl) : ∀ k, (bl l k).1.Pairwise (fun p q => p.1 < q.1) ∧ ∀ p ∈ (bl l k).1, p.1 < (bl l k).2.1
  | 0 => by simp [bl]
  | k + 1 => by
    have ih := bl_inc l k
    rw [bl]
    split
    · simp
    · rename_i h0
      split
      · obtain ⟨j, rfl⟩ : ∃ j, k = j + 1 := ⟨k - 1, by omega⟩
        have hf := bl_from l j
        refine ⟨List.pairwise_append.2 ⟨ih.1, by simp, fun p hp q hq => ?_⟩, fun p hp => ?_⟩
        · obtain rfl := List.mem_singleton.1 hq
          exact ih.2 p hp
        · show p.1 < j + 1
          rcases List.mem_append.1 hp with hp | hp
          · have := ih.2 p hp; omega
          · obtain rfl := List.mem_singleton.1 hp
            show (bl l (j + 1)).2.1 < j + 1; omega
      · exact ih
theorem parts_inc (l : List Cl) {i j : Nat} (hij : i < j) (hj : j < (parts l).length) : ((parts l).getD i (0, 0)).1 < ((parts l).getD j (0, 0)).1 := by
  have h : (parts l).Pairwise (fun p q => p.1 < q.1) := by
    unfold parts partsU
    split
    · simp
    · have ih := bl_inc l l.length
      refine List.pairwise_append.2 ⟨ih.1, by simp, fun p hp q hq => ?_⟩
      obtain rfl := List.mem_singleton.1 hq
      exact ih.2 p hp
  have := List.pairwise_iff_getElem.1 h i j (by omega) hj hij
  simpa [List.getD, hj, show i < (parts l).length by omega] using this
end Go.Proofs.Ytbepbbjeieafhaa.Tb

/-
  Maps from texts, by footprints: look-up, store, deletion, length, and a loop over one that does not turn it. Over any program.
-/




namespace Go.Proofs.Ytbepbbjeieafhaa.L
open Go.RowKit Go.MapKept Go.ChangeMaps
/-- entries as keys and values -/
def kvs (m : List (ByteArray × Value)) : List (Value × Value) := m.map fun p => (.string p.1, p.2)
def kv (e : MapEntry) : Value × Value := (e.key, e.val)
/-- what stands at a key -/
def mget (m : List (ByteArray × Value)) (s : ByteArray) : Option Value := (m.find? fun p => decide (p.1 = s)).map (·.2)
def mhas (m : List (ByteArray × Value)) (s : ByteArray) : Bool := m.any fun p => decide (p.1 = s)
def mput (m : List (ByteArray × Value)) (s : ByteArray) (v : Value) : List (ByteArray × Value) :=
  if mhas m s then m.map fun p => if p.1 = s then (s, v) else p else m ++ [(s, v)]
def mdel (m : List (ByteArray × Value)) (s : ByteArray) : List (ByteArray × Value) := m.filter fun p => !decide (p.1 = s)
def MapAt (w : World) (b : Nat) (m : List (ByteArray × Value)) : Prop :=
  ∃ es clock, w.heap[b]? = some (.map es clock) ∧ Stamped es clock ∧ es.toList.map kv = kvs m
/-- a map at a block of its own -/
def MapA (b : Nat) (m : List (ByteArray × Value)) : Asrt where
  at_ F w := MapAt w b m ∧ ∀ k, F k ↔ k = b
  stay := by
    rintro F w w' ⟨⟨es, clock, h1, h2⟩, h3⟩ hk
    exact ⟨⟨es, clock, by rw [hk b ((h3 b).2 rfl)]; exact h1, h2⟩, h3⟩
  lt := by
    rintro F w ⟨⟨es, clock, h1, h2⟩, h3⟩ k hk
    rw [(h3 k).1 hk]
    exact (Array.getElem?_eq_some_iff.1 h1).1
section
variable {P : Program} {w w' : World} {b : Nat} {m : List (ByteArray × Value)} {es : Array MapEntry} {clock : Nat}
theorem kvs_get {i : Nat} {e : MapEntry} (h : es.toList.map kv = kvs m) (he : es.toList[i]? = some e) : ∃ p, m[i]? = some p ∧ e.key = .string p.1 ∧ e.val = p.2 := by
  have h1 : (es.toList.map kv)[i]? = some (kv e) := by rw [List.getElem?_map, he]; rfl
  rw [h, kvs, List.getElem?_map] at h1
  cases hm : m[i]? with
  | none => rw [hm] at h1; cases h1
  | some p =>
    rw [hm] at h1
    simp only [Option.map_some, Option.some.injEq, kv, Prod.mk.injEq] at h1
    exact ⟨p, rfl, h1.1.symm, h1.2.symm⟩
theorem kvs_key {p : ByteArray × Value} {i : Nat} (h : es.toList.map kv = kvs m) (hp : m[i]? = some p) : ∃ e, es.toList[i]? = some e ∧ e.key = .string p.1 ∧ e.val = p.2 := by
  have h1 : (kvs m)[i]? = some (.string p.1, p.2) := by rw [kvs, List.getElem?_map, hp]; rfl
  rw [← h, List.getElem?_map] at h1
  cases he : es.toList[i]? with
  | none => rw [he] at h1; cases h1
  | some e =>
    rw [he] at h1
    simp only [Option.map_some, Option.some.injEq, kv, Prod.mk.injEq] at h1
    exact ⟨e, rfl, h1.1, h1.2⟩
theorem kvs_str (h : es.toList.map kv = kvs m) : ∀ x ∈ es.toList, IsKey .string x.key := by
  intro x hx
  obtain ⟨i, hi, rfl⟩ := List.getElem_of_mem hx
  obtain ⟨p, _, hp, _⟩ := kvs_get (i := i) h (List.getElem?_eq_getElem hi)
  rw [hp]; trivial
theorem kvs_length (h : es.toList.map kv = kvs m) : es.size = m.length := by
  have := congrArg List.length h
  simpa [kvs] using this
/-- keys stand once -/
theorem kvs_nodup (hS : Stamped es clock) (h : es.toList.map kv = kvs m) : (m.map (·.1)).Nodup := by
  have h1 : es.toList.map (·.key) = m.map fun p => Value.string p.1 := by
    have := congrArg (List.map Prod.fst) h
    simpa [kvs, kv, Function.comp_def] using this
  have h2 := hS.2.2
  rw [h1] at h2
  have : (m.map fun p => Value.string p.1) = (m.map (·.1)).map Value.string := by simp
  rw [this] at h2
  rw [List.Nodup, List.pairwise_map] at h2
  exact h2.imp fun h e => h (by rw [e])
theorem MapAt.nodup (h : MapAt w b m) : (m.map (·.1)).Nodup := by
  obtain ⟨es, clock, _, h2, h3⟩ := h
  exact kvs_nodup h2 h3
theorem nodup_at {i j : Nat} {p q : ByteArray × Value} (h : (m.map (·.1)).Nodup) (hi : m[i]? = some p) (hj : m[j]? = some q) (e : p.1 = q.1) : i = j := by
  have hil := (List.getElem?_eq_some_iff.1 hi).1
  refine (List.getElem?_inj (l := m.map (·.1)) (by simpa using hil) h).1 ?_
  rw [List.getElem?_map, List.getElem?_map, hi, hj]
  simp [e]
/-- where a key stands -/
theorem kvs_find (s : ByteArray) (hS : Stamped es clock) (h : es.toList.map kv = kvs m) :
    (Instr.findNow .string (.string s) es.toList 0 = some none ∧ (∀ x ∈ es.toList, x.key ≠ .string s) ∧ mget m s = none ∧ mhas m s = false) ∨
    ∃ j p, Instr.findNow .string (.string s) es.toList 0 = some (some (j, p.2)) ∧ m[j]? = some p ∧ p.1 = s ∧ mget m s = some p.2 ∧ mhas m s = true := by
  rcases findNow_spec (d := .string) (k := .string s) trivial es.toList 0 (kvs_str h) with ⟨h1, h2⟩ | ⟨j, e, h1, h2, h3⟩
  · refine .inl ⟨h1, h2, ?_, ?_⟩
    · rw [mget, List.find?_eq_none.2]
      · rfl
      · intro p hp hps
        obtain ⟨i, hi, rfl⟩ := List.getElem_of_mem hp
        obtain ⟨e, he, hk, _⟩ := kvs_key h (List.getElem?_eq_getElem hi)
        exact h2 e (List.mem_of_getElem? he) (by rw [hk, of_decide_eq_true hps])
    · rw [mhas, List.any_eq_false]
      intro p hp hps
      obtain ⟨i, hi, rfl⟩ := List.getElem_of_mem hp
      obtain ⟨e, he, hk, _⟩ := kvs_key h (List.getElem?_eq_getElem hi)
      exact h2 e (List.mem_of_getElem? he) (by rw [hk, of_decide_eq_true hps])
  · obtain ⟨p, hp, hk, hv⟩ := kvs_get h h2
    have hps : p.1 = s := by rw [h3] at hk; exact (Value.string.inj hk).symm
    rw [Nat.zero_add, hv] at h1
    have hmem : p ∈ m := List.mem_of_getElem? hp
    refine .inr ⟨j, p, h1, hp, hps, ?_, ?_⟩
    · have hnd := kvs_nodup hS h
      rw [mget]
      cases hf : m.find? fun p => decide (p.1 = s) with
      | none =>
        rw [List.find?_eq_none] at hf
        exact (hf p hmem (by simpa using hps)).elim
      | some q =>
        have hq := List.find?_some hf
        obtain ⟨i, hi, rfl⟩ := List.getElem_of_mem (List.mem_of_find?_eq_some hf)
        have := nodup_at hnd (List.getElem?_eq_getElem hi) hp (by rw [hps]; simpa using hq)
        subst this
        rw [List.getElem?_eq_getElem hi] at hp
        rw [Option.some.inj hp]; rfl
    · rw [mhas, List.any_eq_true]
      exact ⟨p, hmem, by simpa using hps⟩
theorem filter_erase {α : Type} : ∀ (l : List α) (f : α → Bool) (j : Nat), j < l.length → (∀ i x, l[i]? = some x → (f x = false ↔ i = j)) → l.filter f = l.eraseIdx j
  | [], _, _, h, _ => by simp at h
  | a :: r, f, 0, _, h => by
    have h0 : f a = false := (h 0 a rfl).2 rfl
    have hr : r.filter f = r := List.filter_eq_self.2 fun x hx => by
      obtain ⟨i, hi⟩ := List.getElem?_of_mem hx
      cases hf : f x with
      | true => rfl
      | false =>
        have := (h (i + 1) x hi).1 hf
        omega
    simp [h0, hr]
  | a :: r, f, j + 1, hj, h => by
    have h0 : f a = true := by
      cases hf : f a with
      | true => rfl
      | false => have := (h 0 a rfl).1 hf; omega
    have := filter_erase r f j (by simpa using hj) fun i x hx => by
      rw [h (i + 1) x hx]; omega
    simp [h0, this]
/-- m[k] -/
theorem run_look (h : MapAt w b m) {t k e : TypeId} (ht : P.underlying t = some (.map k e)) (hk : P.underlying k = some .string) {z : Value} (hz : (zeroValue e).run P w = .ok z w) (s : ByteArray) :
    (Instr.lookup t (.map (some b)) (.string s) false).run P w = .ok ((mget m s).getD z) w := by
  obtain ⟨es, clock, hb, hS, hkv⟩ := h
  rcases kvs_find s hS hkv with ⟨h1, _, h3, _⟩ | ⟨j, p, h1, _, _, h4, _⟩
  · rw [h3]
    simp [Instr.lookup, run_underlying ht, MapKept.run_getObj_map hb, MapKept.run_checkKey hk (k := .string s) trivial, MapKept.run_findKey hk h1, hz, Result.andThen]
  · rw [h4]
    simp [Instr.lookup, run_underlying ht, MapKept.run_getObj_map hb, MapKept.run_checkKey hk (k := .string s) trivial, MapKept.run_findKey hk h1, Result.andThen]
/-- m[k] = v -/
theorem run_put (h : MapAt w b m) {t k e : TypeId} (ht : P.underlying t = some (.map k e)) (hk : P.underlying k = some .string) (s : ByteArray) (v : Value) :
    ∃ o, (Instr.mapUpdate t (.map (some b)) (.string s) v).run P w = .ok () (setBlock w b o) ∧ MapAt (setBlock w b o) b (mput m s v) := by
  obtain ⟨es, clock, hb, hS, hkv⟩ := h
  have hnd := kvs_nodup hS hkv
  rcases kvs_find s hS hkv with ⟨h1, h2, _, h4⟩ | ⟨j, p, h1, hp, hps, _, h5⟩
  · refine ⟨.map (es.push ⟨.string s, v, clock⟩) (clock + 1), ?_, _, _, heap_setBlock_same hb _, stamped_push hS h2, ?_⟩
    · simp [Instr.mapUpdate, run_underlying ht, MapKept.run_getObj_map hb, MapKept.run_checkKey hk (k := .string s) trivial, MapKept.run_findKey hk h1, MapKept.run_setObj_map _ hb, Result.andThen, setBlock]
    · simp [mput, h4, kvs, hkv, kv]
  · obtain ⟨e0, he0, hk0, _⟩ := kvs_key hkv hp
    rw [hps] at hk0
    have hj : es[j]? = some e0 := by rw [← Array.getElem?_toList]; exact he0
    refine ⟨.map (es.modify j (fun e' => { e' with key := .string s, val := v })) clock, ?_, _, _, heap_setBlock_same hb _, stamped_modify hS _ _ (fun _ _ => rfl) (fun e' _ he' => ?_), ?_⟩
    · simp [Instr.mapUpdate, run_underlying ht, MapKept.run_getObj_map hb, MapKept.run_checkKey hk (k := .string s) trivial, MapKept.run_findKey hk h1, hj, hk0, MapKept.run_keyThatStays (d := .string) (k := .string s) trivial, MapKept.run_setObj_map _ hb, Result.andThen, setBlock]
    · rw [hj] at he'
      obtain rfl := Option.some.inj he'
      exact hk0.symm
    · rw [mput, h5, if_pos rfl]
      apply List.ext_getElem?
      intro i
      have hi := congrArg (fun l : List (Value × Value) => l[i]?) hkv
      simp only [kvs, List.getElem?_map, Array.getElem?_toList] at hi ⊢
      rw [Array.getElem?_modify]
      cases hm : m[i]? with
      | none =>
        rw [hm] at hi
        simp only [Option.map_none, Option.map_eq_none_iff] at hi
        simp [hi]
      | some q =>
        rw [hm] at hi
        simp only [Option.map_some, Option.map_eq_some_iff] at hi
        obtain ⟨e, he, hkve⟩ := hi
        by_cases hij : j = i
        · subst hij
          rw [hp] at hm
          obtain rfl := Option.some.inj hm
          simp [he, hps, kv]
        · have hq : ¬ q.1 = s := fun e => hij (nodup_at hnd hp hm (by rw [hps, e]))
          simp [hij, he, hq, hkve]
/-- delete(m, k) -/
theorem run_del (h : MapAt w b m) {t k e ty : TypeId} (ht : P.underlying t = some (.map k e)) (hk : P.underlying k = some .string) (s : ByteArray) :
    ∃ o, (Builtin.delete_ #[t, k] ty #[.map (some b), .string s]).run P w = .ok (.tuple #[]) (setBlock w b o) ∧ MapAt (setBlock w b o) b (mdel m s) := by
  obtain ⟨es, clock, hb, hS, hkv⟩ := h
  have hnd := kvs_nodup hS hkv
  rcases kvs_find s hS hkv with ⟨h1, _, _, h4⟩ | ⟨j, p, h1, hp, hps, _, h5⟩
  · refine ⟨.map es clock, ?_, _, _, heap_setBlock_same hb _, hS, ?_⟩
    · simp [Builtin.delete_, run_underlying ht, MapKept.run_getObj_map hb, MapKept.run_checkKey hk (k := .string s) trivial, MapKept.run_findKey hk h1, MapKept.run_setObj_map _ hb, Result.andThen, setBlock]
    · rw [mdel, List.filter_eq_self.2, hkv]
      intro q hq
      rw [mhas, List.any_eq_false] at h4
      simpa using h4 q hq
  · have hjl : j < m.length := (List.getElem?_eq_some_iff.1 hp).1
    have hjs : j < es.size := by rw [kvs_length hkv]; exact hjl
    have hsub : (es.eraseIdxIfInBounds j).toList = es.toList.eraseIdx j := by
      unfold Array.eraseIdxIfInBounds
      rw [dif_pos hjs]
      simp
    refine ⟨.map (es.eraseIdxIfInBounds j) clock, ?_, _, _, heap_setBlock_same hb _, stamped_erase hS j, ?_⟩
    · simp [Builtin.delete_, run_underlying ht, MapKept.run_getObj_map hb, MapKept.run_checkKey hk (k := .string s) trivial, MapKept.run_findKey hk h1, MapKept.run_setObj_map _ hb, Result.andThen, setBlock]
    · rw [hsub, map_eraseIdx, hkv, kvs, ← map_eraseIdx, mdel, filter_erase m _ j hjl]
      · rfl
      · intro i x hx
        constructor
        · intro hf
          exact nodup_at hnd hx hp (by rw [hps]; simpa using hf)
        · rintro rfl
          rw [hp] at hx
          obtain rfl := Option.some.inj hx
          simp [hps]
theorem run_mlen (h : MapAt w b m) {t k e : TypeId} (ht : P.underlying t = some (.map k e)) (ty : TypeId) : (Builtin.len_ #[t] ty #[.map (some b)]).run P w = .ok (.int .i64 m.length) w := by
  obtain ⟨es, clock, hb, _, hkv⟩ := h
  simp [Builtin.len_, run_underlying ht, MapKept.run_getObj_map hb, goInt, kvs_length hkv]
end
end Go.Proofs.Ytbepbbjeieafhaa.L

/-
  Maps from texts in a walk: stores, deletions, and a loop over one. Over any program.
-/

namespace Go.Proofs.Ytbepbbjeieafhaa.L
open Go.RowKit Go.MapKept Go.ChangeMaps
/-- a loop over a map under way: what is still to come -/
def RangeAt (w : World) (b r : Nat) (m rem : List (ByteArray × Value)) : Prop :=
  ∃ es clock since seen c0, w.heap[b]? = some (.map es clock) ∧ Stamped es clock ∧ es.toList.map kv = kvs m ∧ w.heap[r]? = some (.mapIter (some b) since seen c0) ∧ (∀ x ∈ es.toList, x.born < since) ∧ since ≤ c0 ∧ since ≤ clock ∧
    (leftOf es seen).toList.map kv = kvs rem
def RangeA (b r : Nat) (m rem : List (ByteArray × Value)) : Asrt where
  at_ F w := RangeAt w b r m rem ∧ ∀ k, F k ↔ k = b ∨ k = r
  stay := by
    rintro F w w' ⟨⟨es, clock, since, seen, c0, h1, h2, h3, h4, h5⟩, h6⟩ hk
    exact ⟨⟨es, clock, since, seen, c0, by rw [hk b ((h6 b).2 (.inl rfl))]; exact h1, h2, h3, by rw [hk r ((h6 r).2 (.inr rfl))]; exact h4, h5⟩, h6⟩
  lt := by
    rintro F w ⟨⟨es, clock, since, seen, c0, h1, h2, h3, h4, h5⟩, h6⟩ k hk
    rcases (h6 k).1 hk with rfl | rfl
    · exact (Array.getElem?_eq_some_iff.1 h1).1
    · exact (Array.getElem?_eq_some_iff.1 h4).1
section
variable {P : Program} {W0 w w' : World} {R : Asrt} {b r : Nat} {m rem : List (ByteArray × Value)} {es : Array MapEntry} {clock : Nat}
theorem Hold.map (h : Hold W0 ((MapA b m).sep R) w) : MapAt w b m := by
  obtain ⟨F, h1, _⟩ := h.fst
  exact h1
theorem keeps_setBlock {F : Nat → Prop} {o o' : Obj} (hb : w.heap[b]? = some o) (hF : F b) : Keeps F w (setBlock w b o') :=
  ⟨rfl, rfl, rfl, by simp [setBlock], fun k _ hk => (heap_set hb).2 k fun e => hk (by rw [e]; exact hF)⟩
theorem Hold.setMap {m' : List (ByteArray × Value)} {o : Obj} (h : Hold W0 ((MapA b m).sep R) w) (hm : MapAt (setBlock w b o) b m') : Hold W0 ((MapA b m').sep R) (setBlock w b o) := by
  obtain ⟨F, ⟨⟨es, clock, hb, _⟩, hF⟩, hge, hup⟩ := h.take
  exact hup _ (MapA b m') F (keeps_setBlock hb ((hF b).2 rfl)) ⟨hm, hF⟩ fun k hk => .inl hk
theorem Hold.addMap (h : Hold W0 R w) : Hold W0 ((MapA w.heap.size []).sep R) (w.alloc (.map #[] 0)) :=
  h.add ((Below.refl _ _).alloc (Nat.le_refl _) _) (A := MapA w.heap.size []) (F := fun k => k = w.heap.size) ⟨⟨#[], 0, heap_alloc_new w _, stamped_empty 0, rfl⟩, fun k => Iff.rfl⟩ fun k hk => by omega
variable {ops : Array Oper} {rest : List Oper} {o : Oper} {a : Act} {Q : Exit → Act → World → Prop}
/-- m[k] = v in a walk -/
theorem wpList_mput (H : Hold W0 ((MapA b m).sep R) w) (hg : o.guard = none) (mo x v : Operand) (t : TypeId) (hop : o.op = Op.mapUpdate t mo x v) {k e : TypeId} (ht : P.underlying t = some (.map k e)) (hk : P.underlying k = some .string)
    (hm : a.eval mo = .map (some b)) (s : ByteArray) (val : Value) (hx : a.eval x = .string s) (hv : a.eval v = val)
    (hK : ∀ w', Hold W0 ((MapA b (mput m s val)).sep R) w' → wpList P ops Q rest (a.put o.dst undef) w') : wpList P ops Q (o :: rest) a w := by
  refine wpList_plain hg fun K' hK' => ?_
  obtain ⟨ob, hrun, h1⟩ := run_put (P := P) H.map ht hk s val
  unfold Oper.wp
  simp [execOp, hop, hm, hx, hv, hrun, Result.andThen]
  exact hK' _ _ (hK _ (H.setMap h1))
/-- delete(m, k) in a walk -/
theorem wpList_mdel (H : Hold W0 ((MapA b m).sep R) w) (hg : o.guard = none) (mo x : Operand) (t k : TypeId) (hop : o.op = Op.call { callee := Callee.builtin Builtin.delete, args := #[mo, x], argTypes := #[t, k] }) {e : TypeId}
    (ht : P.underlying t = some (.map k e)) (hk : P.underlying k = some .string) (hm : a.eval mo = .map (some b)) (s : ByteArray) (hx : a.eval x = .string s)
    (hK : ∀ w', Hold W0 ((MapA b (mdel m s)).sep R) w' → wpList P ops Q rest (a.put o.dst (.tuple #[])) w') : wpList P ops Q (o :: rest) a w := by
  refine wpList_plain hg fun K' hK' => ?_
  obtain ⟨ob, hrun, h1⟩ := run_del (P := P) (ty := o.type) H.map ht hk s
  unfold Oper.wp
  simp [execOp, hop, resolve, invoke, builtin, hm, hx, hrun, Result.andThen]
  exact hK' _ _ (hK _ (H.setMap h1))
/-- range m in a walk -/
theorem wpList_mrange (H : Hold W0 ((MapA b m).sep R) w) (hg : o.guard = none) (mo : Operand) (t : TypeId) (hop : o.op = Op.range t mo) {k e : TypeId} (ht : P.underlying t = some (.map k e)) (hm : a.eval mo = .map (some b))
    (hK : ∀ r w', Hold W0 ((RangeA b r m m).sep R) w' → wpList P ops Q rest (a.put o.dst (.pointer (some ⟨r, 0, none⟩))) w') : wpList P ops Q (o :: rest) a w := by
  refine wpList_plain hg fun K' hK' => ?_
  obtain ⟨F, ⟨⟨es, clock, hb, hS, hkv⟩, hF⟩, hge, hup⟩ := H.take
  have hrun := run_range_map (P := P) w t k e b es clock ht hb
  have hlt : b < w.heap.size := (Array.getElem?_eq_some_iff.1 hb).1
  unfold Oper.wp
  simp [execOp, hop, hm, hrun, Result.andThen]
  refine hK' _ _ (hK _ _ (hup _ (RangeA b w.heap.size m m) (fun k => k = b ∨ k = w.heap.size) ((Keeps.refl F w).alloc _) ⟨⟨es, clock, clock, #[], clock, ?_, hS, hkv, heap_alloc_new w _, hS.1, Nat.le_refl _, Nat.le_refl _, ?_⟩, fun k => Iff.rfl⟩ ?_))
  · rw [Below.heap_alloc _ _ _ hlt]; exact hb
  · rw [leftOf, Array.toList_filter, List.filter_eq_self.2 (by simp)]; exact hkv
  · rintro k (rfl | rfl)
    · exact .inl ((hF _).2 rfl)
    · exact .inr (Nat.le_refl _)
theorem Hold.range_map (h : Hold W0 ((RangeA b r m rem).sep R) w) : Hold W0 ((MapA b m).sep R) w := by
  obtain ⟨F, ⟨⟨es, clock, since, seen, c0, hb, hS, hkv, _⟩, hF⟩, hge, hup⟩ := h.take
  exact hup _ (MapA b m) (fun k => k = b) (Keeps.refl F w) ⟨⟨es, clock, hb, hS, hkv⟩, fun k => Iff.rfl⟩ fun k hk => .inl ((hF k).2 (.inl hk))
theorem Hold.range_nodup (h : Hold W0 ((RangeA b r m rem).sep R) w) : (rem.map (·.1)).Nodup ∧ ∀ p ∈ rem, p ∈ m := by
  obtain ⟨F, ⟨es, clock, since, seen, c0, hb, hS, hkv, hr, h5, h6, h7, h8⟩, _⟩ := h.fst
  have hsub : List.Sublist (kvs rem) (kvs m) := by
    rw [← h8, ← hkv]
    refine List.Sublist.map _ ?_
    rw [leftOf, Array.toList_filter]
    exact List.filter_sublist
  have hinj : ∀ l l' : List (ByteArray × Value), List.Sublist (kvs l) (kvs l') → List.Sublist l l' := by
    intro l l' h
    have := h.map fun q : Value × Value => ((match q.1 with | .string s => s | _ => ByteArray.empty), q.2)
    simpa [kvs, Function.comp_def] using this
  have hs := hinj _ _ hsub
  exact ⟨(hs.map _).nodup (kvs_nodup hS hkv), fun p hp => hs.subset hp⟩
theorem Hold.range_left (h : Hold W0 ((RangeA b r m rem).sep R) w) : w.rangeLeft b r = rem.length := by
  obtain ⟨F, ⟨es, clock, since, seen, c0, hb, hS, hkv, hr, h5, h6, h7, h8⟩, _⟩ := h.fst
  have := congrArg List.length h8
  simp only [World.rangeLeft, hb, hr]
  simpa [kvs] using this
/-- the step of a loop in a walk -/
theorem wpList_mnext (H : Hold W0 ((RangeA b r m rem).sep R) w) (hg : o.guard = none) (it : Operand) (hop : o.op = Op.next it false) (hit : a.eval it = .pointer (some ⟨r, 0, none⟩))
    (hDone : rem = [] → wpList P ops Q rest (a.put o.dst (.tuple #[.bool false])) w)
    (hMore : ∀ p w', p ∈ rem → (mdel rem p.1).length < rem.length → Hold W0 ((RangeA b r m (mdel rem p.1)).sep R) w' → (Instr.entry (.pointer (some ⟨r, 0, none⟩))).run P w' = .ok (.tuple #[.string p.1, p.2]) w' →
      wpList P ops Q rest (a.put o.dst (.tuple #[.bool true, .string p.1, p.2])) w') : wpList P ops Q (o :: rest) a w := by
  refine wpList_plain hg fun K' hK' => ?_
  have hnd := H.range_nodup.1
  obtain ⟨F, ⟨⟨es, clock, since, seen, c0, hb, hS, hkv, hr, h5, h6, h7, h8⟩, hF⟩, hge, hup⟩ := H.take
  unfold Oper.wp
  rcases run_next_at (P := P) w o.type r b since c0 seen es clock hr hb h5 h6 with ⟨h0, hrun⟩ | ⟨e, he, w1, hal, hrun⟩
  · have hrem : rem = [] := by
      have : (leftOf es seen).toList = [] := by
        apply List.eq_nil_of_length_eq_zero
        simpa using h0
      rw [this] at h8
      cases rem with
      | nil => rfl
      | cons p l => simp [kvs] at h8
    simp [execOp, hop, hit, hrun, Result.andThen]
    exact hK' _ _ (hDone hrem)
  · obtain ⟨hem, hes⟩ := mem_left he
    obtain ⟨i, hi⟩ := List.getElem?_of_mem he
    have hge2 : (kvs rem)[i]? = some (kv e) := by rw [← h8, List.getElem?_map, hi]; rfl
    rw [kvs, List.getElem?_map] at hge2
    obtain ⟨p, hp, hpe⟩ := Option.map_eq_some_iff.1 hge2
    simp only [kv, Prod.mk.injEq] at hpe
    have hr1 : w1.heap[r]? = some (.mapIter (some b) since seen c0) := by rcases hal with rfl | rfl <;> exact hr
    have hb1 : w1.heap[b]? = some (.map es clock) := by rcases hal with rfl | rfl <;> exact hb
    have hrb : r ≠ b := by intro e1; rw [e1, hb] at hr; cases hr
    have hset := heap_set (o' := .mapIter (some b) since (seen.push e.born) clock) hr1
    have hb' : (setBlock w1 r (.mapIter (some b) since (seen.push e.born) clock)).heap[b]? = some (.map es clock) := (hset.2 b (fun e1 => hrb e1.symm)).trans hb1
    have hbn := ((stamped_iff es clock).1 hS).2.1
    have hen := run_entry_at (P := P) _ r b since seen es clock e hset.1 hb' hem hbn
    have hleft : (leftOf es (seen.push e.born)).toList.map kv = kvs (mdel rem p.1) := by
      have e1 : (leftOf es (seen.push e.born)).toList = (leftOf es seen).toList.filter fun x => !(x.born == e.born) := by
        simp only [leftOf, Array.toList_filter, List.filter_filter]
        apply List.filter_congr
        intro x _
        rw [contains_push]
        cases seen.contains x.born <;> cases (x.born == e.born) <;> rfl
      rw [e1]
      have hli : i < (leftOf es seen).toList.length := (List.getElem?_eq_some_iff.1 hi).1
      have hnb : ((leftOf es seen).toList.map (·.born)).Nodup := by
        have : List.Sublist ((leftOf es seen).toList) es.toList := by
          rw [leftOf, Array.toList_filter]; exact List.filter_sublist
        exact (this.map _).nodup hbn
      rw [filter_erase _ _ i hli, map_eraseIdx, h8, kvs, ← map_eraseIdx, mdel, filter_erase rem _ i (List.getElem?_eq_some_iff.1 hp).1]
      · rfl
      · intro j x hx
        constructor
        · intro hf
          exact nodup_at hnd hx hp (by simpa using hf)
        · rintro rfl
          rw [hp] at hx
          obtain rfl := Option.some.inj hx
          simp
      · intro j x hx
        constructor
        · intro hf
          have hxe : x.born = e.born := by simpa using hf
          refine (List.getElem?_inj (l := (leftOf es seen).toList.map (·.born)) (by simpa using (List.getElem?_eq_some_iff.1 hx).1) hnb).1 ?_
          rw [List.getElem?_map, List.getElem?_map, hx, hi]
          simp [hxe]
        · rintro rfl
          rw [hi] at hx
          obtain rfl := Option.some.inj hx
          simp
    have hlen : (mdel rem p.1).length < rem.length := by
      have hpm : p ∈ rem := List.mem_of_getElem? hp
      rw [mdel]
      rcases Nat.lt_or_ge (rem.filter fun q => !decide (q.1 = p.1)).length rem.length with h | h
      · exact h
      · have := List.filter_eq_self.1 (List.Sublist.eq_of_length_le List.filter_sublist h) p hpm
        simp at this
    simp [execOp, hop, hit, hrun, Result.andThen]
    rw [← hpe.1, ← hpe.2] at hen ⊢
    refine hK' _ _ (hMore p _ (List.mem_of_getElem? hp) hlen (hup _ (RangeA b r m (mdel rem p.1)) F ?_ ⟨⟨es, clock, since, seen.push e.born, clock, hb', hS, hkv, hset.1, h5, h7, h7, hleft⟩, hF⟩ fun k hk => .inl hk) hen)
    rcases hal with rfl | rfl
    · exact keeps_setBlock hr1 ((hF r).2 (.inr rfl))
    · exact ((Keeps.refl F w).drew).trans (keeps_setBlock (F := F) hr1 ((hF r).2 (.inr rfl))) fun _ _ h => h
end
end Go.Proofs.Ytbepbbjeieafhaa.L

/-
  The blocks of a table as a map: only how many there are.
-/




namespace Go.Proofs.Ytbepbbjeieafhaa.Tb
open Go.RowKit L Go.MapKept Go.ChangeMaps
def pkey (f t : Int) : Value := .agg #[.int .i64 f, .int .i64 t]
set_option maxRecDepth 100000 in
theorem run_eqP (f t f' t' : Int) (w : World) : (Op.equalIn 10000 60 (pkey f t) (pkey f' t')).run Try.prog w = .ok (f == f' && t == t') w := by
  have hp : Try.prog.stoodInHeld 60 = false := by kernel_rfl
  have ht : Try.prog.underlying 60 = some (.struct (Try.prog.fieldsOf 60)) := by kernel_rfl
  have hu3 := Try.underlying3
  rw [pkey, pkey, run_equalIn_agg w 9999 60 _ _ ht hp]
  simp only [Program.fieldsOf, Try.underlying60]
  simp [Op.eqFields, go_sem, hu3]
  by_cases h1 : f = f' <;> by_cases h2 : t = t' <;> simp [h1, h2]
set_option maxRecDepth 100000 in
theorem run_checkPn (n : Nat) (f t : Int) (w : World) : (Instr.checkKey false (n + 1 + 1) 60 (pkey f t)).run Try.prog w = .ok () w := by
  have hu3 := Try.underlying3
  have hup := Try.underlying60
  unfold pkey
  unfold Instr.checkKey
  simp [run_underlying hup, go_sem]
  simp [Instr.checkKey, run_underlying hu3, go_sem]
theorem run_checkP (f t : Int) (w : World) : (Instr.checkKey false 10000 60 (pkey f t)).run Try.prog w = .ok () w := run_checkPn 9998 f t w
theorem run_findP (f t : Int) (w : World) : ∀ (es : List MapEntry), (∀ x ∈ es, ∃ f' t', x.key = pkey f' t' ∧ f' ≠ f) → ∀ i, (Instr.findAsking 60 (pkey f t) es i).run Try.prog w = .ok none w
  | [], _, i => rfl
  | e :: es, h, i => by
    obtain ⟨f', t', hk, hne⟩ := h e (by simp)
    have ih := run_findP f t w es (fun x hx => h x (by simp [hx])) (i + 1)
    have he := run_eqP f t f' t' w
    rw [show (f == f') = false from by simpa using fun e => hne e.symm, Bool.false_and] at he
    simp [Instr.findAsking, Op.equal, Op.maxDepth, hk, he, ih, Result.andThen]
theorem run_findKeyP (f t : Int) (w : World) (es : List MapEntry) (h : ∀ x ∈ es, ∃ f' t', x.key = pkey f' t' ∧ f' ≠ f) : (Instr.findKey 60 (pkey f t) es).run Try.prog w = .ok none w := by
  have hup := Try.underlying60
  cases es with
  | nil => simp [Instr.findKey, run_underlying hup, Instr.findNow, Result.andThen]
  | cons e es =>
    obtain ⟨f', t', hk, hne⟩ := h e (by simp)
    have hf := run_findP f t w (e :: es) h 0
    have hn : ∀ fs, Instr.findNow (.struct fs) (pkey f t) (e :: es) 0 = none := fun fs => by
      rw [Instr.findNow, hk]; rfl
    simp [Instr.findKey, run_underlying hup, hn, hf, Result.andThen]
/-- a map of n blocks, each of which begins below F -/
def PMapAt (w : World) (b n F : Nat) : Prop := ∃ es clock, w.heap[b]? = some (.map es clock) ∧ es.size = n ∧ ∀ x ∈ es.toList, ∃ f t : Int, x.key = pkey f t ∧ f < (F : Int)
def PMapA (b n F : Nat) : Asrt where
  at_ G w := PMapAt w b n F ∧ ∀ k, G k ↔ k = b
  stay := by
    rintro G w w' ⟨⟨es, clock, h1, h2⟩, h3⟩ hk
    exact ⟨⟨es, clock, by rw [hk b ((h3 b).2 rfl)]; exact h1, h2⟩, h3⟩
  lt := by
    rintro G w ⟨⟨es, clock, h1, h2⟩, h3⟩ k hk
    rw [(h3 k).1 hk]
    exact (Array.getElem?_eq_some_iff.1 h1).1
section
variable {W0 w : World} {R : Asrt} {b n F : Nat}
theorem run_pput (h : PMapAt w b n F) (f : Nat) (hf : F ≤ f) (t : Int) (v : Value) :
    ∃ o, (Instr.mapUpdate 79 (.map (some b)) (pkey f t) v).run Try.prog w = .ok () (setBlock w b o) ∧ PMapAt (setBlock w b o) b (n + 1) (f + 1) := by
  obtain ⟨es, clock, hb, hs, hk⟩ := h
  have hfk := run_findKeyP f t w es.toList fun x hx => by
    obtain ⟨f', t', h1, h2⟩ := hk x hx
    exact ⟨f', t', h1, by omega⟩
  refine ⟨.map (es.push ⟨pkey f t, v, clock⟩) (clock + 1), ?_, _, _, heap_setBlock_same hb _, by simp [hs], fun x hx => ?_⟩
  · simp [Instr.mapUpdate, run_underlying Try.underlying79, MapKept.run_getObj_map hb, run_checkP, hfk, MapKept.run_setObj_map _ hb, Result.andThen, setBlock]
  · simp only [Array.toList_push, List.mem_append, List.mem_singleton] at hx
    rcases hx with hx | rfl
    · obtain ⟨f', t', h1, h2⟩ := hk x hx
      exact ⟨f', t', h1, by omega⟩
    · exact ⟨f, t, rfl, by omega⟩
theorem Hold.pmap (h : Hold W0 ((PMapA b n F).sep R) w) : PMapAt w b n F := by
  obtain ⟨G, h1, _⟩ := h.fst
  exact h1
theorem Hold.setPMap {n' F' : Nat} {o : Obj} (h : Hold W0 ((PMapA b n F).sep R) w) (hm : PMapAt (setBlock w b o) b n' F') : Hold W0 ((PMapA b n' F').sep R) (setBlock w b o) := by
  obtain ⟨G, ⟨⟨es, clock, hb, _⟩, hF⟩, hge, hup⟩ := h.take
  exact hup _ (PMapA b n' F') G (keeps_setBlock hb ((hF b).2 rfl)) ⟨hm, hF⟩ fun k hk => .inl hk
theorem Hold.addPMap (h : Hold W0 R w) : Hold W0 ((PMapA w.heap.size 0 0).sep R) (w.alloc (.map #[] 0)) :=
  h.add ((Below.refl _ _).alloc (Nat.le_refl _) _) (A := PMapA w.heap.size 0 0) (F := fun k => k = w.heap.size) ⟨⟨#[], 0, heap_alloc_new w _, rfl, by simp⟩, fun k => Iff.rfl⟩ fun k hk => by omega
theorem PMapAt.run_len (h : PMapAt w b n F) (ty : TypeId) : (Builtin.len_ #[79] ty #[.map (some b)]).run Try.prog w = .ok (.int .i64 n) w := by
  obtain ⟨es, clock, hb, hs, _⟩ := h
  rw [← hs]
  simp [Builtin.len_, run_underlying Try.underlying79, MapKept.run_getObj_map hb, goInt]
variable {ops : Array Oper} {rest : List Oper} {o : Oper} {a : Act} {Q : Exit → Act → World → Prop}
theorem wpList_mapUpdate_run {P : Program} {w1 : World} (hg : o.guard = none) (mo x v : Operand) (t : TypeId) (hop : o.op = Op.mapUpdate t mo x v) (mv key val : Value) (hm : a.eval mo = mv) (hx : a.eval x = key) (hv : a.eval v = val)
    (hrun : (Instr.mapUpdate t mv key val).run P w = .ok () w1) (hK : wpList P ops Q rest (a.put o.dst undef) w1) : wpList P ops Q (o :: rest) a w := by
  refine wpList_plain hg fun K' hK' => ?_
  unfold Oper.wp
  simp [execOp, hop, hm, hx, hv, hrun, Result.andThen]
  exact hK' _ _ hK
theorem wpList_pput (H : Hold W0 ((PMapA b n F).sep R) w) (hg : o.guard = none) (mo x v : Operand) (hop : o.op = Op.mapUpdate 79 mo x v) (hm : a.eval mo = .map (some b)) (f : Nat) (hf : F ≤ f) (t : Int) (val : Value)
    (hx : a.eval x = .agg #[.int .i64 (f : Int), .int .i64 t]) (hv : a.eval v = val)
    (hK : ∀ w', Hold W0 ((PMapA b (n + 1) (f + 1)).sep R) w' → wpList Try.prog ops Q rest (a.put o.dst undef) w') : wpList Try.prog ops Q (o :: rest) a w := by
  obtain ⟨ob, hrun, h1⟩ := run_pput (Hold.pmap H) f hf t val
  exact wpList_mapUpdate_run hg mo x v _ hop _ _ _ hm hx hv hrun (hK _ (Hold.setPMap H h1))
end
end Go.Proofs.Ytbepbbjeieafhaa.Tb

/-
  Open of chapter 8.
-/









namespace Go.Proofs.Ytbepbbjeieafhaa.Tb
open Go.RowKit L Oct Bl Fr
def bitsOf (l : List Cl) : List UInt8 := BloomP.make (Bloom.keysOf (keys l))
/-- a table of these cells -/
def Tab (b : Nat) (l : List Cl) : Asrt := ExA fun x : Value × Nat × Nat × Value =>
  (Blk b #[x.1, .map (some x.2.1), x.2.2.2] 81).sep ((Row 39 4 x.1 l.length (cls l)).sep ((PMapA x.2.1 (parts l).length x.2.2.1).sep (Row 5 1 x.2.2.2 (bitsOf l).length (u8s (bitsOf l)))))
def openE (b : List UInt8) : Nat := if (unone b).2 = 0 then 3 else (unone b).2
def RetOpen (w : World) (b : List UInt8) (e : Ending) (w' : World) : Prop :=
  (∃ l tb, OpenOk b l ∧ e = .returned (.tuple #[.pointer (some ⟨tb, 0, none⟩), .int .i64 0]) ∧ Hold w ((Tab tb l).sep Asrt.emp) w') ∨
  ((∀ l, ¬ OpenOk b l) ∧ e = .returned (.tuple #[.pointer none, .int .i64 (openE b)]) ∧ Below w.heap.size w w')
def OpRel (w : World) (p : List UInt8) (br k : Nat) (y : Value) (wr : World) : Prop :=
  ∃ acc rest bad, Hold w ((Rd br rest bad).sep ((Row 39 4 y acc.length (cls acc)).sep Asrt.emp)) wr ∧ FollowT p k acc rest ∧ (∀ l0, buildN l0 = 0 → payload l0 = p → bad = false) ∧ weight acc + 5 * rest.length ≤ 5 * p.length
theorem weight_len : ∀ l : List Cl, l.length ≤ weight l
  | [] => Nat.zero_le _
  | c :: r => by have := weight_len r; simp only [weight, List.length_cons]; omega
theorem got_left (l : List UInt8) : (got [] (decRow l)).length + (left (decRow l)).length ≤ l.length := by
  unfold decRow
  cases hd : dec 0 0 l with
  | none => simp [left, got]
  | some p =>
    obtain ⟨n, r⟩ := p
    have := dec_length l 0 0 n r hd
    by_cases h : n ≤ r.length
    · simp [left, got, h]; omega
    · simp [left, got, h]
set_option maxRecDepth 100000 in
set_option maxHeartbeats 3200000 in
theorem open_any (v : Value) (b : List UInt8) (w : World) (h : Sl w 1 v b.length (u8s b)) (hn : b.length ≤ 40000) : Calls Try.prog 15 #[v] w (RetOpen w b) := by
  have Hop := Lib.hid fun l (h : OpenOk b l) => open_one h hn
  obtain ⟨p, hp⟩ : ∃ p, p = (unone b).1 := ⟨_, rfl⟩
  obtain ⟨e1, he1⟩ : ∃ e1, e1 = (unone b).2 := ⟨_, rfl⟩
  have ho := one_any v b w h (by omega)
  rw [← hp, ← he1] at ho
  have HO := Lib.hid ho
  have Hp := Lib.hid hp
  have He1 := Lib.hid he1
  clear ho hp he1
  go_enter Try.func15, Try.ntmps15
  go_wp2_with fail
  refine HO.out.mono ?_
  rintro e w1 ⟨v1, rfl, ho1, hb1⟩
  by_cases h0 : e1 = 0
  · subst h0
    have hpb : p.length ≤ b.length := by
      rw [Hp.out]
      unfold unone
      split
      · simp
      · rename_i hx
        have hz := He1.out
        unfold unone at hz
        rw [if_neg hx] at hz
        exact (unrec_step b hz.symm).2.2
    have HE : Hid (openE b = 3) := Lib.hid (by rw [openE, if_pos He1.out.symm])
    have Hpay : Hid (∀ l, OpenOk b l → buildN l = 0 ∧ payload l = p) := Lib.hid fun l hl => ⟨hl.1, by rw [Hp.out, Hop.out l hl]⟩
    have H1 := (Hold.start w).addRow hb1 ho1
    clear ho1 hb1 HO
    go_wp2_with fail
    refine (newReader_any H1 v1 p H1.sl (by omega)).mono ?_
    rintro e w2 ⟨pp, rfl, br, rfl, H2⟩
    have H3 := H2.up2.drop1
    clear H1 H2
    go_wp2_with fail
    refine (num_any H3 (by omega)).mono ?_
    rintro e w3 ⟨rfl, H4⟩
    obtain ⟨hs1, hs2⟩ := followT_start (p := p)
    obtain ⟨n, hn1⟩ : ∃ n, n = got 0 (dec 0 0 p) := ⟨_, rfl⟩
    obtain ⟨r0, hr0⟩ : ∃ r0, r0 = left (dec 0 0 p) := ⟨_, rfl⟩
    obtain ⟨b0, hb0⟩ : ∃ b0, b0 = (false || (dec 0 0 p).isNone) := ⟨_, rfl⟩
    have hr0l : r0.length ≤ p.length := by rw [hr0]; exact left_dec' p
    have Hn : Hid (∀ l0, buildN l0 = 0 → payload l0 = p → n = (parts l0).length) := Lib.hid fun l0 h1 h2 => by
      rw [hn1, hs1 l0 h1 h2]; rfl
    have Hb0 : Hid (∀ l0, buildN l0 = 0 → payload l0 = p → b0 = false) := Lib.hid fun l0 h1 h2 => by
      rw [hb0, hs1 l0 h1 h2]; rfl
    have hnl : n ≤ 4611686018427387904 := by
      rw [hn1]
      cases hd : dec 0 0 p with
      | none => simp [got]
      | some q => obtain ⟨a, r⟩ := q; exact (dec_length p 0 0 a r hd).2
    rw [← hr0, ← hb0] at H4
    rw [← hr0] at hs2
    rw [← hn1]
    have HF0 := Lib.hid hs2
    have H5 := Lib.hid (H4.addNil 39 4).up2
    clear hs1 hs2 hn1 hr0 hb0 H3 H4
    go_wp2
    go_loopw [7, 26] (fun y i wr => ∃ (k : Nat) (y' : Value), y' = y ∧ k ≤ n ∧ i = .int .i64 k ∧ OpRel w p br k y' wr) (fun _ i _ => n - (intOf i).toNat)
    case atStart => exact ⟨0, _, rfl, Nat.zero_le _, rfl, [], r0, b0, H5.out, HF0.out, Hb0.out, by simp [weight]; omega⟩
    case round =>
      clear H5
      obtain ⟨k, y, rfl, hk, rfl, acc, rest, bad, H, HF, hbad, hw⟩ := hrel
      have hal := weight_len acc
      obtain ⟨aoY, capY, rfl⟩ := H.up2.own.shape
      by_cases hlt : k < n
      · have hst := followT_step HF
        have hmo := fun l2 => followT_more (l2 := l2) HF (fun l0 h1 h2 => by rw [← Hn.out l0 h1 h2]; exact hlt)
        have g1 := left_decRow rest
        have g2 := left_dec' (left (decRow rest))
        have g3 := got_left (left (dec 0 0 (left (decRow rest))))
        obtain ⟨q1, hq1⟩ : ∃ q, q = left (decRow rest) := ⟨_, rfl⟩
        obtain ⟨i1, hi1⟩ : ∃ q, q = (decRow rest).isNone := ⟨_, rfl⟩
        have hrl : rest.length ≤ 100000 := by omega
        have hc1 := rbytes_any H (by omega)
        rw [← hq1] at hst hmo g1 g2 g3
        rw [← hi1] at hst
        rw [← hq1, ← hi1] at hc1
        have HC1 := Lib.hid hc1
        clear hc1 H hq1 hi1
        obtain ⟨q2, hq2⟩ : ∃ q, q = left (dec 0 0 q1) := ⟨_, rfl⟩
        obtain ⟨i2, hi2⟩ : ∃ q, q = (dec 0 0 q1).isNone := ⟨_, rfl⟩
        have Hq2 := Lib.hid hq2
        have Hi2 := Lib.hid hi2
        rw [← hq2] at hst hmo g2 g3
        rw [← hi2] at hst
        obtain ⟨q3, hq3⟩ : ∃ q, q = left (decRow q2) := ⟨_, rfl⟩
        obtain ⟨i3, hi3⟩ : ∃ q, q = (decRow q2).isNone := ⟨_, rfl⟩
        obtain ⟨x, hx⟩ : ∃ q, q = got [] (decRow q2) := ⟨_, rfl⟩
        have Hq3 := Lib.hid hq3
        have Hi3 := Lib.hid hi3
        have Hx := Lib.hid hx
        rw [← hq3, ← hx] at hst g3
        rw [← hq3, ← hx] at hmo
        rw [← hi3] at hst
        have Hst := Lib.hid hst
        have Hmo := Lib.hid hmo
        have Hbad := Lib.hid hbad
        clear hst hmo hq2 hi2 hq3 hi3 hx hbad HF HF0 Hb0
        go_wp2_with fail
        refine HC1.out.mono ?_
        rintro e w5 ⟨v5, rfl, H5⟩
        have H6 := H5.drop1
        clear H5 HC1
        go_wp2_with fail
        refine (num_any H6 (by omega)).mono ?_
        rintro e w6 ⟨rfl, H7⟩
        rw [← Hq2.out, ← Hi2.out] at H7
        clear H6
        go_wp2_with fail
        refine (rbytes_any H7 (by omega)).mono ?_
        rintro e w7 ⟨v7, rfl, H8⟩
        rw [← Hq3.out, ← Hi3.out, ← Hx.out] at H8
        clear H7
        go_wp2_with fail
        refine (Bl.decode_any v7 x _ H8.sl (by omega)).mono ?_
        rintro e w8 ⟨hb8, hdec⟩
        have H9 := (H8.keeps hb8).drop1
        clear H8
        have HNO : Hid ((∃ l0, OpenOk b l0) → (((bad || i1) || i2) || i3) = false ∧ ∃ l2, DecOk x l2) := Lib.hid fun ⟨l0, h0⟩ => by
          obtain ⟨h1, h2⟩ := Hpay.out l0 h0
          obtain ⟨a1, a2, a3, a4, _⟩ := Hst.out l0 h1 h2 (by rw [← Hn.out l0 h1 h2]; exact hlt)
          exact ⟨by rw [Hbad.out l0 h1 h2, a1, a2, a3]; rfl, _, a4⟩
        obtain ⟨b3, hb3⟩ : ∃ b3, b3 = (((bad || i1) || i2) || i3) := ⟨_, rfl⟩
        rw [← hb3] at H9 HNO
        clear hb3
        rcases hdec with ⟨l2, v8, hok, rfl, ho8⟩ | ⟨hno, rfl⟩
        · obtain ⟨ao8, cap8, rfl⟩ := ho8.shape
          have s8 := ho8.sl
          have Hok := Lib.hid hok
          clear ho8 hok hb8
          go_wp2_with fail
          refine (good_any H9).mono ?_
          rintro e w9 ⟨rfl, rfl⟩
          cases b3 with
          | true =>
            rw [Bool.not_true]
            have hno : Hid (∀ l, ¬ OpenOk b l) := Lib.hid fun l hl => by cases (HNO.out ⟨l, hl⟩).1
            have HB := Lib.hid H9.old
            clear H9 s8
            go_wp2
            go_ret2
            unfold RetOpen
            rw [HE.out]
            exact .inr ⟨hno.out, rfl, HB.out⟩
          | false =>
            rw [Bool.not_false]
            have hwe := weight_enc Hok.out.1
            rw [Hok.out.2] at hwe
            have hl2 := weight_len l2
            have hwa := weight_append acc l2
            go_wp2_with (at_builtin; refine wpList_appC H9.up2 rfl _ _ rfl rfl rfl s8 (by omega) ?_; intro ao10 n10 cap10 w10 N10 H10; have HR : Hid (OpRel w p br (k + 1) (.slice ao10 n10 cap10) w10) := Lib.hid ⟨acc ++ l2, q3, false, H10.up2, Hmo.out l2 Hok.out, fun _ _ _ => rfl, by rw [hwa]; omega⟩; clear H9 H10 s8)
            go_roundw
            case rel => exact ⟨k + 1, _, rfl, by omega, by go_num, HR.out⟩
            case measure => simp [intOf]; omega
        · have hno2 : Hid (∀ l, ¬ OpenOk b l) := Lib.hid fun l hl => by
            obtain ⟨_, l2, h2⟩ := HNO.out ⟨l, hl⟩
            exact hno l2 h2
          clear hno hb8
          go_wp2_with fail
          refine (good_any H9).mono ?_
          rintro e w9 ⟨rfl, rfl⟩
          have HB := Lib.hid H9.old
          clear H9
          cases b3 with
          | true =>
            rw [Bool.not_true]
            go_wp2
            go_ret2
            unfold RetOpen
            rw [HE.out]
            exact .inr ⟨hno2.out, rfl, HB.out⟩
          | false =>
            rw [Bool.not_false]
            go_wp2
            go_ret2
            unfold RetOpen
            rw [HE.out]
            exact .inr ⟨hno2.out, rfl, HB.out⟩
      · obtain rfl : k = n := by omega
        have hend : Hid (∀ l, OpenOk b l → acc = l) := Lib.hid fun l hl => by
          obtain ⟨h1, h2⟩ := Hpay.out l hl
          exact followT_end HF h1 h2 (by rw [← Hn.out l h1 h2]; exact Nat.le_refl _)
        have H6 := H.drop1
        have hsl := H6.sl
        have hpay : buildN acc = 0 → (payload acc).length ≤ 1048576 := fun h1 => payload_small h1 (by omega)
        have Hpa := Lib.hid hpay
        clear H HF hbad HF0 Hb0 hpay Hn hlt
        go_wp2_with fail
        refine (build_any _ acc _ hsl Hpa.out).mono ?_
        unfold RetBuild
        rintro e w5 ⟨v5, rfl, ho5, hb5⟩
        have H7 := H6.keeps hb5
        have s5 := ho5.sl
        have hs := h.below' H7.old
        clear H6 ho5 hb5 hsl
        by_cases hN : buildN acc = 0
        · have hz : ((buildN acc : Int) != 0) = false := by simp [hN]
          have HN := Lib.hid hN
          clear hN
          go_wp2_with fail
          refine (equal_any v5 v (buildR acc) b _ s5 hs).mono ?_
          rintro e w6 ⟨rfl, rfl⟩
          by_cases hR : buildR acc = b
          · have hd : decide (buildR acc = b) = true := by simpa using hR
            have HOk : Hid (OpenOk b acc) := Lib.hid ⟨HN.out, hR⟩
            clear hR s5 hs hend
            have HM := Hold.addPMap H7
            have hmk := fun w' : World => run_makeMap (P := Try.prog) 79 w'
            obtain ⟨hal1, hal2, hri⟩ := build_len HN.out
            obtain ⟨bm, hbm⟩ : ∃ bm, bm = w5.heap.size := ⟨_, rfl⟩
            rw [← hbm] at HM
            clear H7
            go_wp2_with fail
            have hkl : (keys acc).length ≤ 4096 := Nat.le_trans (keysU_len acc acc.length) hal2
            have Hall := Lib.hid (riseN_all hri)
            have Hks : Hid (∀ s ∈ keys acc, s.size ≤ 9223372036854775807) := Lib.hid fun s hs => by
              obtain ⟨c, hc, rfl⟩ := keysU_mem acc acc.length (Nat.le_refl _) s hs
              have := isC_key (Hall.out c hc)
              omega
            have Hsz : Hid (∀ c ∈ acc, sizeC c ≤ 1000000000) := Lib.hid fun c hc => by
              have := isC_key (Hall.out c hc)
              unfold sizeC; omega
            refine (keys_any _ acc _ HM.up2.sl (by omega)).mono ?_
            unfold RetKeys
            rintro e w6 ⟨v6, rfl, ho6, hb6⟩
            have H8 := HM.addRow hb6 ho6
            rw [← hbm]
            clear HM ho6 hb6 hbm hmk hri
            go_wp2_with fail
            refine (Bloom.make_any v6 (keys acc).length (keys acc) _ H8.sl (by omega) Hks.out).mono ?_
            rintro e w7 ⟨v7, rfl, ho7, hb7⟩
            obtain ⟨M, hM⟩ : ∃ M, M = bitsOf acc := ⟨_, rfl⟩
            rw [show BloomP.make (Bloom.keysOf (keys acc)) = M from hM.symm] at ho7
            have HM := Lib.hid hM
            have ho7b : Own w7 w6.heap.size 5 1 v7 M.length (u8s M) := by
              have h1 := Own.of ho7
              have h2 := h1.1
              rw [u8s_length, Nat.mul_one] at h2
              rw [h2]; exact h1
            obtain ⟨ao7, cap7, rfl⟩ := ho7b.shape
            have H9 := H8.drop1.addRow hb7 ho7b
            have H10 := H9.addBlk (cs := #[.slice aoY acc.length capY, .map (some bm), .slice ao7 M.length cap7]) (t := 81) (b := w7.heap.size) rfl
            obtain ⟨tb, htb⟩ : ∃ tb, tb = w7.heap.size := ⟨_, rfl⟩
            rw [← htb] at H10
            clear H8 H9 ho7 ho7b hb7 hM
            go_wp2_with fail
            refine (blocks_any _ acc _ H10.up4.sl (by omega) Hsz.out).mono ?_
            rintro e w8 ⟨v8, rfl, ho8, hb8⟩
            obtain ⟨ps, hps⟩ : ∃ ps, ps = parts acc := ⟨_, rfl⟩
            have Hinc : Hid (∀ i j, i < j → j < ps.length → (ps.getD i (0, 0)).1 < (ps.getD j (0, 0)).1) := Lib.hid fun i j h1 h2 => by
              rw [hps] at h2 ⊢; exact parts_inc acc h1 h2
            have hpl : ps.length ≤ 4096 := by
              have := partsU_len acc acc.length
              rw [hps]; unfold parts; omega
            rw [← hps] at ho8
            have Hps := Lib.hid hps
            have H11 := (H10.addRow hb8 ho8).up4
            have hlen8 := H11.up2.sl.run_len Try.underlying56
            rw [← htb]
            have H12 := Lib.hid H11
            clear H10 H11 ho8 hb8 hps htb
            go_wp2
            go_loopw [72] (fun i wr => ∃ (k F : Nat), k ≤ ps.length ∧ i = .int .i64 k ∧ Hid (∀ j, k ≤ j → j < ps.length → F ≤ (ps.getD j (0, 0)).1) ∧
              Hold w ((PMapA bm k F).sep ((Row 60 2 v8 ps.length (pvs ps)).sep ((Blk tb #[.slice aoY acc.length capY, .map (some bm), .slice ao7 M.length cap7] 81).sep ((Row 5 1 (.slice ao7 M.length cap7) M.length (u8s M)).sep ((Row 39 4 (.slice aoY acc.length capY) acc.length (cls acc)).sep Asrt.emp))))) wr) (fun i _ => ps.length - (intOf i).toNat)
            case atStart => exact ⟨0, 0, Nat.zero_le _, rfl, Lib.hid (fun _ _ _ => Nat.zero_le _), H12.out⟩
            case round =>
              clear H12
              obtain ⟨k, F, hk, rfl, HF, H⟩ := hrel
              by_cases hlt : k < ps.length
              · obtain ⟨A, q, hA, c0, c1, Hq⟩ := parts_at H.up2.sl k hlt
                have HB := H.addBlk (cs := #[.int .i64 (q.1 : Int), .int .i64 (q.2 : Int)]) (t := 60) (b := wr.heap.size) rfl
                obtain ⟨ba, hba⟩ : ∃ ba, ba = wr.heap.size := ⟨_, rfl⟩
                obtain ⟨wx, hwx⟩ : ∃ wx, wx = wr.alloc (.cells #[.int .i64 (q.1 : Int), .int .i64 (q.2 : Int)] 60) := ⟨_, rfl⟩
                rw [← hwx, ← hba] at HB
                have d1 := blk_cell HB.up4.blk 1
                have e0 := blk_cell HB.blk 0
                have e1 := blk_cell HB.blk 1
                have Hwx := Lib.hid hwx
                have Hba := Lib.hid hba
                clear hwx hba
                have hFq : F ≤ q.1 := by rw [Hq.out]; exact HF.out k (Nat.le_refl _) hlt
                have HF2 : Hid (∀ j, k + 1 ≤ j → j < ps.length → q.1 + 1 ≤ (ps.getD j (0, 0)).1) := Lib.hid fun j h1 h2 => by
                  have := Hinc.out k j (by omega) h2
                  rw [← Hq.out] at this; omega
                have HBB0 := HB.drew.up2
                obtain ⟨ob, hrun, hpm⟩ := run_pput (Hold.pmap HBB0) q.1 hFq q.2 (.bool true)
                rw [pkey] at hrun
                have HR := Lib.hid ((Hold.setPMap HBB0 hpm).up2.drop1)
                obtain ⟨wy, hwy⟩ : ∃ wy, wy = Go.ChangeMaps.setBlock wx.drew bm ob := ⟨_, rfl⟩
                rw [← hwy] at hrun HR
                clear HB HBB0 hpm H HF Hq hwy
                go_wp2
                rw [← Hwx.out, ← Hba.out]
                go_region
                go_wp2
                go_roundw
                case rel => exact ⟨k + 1, q.1 + 1, by omega, by go_num, HF2, HR.out⟩
                case measure => simp [intOf]; omega
              · obtain rfl : k = ps.length := by omega
                have HT : Hid (Hold w ((Tab tb acc).sep Asrt.emp) wr) := Lib.hid (by
                  have H13 := H.up2.drop1
                  rw [HM.out, Hps.out] at H13
                  refine Hold.toex (.slice aoY acc.length capY, bm, F, .slice ao7 (bitsOf acc).length cap7) ?_
                  exact H13.perm (by ac_rfl))
                clear H HF
                go_wp2
                go_ret2
                unfold RetOpen
                exact .inl ⟨acc, tb, HOk.out, rfl, HT.out⟩
          · have hd : decide (buildR acc = b) = false := by simpa using hR
            have hno2 : Hid (∀ l, ¬ OpenOk b l) := Lib.hid fun l hl => hR (by rw [hend.out l hl]; exact hl.2)
            have HB := Lib.hid H7.old
            clear hR s5 hs H7
            go_wp2
            go_ret2
            unfold RetOpen
            rw [HE.out]
            exact .inr ⟨hno2.out, rfl, HB.out⟩
        · have hz : ((buildN acc : Int) != 0) = true := by simp [hN]
          have hno2 : Hid (∀ l, ¬ OpenOk b l) := Lib.hid fun l hl => hN (by rw [hend.out l hl]; exact hl.1)
          have HB := Lib.hid H7.old
          clear hN s5 hs H7
          go_wp2
          go_ret2
          unfold RetOpen
          rw [HE.out]
          exact .inr ⟨hno2.out, rfl, HB.out⟩
  · have hq : ((e1 : Int) != 0) = true := by simp; omega
    have hno : Hid (∀ l, ¬ OpenOk b l) := Lib.hid fun l hl => h0 (by rw [He1.out, Hop.out l hl])
    have HE : Hid (openE b = e1) := Lib.hid (by rw [openE, if_neg (by rw [← He1.out]; exact h0), He1.out])
    have HB := Lib.hid hb1
    clear h0 ho1 hb1 HO
    go_wp2
    go_ret2
    unfold RetOpen
    rw [HE.out]
    exact .inr ⟨hno.out, rfl, HB.out⟩
end Go.Proofs.Ytbepbbjeieafhaa.Tb

/-
  Len, Blocks, First of chapter 8.
-/



namespace Go.Proofs.Ytbepbbjeieafhaa.Tb
open Go.RowKit L Oct Bl
section
variable {W0 w : World} {R : Asrt} {tb : Nat} {l : List Cl}
/-- what a table has, read -/
theorem tab_at (H : Hold W0 ((Tab tb l).sep R) w) : ∃ v mb F vb, w.heap[tb]? = some (.cells #[v, .map (some mb), vb] 81 (0, 0)) ∧ Sl w 4 v l.length (cls l) ∧ PMapAt w mb (parts l).length F ∧ Sl w 1 vb (bitsOf l).length (u8s (bitsOf l)) := by
  obtain ⟨⟨v, mb, F, vb⟩, H1⟩ := H.unex
  have H2 : Hold W0 ((Blk tb #[v, .map (some mb), vb] 81).sep ((Row 39 4 v l.length (cls l)).sep ((PMapA mb (parts l).length F).sep ((Row 5 1 vb (bitsOf l).length (u8s (bitsOf l))).sep R)))) w := H1.perm (by ac_rfl)
  exact ⟨v, mb, F, vb, H2.blk, H2.up2.sl, Hold.pmap H2.up3, H2.up4.sl⟩
theorem len_any (H : Hold W0 ((Tab tb l).sep R) w) : Calls Try.prog 21 #[.pointer (some ⟨tb, 0, none⟩)] w fun e w' => e = .returned (.int .i64 l.length) ∧ w = w' := by
  obtain ⟨v, mb, F, vb, hb, hs, _, _⟩ := tab_at H
  have c0 := blk_cell hb 0
  have hlen := hs.run_len Try.underlying22
  clear hb hs H
  go_enter Try.func21, Try.ntmps21
  go_wp2
  go_ret
  exact ⟨rfl, rfl⟩
theorem blocks8_any (H : Hold W0 ((Tab tb l).sep R) w) : Calls Try.prog 22 #[.pointer (some ⟨tb, 0, none⟩)] w fun e w' => e = .returned (.int .i64 (parts l).length) ∧ w = w' := by
  obtain ⟨v, mb, F, vb, hb, _, hm, _⟩ := tab_at H
  have c1 := blk_cell hb 1
  have hlen := hm.run_len
  clear hb hm H
  go_enter Try.func22, Try.ntmps22
  go_wp2
  go_ret
  exact ⟨rfl, rfl⟩
theorem first8_any (H : Hold W0 ((Tab tb l).sep R) w) (hl : 0 < l.length) : Calls Try.prog 25 #[.pointer (some ⟨tb, 0, none⟩)] w fun e w' => e = .returned (.string (l.getD 0 default).key) ∧ w = w' := by
  obtain ⟨v, mb, F, vb, hb, hs, _, _⟩ := tab_at H
  have c0 := blk_cell hb 0
  obtain ⟨A, c, hA, _, hcells, Hc⟩ := hs.atCl (P := Try.prog) Try.underlying22 Try.size39 0 0 rfl hl
  have d0 := hcells.key
  rw [← Hc.out]
  clear hb hs H hcells
  go_enter Try.func25, Try.ntmps25
  go_wp2
  go_ret
  exact ⟨rfl, rfl⟩
theorem last8_any (H : Hold W0 ((Tab tb l).sep R) w) (hl : 0 < l.length) : Calls Try.prog 26 #[.pointer (some ⟨tb, 0, none⟩)] w fun e w' => e = .returned (.string (l.getD (l.length - 1) default).key) ∧ Below w.heap.size w w' := by
  obtain ⟨v, mb, F, vb, hb, hs, _, _⟩ := tab_at H
  have c0 := blk_cell hb 0
  have hlen := hs.run_len Try.underlying22
  have hmx := hs.le'
  obtain ⟨A, c, hA, _, hcells, Hc⟩ := hs.atCl (P := Try.prog) Try.underlying22 Try.size39 (l.length - 1) ((l.length : Int) - 1) (by omega) (by omega)
  have d0 := hcells.key
  have h01 : (0 : Int) ≤ (l.length : Int) - 1 := by omega
  have hwr : IntKind.i64.wrap ((l.length : Int) - 1) = (l.length : Int) - 1 := IntWalk.i64_in _ (by omega)
  rw [← Hc.out]
  clear hb hs H hcells
  go_enter Try.func26, Try.ntmps26
  go_wp2
  go_quiet (fail)
  go_wp2
  go_ret
  exact ⟨rfl, below_drewN (Below.refl _ _) nq⟩
end
end Go.Proofs.Ytbepbbjeieafhaa.Tb

/-
  What Get of chapter 8 tells, plain: the first cell that is not ahead of one of a key and number is the newest that is not above it.
-/



namespace Go.Proofs.Ytbepbbjeieafhaa.Tb
open L Oct Bl Fr BloomP
def aim (key : ByteArray) (q : Int) : Cl := ⟨key, ⟨#[]⟩, false, q⟩
theorem aim_hits {c : Cl} {key : ByteArray} {q : Int} (h : lessC c (aim key q) = true) : hits key q c = false := by
  simp only [lessC, strLt, strEq, Bool.or_eq_true, Bool.and_eq_true, decide_eq_true_eq, beq_iff_eq] at h
  unfold hits
  rcases h with h | ⟨_, h⟩
  · have h' : Op.bytesLess c.key.toList key.toList = true := h
    have : ¬ c.key.toList = key.toList := by
      intro e; rw [e, bytesLess_irrefl] at h'; cases h'
    simp [this]
  · have h' : q < c.seq := h
    have : ¬ c.seq ≤ q := by omega
    simp [this]
theorem aim_at {c : Cl} {key : ByteArray} {q : Int} (h : lessC c (aim key q) = false) (hk : c.key.toList = key.toList) : hits key q c = true := by
  simp only [lessC, strLt, strEq, Bool.or_eq_false_iff, Bool.and_eq_false_iff, decide_eq_false_iff_not, beq_eq_false_iff_ne] at h
  have : ¬ q < c.seq := h.2.resolve_left (fun h => h hk)
  simp [hits, hk]; omega
theorem aim_over {c : Cl} {key : ByteArray} {q : Int} (h : lessC c (aim key q) = false) (hk : ¬ c.key.toList = key.toList) : Op.bytesLess key.toList c.key.toList = true := by
  simp only [lessC, strLt, Bool.or_eq_false_iff] at h
  cases h2 : Op.bytesLess key.toList c.key.toList with
  | true => rfl
  | false => exact (hk (bl_tri _ _ h.1 h2)).elim
theorem less_key {a b : Cl} {key : List UInt8} (h : lessC a b = true) (hk : Op.bytesLess key a.key.toList = true) : Op.bytesLess key b.key.toList = true := by
  simp only [lessC, strLt, strEq, Bool.or_eq_true, Bool.and_eq_true, beq_iff_eq] at h
  rcases h with h | ⟨h, _⟩
  · exact bl_trans _ _ _ hk h
  · rw [← h]; exact hk
theorem bl_ne {a b : List UInt8} (h : Op.bytesLess a b = true) : ¬ b = a := by
  rintro rfl; rw [bytesLess_irrefl] at h; cases h
/-- i is the first place that is not ahead of the aim -/
def Place (l : List Cl) (key : ByteArray) (q : Int) (i : Nat) : Prop :=
  i ≤ l.length ∧ (∀ j, j < i → lessC (l.getD j default) (aim key q) = true) ∧ (i < l.length → lessC (l.getD i default) (aim key q) = false)
theorem seek_end {l : List Cl} {key : ByteArray} {q : Int} (h : Place l key q l.length) : seekC l key q = (⟨⟨#[]⟩, ⟨#[]⟩, false, 0⟩, false) :=
  seekC_none fun j hj => aim_hits (h.2.1 j hj)
theorem seek_there {l : List Cl} {key : ByteArray} {q : Int} {i : Nat} (h : Place l key q i) (hi : i < l.length) (hk : (l.getD i default).key.toList = key.toList) : seekC l key q = (l.getD i default, true) :=
  seekC_at hi (fun j hj => aim_hits (h.2.1 j hj)) (aim_at (h.2.2 hi) hk)
theorem seek_over {l : List Cl} (hr : risesB l = true) {key : ByteArray} {q : Int} {i : Nat} (h : Place l key q i) (hi : i < l.length) (hk : ¬ (l.getD i default).key.toList = key.toList) : seekC l key q = (⟨⟨#[]⟩, ⟨#[]⟩, false, 0⟩, false) := by
  refine seekC_none fun j hj => ?_
  by_cases hji : j < i
  · exact aim_hits (h.2.1 j hji)
  · have h0 := aim_over (h.2.2 hi) hk
    have : Op.bytesLess key.toList (l.getD j default).key.toList = true := by
      by_cases e : j = i
      · subst e; exact h0
      · have hf := rises_far l hr i (j - i - 1) (by omega)
        rw [show i + (j - i - 1) + 1 = j from by omega] at hf
        exact less_key hf h0
    have hne : ((l.getD j default).key.toList == key.toList) = false := by simpa using bl_ne this
    rw [hits, hne, Bool.false_and]
/-- what a binary search has found -/
theorem place_of {l : List Cl} (hr : risesB l = true) {key : ByteArray} {q : Int} {i : Nat} (hi : i ≤ l.length) (h1 : i = 0 ∨ lessC (l.getD (i - 1) default) (aim key q) = true) (h2 : i = l.length ∨ lessC (l.getD i default) (aim key q) = false) : Place l key q i := by
  refine ⟨hi, fun j hj => ?_, fun h => h2.resolve_left (by omega)⟩
  have h1' := h1.resolve_left (by omega)
  by_cases e : j = i - 1
  · subst e; exact h1'
  · have hf := rises_far l hr j (i - 1 - j - 1) (by omega)
    rw [show j + (i - 1 - j - 1) + 1 = i - 1 from by omega] at hf
    exact lessC_trans hf h1'
theorem keysU_has (l : List Cl) : ∀ k, k ≤ l.length → ∀ j, j < k → (l.getD j default).key ∈ keysU l k
  | 0, _, j, hj => by omega
  | k + 1, hk, j, hj => by
    have ih := keysU_has l k (by omega)
    unfold keysU
    by_cases e : j = k
    · subst e
      split
      · exact List.mem_append_right _ (by simp)
      · rename_i h
        have h2 : (l.getD (j - 1) default).key = (l.getD j default).key := Classical.byContradiction fun e => h (.inr e)
        have h3 : j ≠ 0 := fun e => h (.inl e)
        rw [← h2]
        exact ih (j - 1) (by omega)
    · split
      · exact List.mem_append_left _ (ih j (by omega))
      · exact ih j (by omega)
theorem keys_has {l : List Cl} {c : Cl} (h : c ∈ l) : c.key ∈ keys l := by
  obtain ⟨i, hi, rfl⟩ := List.getElem_of_mem h
  have := keysU_has l l.length (Nat.le_refl _) i hi
  rwa [getD_get hi] at this
theorem toList_inj {x y : ByteArray} (h : x.toList = y.toList) : x = y := by
  rw [ByteArray.toList_eq, ByteArray.toList_eq] at h
  exact ByteArray.ext (Array.toList_inj.1 h)
/-- what the bits refuse is not there -/
theorem seek_may {l : List Cl} {key : ByteArray} {q : Int} (h : mayTo (BloomP.make ((keys l).map fun s => s.data.toList)) key.data.toList 6 = false) : seekC l key q = (⟨⟨#[]⟩, ⟨#[]⟩, false, 0⟩, false) := by
  refine seekC_none fun j hj => ?_
  rw [getD_get hj]
  by_cases hk : l[j].key.toList = key.toList
  · have hm := keys_has (List.getElem_mem hj)
    rw [toList_inj hk] at hm
    have h2 : mayTo (BloomP.make ((keys l).map fun s => s.data.toList)) key.data.toList 6 = true := by
      rw [BloomP.make]
      exact may_setKeys _ _ _ _ (by simp) (by simp [BloomP.room]; omega) (List.mem_map.2 ⟨key, hm, rfl⟩)
    rw [h2] at h; cases h
  · simp [hits, hk]
/-- cells of keys from one up to another one -/
def inC (a b : ByteArray) (c : Cl) : Bool := !Op.bytesLess c.key.toList a.toList && ((b.toList == []) || Op.bytesLess c.key.toList b.toList)
def scanC (l : List Cl) (a b : ByteArray) : List Cl := l.filter (inC a b)
theorem scanC_take {l : List Cl} {a b : ByteArray} {k : Nat} (hk : k < l.length) : scanC (l.take (k + 1)) a b = scanC (l.take k) a b ++ if inC a b (l.getD k default) then [l.getD k default] else [] := by
  rw [scanC, List.take_succ_eq_append_getElem hk, List.filter_append, getD_get hk, scanC]
  by_cases h : inC a b l[k] = true <;> simp [h]
theorem scanC_all (l : List Cl) : scanC l ⟨#[]⟩ ⟨#[]⟩ = l := by
  refine List.filter_eq_self.2 fun c _ => ?_
  have e : (⟨#[]⟩ : ByteArray).toList = [] := by decide +kernel
  simp only [inC, e, beq_self_eq_true, Bool.true_or, Bool.and_true, Bool.not_eq_true']
  cases c.key.toList <;> rfl
theorem scanC_le (l : List Cl) (a b : ByteArray) : (scanC l a b).length ≤ l.length := List.length_filter_le _ _
end Go.Proofs.Ytbepbbjeieafhaa.Tb

/-
  The place of a key and number in a table: sort.Search, at (chapter 8).
-/






namespace Go.Proofs.Ytbepbbjeieafhaa.Tb
open Go.RowKit L Oct Bl
/-- what a binary search tells -/
def RetPlace (w : World) (n : Nat) (p : Nat → Bool) (e : Ending) (w' : World) : Prop := ∃ i : Nat, e = .returned (.int .i64 i) ∧ i ≤ n ∧ (i = 0 ∨ p (i - 1) = false) ∧ (i = n ∨ p i = true) ∧ Below w.heap.size w w'
def SRel (w : World) (n : Nat) (p : Nat → Bool) (i j : Value) (wr : World) : Prop := ∃ a b : Nat, i = .int .i64 a ∧ j = .int .i64 b ∧ a ≤ b ∧ b ≤ n ∧ (a = 0 ∨ p (a - 1) = false) ∧ (b = n ∨ p b = true) ∧ Below w.heap.size w wr
set_option maxHeartbeats 800000 in
theorem search_at (n : Nat) (c1 c2 c3 : Value) (p : Nat → Bool) (w : World) (hn : n ≤ 4611686018427387904)
    (hf : ∀ (i : Nat) (w' : World), i < n → Below w.heap.size w w' → Calls Try.prog 81 #[.int .i64 i, c1, c2, c3] w' fun e w'' => e = .returned (.bool (p i)) ∧ Below w'.heap.size w' w'') :
    Calls Try.prog 80 #[.int .i64 n, .func (.func 81) #[] #[c1, c2, c3]] w (RetPlace w n p) := by
  have Hf := Lib.hid hf
  clear hf
  go_enter Try.func80, Try.ntmps80
  go_wp2
  go_loopw [5, 6] (fun i j wr => SRel w n p i j wr) (fun i j _ => (intOf j - intOf i).toNat)
  case atStart => exact ⟨0, n, rfl, rfl, Nat.zero_le _, Nat.le_refl _, .inl rfl, .inl rfl, Below.refl _ _⟩
  case round =>
    obtain ⟨a, b, rfl, rfl, hab, hbn, ha, hb, hw⟩ := hrel
    have HA := Lib.hid ha
    have HB := Lib.hid hb
    have HW := Lib.hid hw
    clear ha hb hw
    by_cases hlt : a < b
    · obtain ⟨h, hh⟩ : ∃ h : Nat, h = (a + b) / 2 := ⟨_, rfl⟩
      have h1 : a ≤ h := by omega
      have h2 : h < b := by omega
      have hc := fun w' hw' => Hf.out h w' (by omega) hw'
      have Hh : Hid (((a : Int) + (b : Int)) / 2 = (h : Int)) := Lib.hid (by omega)
      clear hh
      go_wp2_with fail
      rw [Hh.out]
      refine (hc _ HW.out).mono ?_
      rintro e w1 ⟨rfl, hb1⟩
      have HW1 := Lib.hid (HW.out.trans (hb1.mono HW.out.size))
      clear hb1 hc
      cases hp : p h with
      | true =>
        have HP := Lib.hid hp
        clear hp
        go_wp2
        go_roundw
        case rel => exact ⟨a, h, rfl, rfl, h1, by omega, HA.out, .inr HP.out, HW1.out⟩
        case measure => simp [intOf]; omega
      | false =>
        have HP := Lib.hid hp
        clear hp
        go_wp2
        go_roundw
        case rel => exact ⟨h + 1, b, by go_num, rfl, h2, hbn, .inr HP.out, HB.out, HW1.out⟩
        case measure => simp [intOf]; omega
    · go_wp2
      go_ret
      obtain rfl : a = b := by omega
      exact ⟨a, rfl, hbn, HA.out, HB.out, HW.out⟩
theorem cell_next {w w' : World} {p : Addr} {v : Value} (hb : Below w.heap.size w w') (h : w.cell? p = some v) : w'.cell? p = some v := (hb.cell (World.block_lt_of_cell? w _ h)).trans h
theorem at1_keep {W w w1 : World} {p1 p2 p3 p4 p5 p6 p7 p8 : Addr} {v1 v2 v3 v4 v5 v6 v7 v8 : Value} (hb : Below w.heap.size w w1) (h0 : Below W.heap.size W w) (h1 : w.cell? p1 = some v1) (h2 : w.cell? p2 = some v2) (h3 : w.cell? p3 = some v3) (h4 : w.cell? p4 = some v4)
    (h5 : w.cell? p5 = some v5) (h6 : w.cell? p6 = some v6) (h7 : w.cell? p7 = some v7) (h8 : w.cell? p8 = some v8) : Below W.heap.size W w1 ∧ w1.cell? p1 = some v1 ∧ w1.cell? p2 = some v2 ∧ w1.cell? p3 = some v3 ∧ w1.cell? p4 = some v4 ∧ w1.cell? p5 = some v5 ∧ w1.cell? p6 = some v6 ∧ w1.cell? p7 = some v7 ∧ w1.cell? p8 = some v8 :=
  ⟨h0.trans (hb.mono h0.size), cell_next hb h1, cell_next hb h2, cell_next hb h3, cell_next hb h4, cell_next hb h5, cell_next hb h6, cell_next hb h7, cell_next hb h8⟩
set_option maxHeartbeats 800000 in
theorem at1_any {W0 w : World} {R : Asrt} {tb b1 b2 b3 : Nat} {l : List Cl} (H : Hold W0 ((Tab tb l).sep R) w) (key : ByteArray) (q : Int) (i : Nat) (hi : i < l.length)
    (h1 : w.cell? ⟨b1, 0, none⟩ = some (.pointer (some ⟨tb, 0, none⟩))) (h2 : w.cell? ⟨b2, 0, none⟩ = some (.string key)) (h3 : w.cell? ⟨b3, 0, none⟩ = some (.int .i64 q)) :
    Calls Try.prog 81 #[.int .i64 i, .pointer (some ⟨b1, 0, none⟩), .pointer (some ⟨b2, 0, none⟩), .pointer (some ⟨b3, 0, none⟩)] w fun e w' => e = .returned (.bool (!lessC (l.getD i default) (aim key q))) ∧ Below w.heap.size w w' := by
  obtain ⟨v, mb, F, vb, hb, hs, _, _⟩ := tab_at H
  have c0 := blk_cell hb 0
  obtain ⟨A, c, hA, _, hcells, Hc⟩ := hs.atCl (P := Try.prog) Try.underlying22 Try.size39 i _ rfl hi
  obtain ⟨d0, d1, d2, d3⟩ := hcells
  have hl := less_any c (aim key q)
  rw [← Hc.out]
  simp only [aim, Cl.agg] at hl
  clear hb hs H
  go_enter Try.func81, Try.ntmps81
  go_wp2
  have hB0 : Below w.heap.size w w.drew := (Below.refl _ _).drew
  go_region_held3 (fun w' => Below w.heap.size w w' ∧ w'.cell? ⟨b1, 0, none⟩ = some (.pointer (some ⟨tb, 0, none⟩)) ∧ w'.cell? ⟨b2, 0, none⟩ = some (.string key) ∧ w'.cell? ⟨b3, 0, none⟩ = some (.int .i64 q) ∧ w'.cell? ⟨tb, 0, none⟩ = some v ∧ w'.cell? A = some (.string c.key) ∧ w'.cell? ⟨A.block, A.off + 1, none⟩ = some (.string c.val) ∧ w'.cell? ⟨A.block, A.off + 2, none⟩ = some (.bool c.del) ∧ w'.cell? ⟨A.block, A.off + 3, none⟩ = some (.int .i64 c.seq))
    (first | exact hT | go_keep)
    (first | (go_at_call 82; refine (hl _).mono ?_; rintro e w1 ⟨rfl, hb1⟩; have hT := at1_keep (p1 := ⟨b1, 0, none⟩) (p2 := ⟨b2, 0, none⟩) (p3 := ⟨b3, 0, none⟩) (p4 := ⟨tb, 0, none⟩) (p5 := A) (p6 := ⟨A.block, A.off + 1, none⟩) (p7 := ⟨A.block, A.off + 2, none⟩) (p8 := ⟨A.block, A.off + 3, none⟩) hb1 (by assumption) (by assumption) (by assumption) (by assumption) (by assumption) (by assumption) (by assumption) (by assumption) (by assumption); clear hb1))
  go_wp2
  go_ret
  exact ⟨rfl, hT.1⟩
set_option maxHeartbeats 800000 in
theorem at_any {W0 w : World} {R : Asrt} {tb : Nat} {l : List Cl} (H : Hold W0 ((Tab tb l).sep R) w) (hl : l.length ≤ 1000000) (hr : risesB l = true) (key : ByteArray) (q : Int) :
    Calls Try.prog 54 #[.pointer (some ⟨tb, 0, none⟩), .string key, .int .i64 q] w fun e w' => ∃ i : Nat, e = .returned (.int .i64 i) ∧ Place l key q i ∧ Below w.heap.size w w' := by
  obtain ⟨v, mb, F, vb, hb, hs, _, _⟩ := tab_at H
  have c0 := blk_cell hb 0
  have hlen := hs.run_len Try.underlying22
  have H1 := (H.addBlk (cs := #[.pointer (some ⟨tb, 0, none⟩)]) (t := 32) (b := w.heap.size) rfl)
  have H2 := (H1.addBlk (cs := #[.string key]) (t := 9) rfl)
  have H3 := (H2.addBlk (cs := #[.int .i64 q]) (t := 3) rfl)
  obtain ⟨b1, hb1⟩ : ∃ b, b = w.heap.size := ⟨_, rfl⟩
  obtain ⟨b2, hb2⟩ : ∃ b, b = w.heap.size + 1 := ⟨_, rfl⟩
  obtain ⟨b3, hb3⟩ : ∃ b, b = w.heap.size + 1 + 1 := ⟨_, rfl⟩
  obtain ⟨w3, hw3⟩ : ∃ w3, w3 = ((w.alloc (.cells #[.pointer (some ⟨tb, 0, none⟩)] 32)).alloc (.cells #[.string key] 9)).alloc (.cells #[.int .i64 q] 3) := ⟨_, rfl⟩
  simp only [World.size_alloc] at H3
  rw [← hw3, ← hb3, ← hb2, ← hb1] at H3
  have hmf : ∀ (fn : Fn) (first cap : Array Value) (w : World), (Instr.makeFunc fn first cap).run Try.prog w = .ok (.func fn first cap) w := fun _ _ _ _ => rfl
  have hold3 : Below w.heap.size w w3 := by
    rw [hw3]
    exact (((Below.refl _ _).alloc (Nat.le_refl _) _).alloc (by simp) _).alloc (by simp; omega) _
  clear hb hs H H1 H2 c0
  go_enter Try.func54, Try.ntmps54
  go_upto_region 1 with fail
  rw [← hw3, ← hb3, ← hb2, ← hb1]
  clear hw3 hb3 hb2 hb1
  have k1 := blk_cell H3.up3.blk 0
  have k2 := blk_cell H3.up2.blk 0
  have k3 := blk_cell H3.blk 0
  have HT := H3.up4
  obtain ⟨v', mb', F', vb', hb', hs', _, _⟩ := tab_at HT
  have c0 := blk_cell hb' 0
  have hlen' := hs'.run_len Try.underlying22
  have K1 := Lib.hid k1
  have K2 := Lib.hid k2
  have K3 := Lib.hid k3
  clear k2 k3 hb' hs' H3 hlen
  have hsrch := search_at l.length (.pointer (some ⟨b1, 0, none⟩)) (.pointer (some ⟨b2, 0, none⟩)) (.pointer (some ⟨b3, 0, none⟩)) (fun i => !lessC (l.getD i default) (aim key q)) w3 (by omega)
    fun i w' hi hb => at1_any (HT.keeps hb) key q i hi (cell_next hb K1.out) (cell_next hb K2.out) (cell_next hb K3.out)
  have Hs := Lib.hid hsrch
  have Hr := Lib.hid hr
  clear hsrch HT hr
  go_wp2_with fail
  refine Hs.out.mono ?_
  rintro e w4 ⟨i, rfl, hi, h1, h2, hb4⟩
  have HB := Lib.hid (hold3.trans (hb4.mono hold3.size))
  have HP := Lib.hid (place_of Hr.out hi (by simpa using h1) (by simpa using h2))
  clear h1 h2 hb4
  go_wp2
  go_ret
  exact ⟨i, rfl, HP.out, HB.out⟩
end Go.Proofs.Ytbepbbjeieafhaa.Tb

/-
  Get of chapter 8: the newest cell of a key that is not above a number.
-/



namespace Go.Proofs.Ytbepbbjeieafhaa.Tb
open Go.RowKit L Oct Bl
def zer : Array Value := #[.string ⟨#[]⟩, .string ⟨#[]⟩, .bool false, .int .i64 0]
set_option maxRecDepth 100000 in
set_option maxHeartbeats 1600000 in
theorem get_any {W0 w : World} {R : Asrt} {tb : Nat} {l : List Cl} (H : Hold W0 ((Tab tb l).sep R) w) (hl : l.length ≤ 100000) (hr : risesB l = true) (key : ByteArray) (hks : key.size ≤ 140737488351232) (q : Int) :
    Calls Try.prog 17 #[.pointer (some ⟨tb, 0, none⟩), .string key, .int .i64 q] w (RetFirst w l key q) := by
  have H0 := (H.addBlk (cs := #[.string ⟨#[]⟩, .string ⟨#[]⟩, .bool false, .int .i64 0]) (t := 39) (b := w.heap.size) rfl).up2
  obtain ⟨b6, hb6⟩ : ∃ b6, b6 = w.heap.size := ⟨_, rfl⟩
  have hold0 := below_one w (.cells #[.string ⟨#[]⟩, .string ⟨#[]⟩, .bool false, .int .i64 0] 39)
  obtain ⟨w0, hw0⟩ : ∃ w0, w0 = w.alloc (.cells #[.string ⟨#[]⟩, .string ⟨#[]⟩, .bool false, .int .i64 0] 39) := ⟨_, rfl⟩
  rw [← hw0] at hold0 H0
  rw [← hb6] at H0
  clear H
  go_enter Try.func17, Try.ntmps17
  go_upto_region 1 with fail
  rw [← hw0, ← hb6]
  obtain ⟨v, mb, F, vb, hb, hs, _, hbits⟩ := tab_at H0
  have c2 := blk_cell hb 2
  have hbl : 1 ≤ (bitsOf l).length ∧ (bitsOf l).length ≤ 200000 := by
    have h1 := BloomP.make_length (Bloom.keysOf (keys l))
    have h2 := keysU_len l l.length
    have h3 : (Bloom.keysOf (keys l)).length = (keys l).length := by simp [Bloom.keysOf]
    unfold bitsOf
    rw [h1, h3]
    unfold keys BloomP.room
    omega
  have hold0' := hold0
  rw [hw0] at hold0
  have hmay := Lib.hid (Bloom.may_any vb (bitsOf l).length (bitsOf l) key w0 hbits hbl.1 (by omega) (by omega))
  have Hr := Lib.hid hr
  have HO := Lib.hid hold0'
  have HT := Lib.hid H0
  have Hm : Hid (BloomP.mayTo (bitsOf l) key.data.toList 6 = false → seekC l key q = (⟨⟨#[]⟩, ⟨#[]⟩, false, 0⟩, false)) := Lib.hid fun h => seek_may h
  obtain ⟨my, hmy⟩ : ∃ m, m = BloomP.mayTo (bitsOf l) key.data.toList 6 := ⟨_, rfl⟩
  rw [← hmy] at hmay Hm
  have hge : w.heap.size ≤ b6 := Nat.le_of_eq hb6.symm
  have Hge := Lib.hid hge
  clear hge hw0 hb6 hold0 hold0' H0 hb hs hbits hr hbl hmy
  go_wp2_with fail
  refine hmay.out.mono ?_
  rintro e w1 ⟨rfl, hb1⟩
  have HT1 := Lib.hid (HT.out.keeps hb1)
  have HO1 := Lib.hid (HO.out.trans (hb1.mono HO.out.size))
  clear hb1 c2 HO hmay
  cases my with
  | false =>
    have hE := Hm.out rfl
    have HE := Lib.hid hE
    clear hE Hm
    have H4 := HT1.out.up2
    have f0 := blk_free H4.blk 0
    have f1 := blk_free H4.blk 1
    have f2 := blk_free H4.blk 2
    have f3 := blk_free H4.blk 3
    have k0 := blk_cell H4.blk 0
    have k1 := blk_cell H4.blk 1
    have k2 := blk_cell H4.blk 2
    have k3 := blk_cell H4.blk 3
    have s0 := blk_same H4.blk 0 (v := .string ⟨#[]⟩) rfl
    have s1 := blk_same H4.blk 1 (v := .string ⟨#[]⟩) rfl
    have s2 := blk_same H4.blk 2 (v := .bool false) rfl
    have s3 := blk_same H4.blk 3 (v := .int .i64 0) rfl
    clear H4
    go_wp2
    refine bodyPost_ret (v := .tuple #[zeroC, .bool false]) (by simp [results, Try.results17, go_sem, k0, k1, k2, k3, zeroC]) rfl ⟨by rw [HE.out]; rfl, HO1.out⟩
  | true =>
    clear Hm
    go_wp2_with fail
    refine (at_any HT1.out (by omega) Hr.out key q).mono ?_
    rintro e w2 ⟨i, rfl, hp, hb2⟩
    have HT2 := Lib.hid (HT1.out.keeps hb2)
    have HO2 := Lib.hid (HO1.out.trans (hb2.mono HO1.out.size))
    have hil := hp.1
    have HP := Lib.hid hp
    clear hb2 HO1 hp
    obtain ⟨v', mb', F', vb', hb', hs', _, _⟩ := tab_at HT2.out
    have c0 := blk_cell hb' 0
    have hlen := hs'.run_len Try.underlying22
    have H4 := HT2.out.up2
    have f0 := blk_free H4.blk 0
    have f1 := blk_free H4.blk 1
    have f2 := blk_free H4.blk 2
    have f3 := blk_free H4.blk 3
    have k0 := blk_cell H4.blk 0
    have k1 := blk_cell H4.blk 1
    have k2 := blk_cell H4.blk 2
    have k3 := blk_cell H4.blk 3
    by_cases hi : i = l.length
    · have hE : seekC l key q = (⟨⟨#[]⟩, ⟨#[]⟩, false, 0⟩, false) := seek_end (by rw [← hi]; exact HP.out)
      have HE := Lib.hid hE
      have s0 := blk_same H4.blk 0 (v := .string ⟨#[]⟩) rfl
      have s1 := blk_same H4.blk 1 (v := .string ⟨#[]⟩) rfl
      have s2 := blk_same H4.blk 2 (v := .bool false) rfl
      have s3 := blk_same H4.blk 3 (v := .int .i64 0) rfl
      have hd : ((i : Int) == (l.length : Int)) = true := by simp [hi]
      clear H4 hE hi hb' hs'
      go_wp2
      refine bodyPost_ret (v := .tuple #[zeroC, .bool false]) (by simp [results, Try.results17, go_sem, k0, k1, k2, k3, zeroC]) rfl ⟨by rw [HE.out]; rfl, HO2.out⟩
    · have hlt : i < l.length := by omega
      have hd : ((i : Int) == (l.length : Int)) = false := by rw [beq_eq_false_iff_ne]; omega
      obtain ⟨A, c, hA, _, hcells, Hc⟩ := hs'.atCl (P := Try.prog) Try.underlying22 Try.size39 i _ rfl hlt
      obtain ⟨d0, d1, d2, d3⟩ := hcells
      cases hk : (c.key.toList == key.toList) with
      | false =>
        have hE : seekC l key q = (⟨⟨#[]⟩, ⟨#[]⟩, false, 0⟩, false) := seek_over Hr.out HP.out hlt (by rw [← Hc.out]; simpa using hk)
        have HE := Lib.hid hE
        have s0 := blk_same H4.blk 0 (v := .string ⟨#[]⟩) rfl
        have s1 := blk_same H4.blk 1 (v := .string ⟨#[]⟩) rfl
        have s2 := blk_same H4.blk 2 (v := .bool false) rfl
        have s3 := blk_same H4.blk 3 (v := .int .i64 0) rfl
        clear H4 hE hi hb' hs'
        go_wp2
        refine bodyPost_ret (v := .tuple #[zeroC, .bool false]) (by simp [results, Try.results17, go_sem, k0, k1, k2, k3, zeroC]) rfl ⟨by rw [HE.out]; rfl, HO2.out⟩
      | true =>
        have hE : seekC l key q = (c, true) := by rw [seek_there HP.out hlt (by rw [← Hc.out]; simpa using hk), ← Hc.out]
        have HE := Lib.hid hE
        have HZ := ((((H4.setBlk 0 (.string c.key)).setBlk 1 (.string c.val)).setBlk 2 (.bool c.del)).setBlk 3 (.int .i64 c.seq))
        have HH : Hid (Below w.heap.size w _) := Lib.hid (((((HO2.out.setCell (p := ⟨b6, 0, none⟩) Hge.out (.string c.key)).setCell (p := ⟨b6, 1, none⟩) Hge.out (.string c.val)).setCell (p := ⟨b6, 2, none⟩) Hge.out (.bool c.del)).setCell (p := ⟨b6, 3, none⟩) Hge.out (.int .i64 c.seq)))
        have z0 : _ = some (Value.string c.key) := blk_cell HZ.blk 0
        have z1 : _ = some (Value.string c.val) := blk_cell HZ.blk 1
        have z2 : _ = some (Value.bool c.del) := blk_cell HZ.blk 2
        have z3 : _ = some (Value.int .i64 c.seq) := blk_cell HZ.blk 3
        have KK := Lib.hid (And.intro z0 (And.intro z1 (And.intro z2 z3)))
        clear H4 hE hi hb' hs' HZ z0 z1 z2 z3
        go_wp2
        obtain ⟨z0, z1, z2, z3⟩ := KK.out
        refine bodyPost_ret (v := .tuple #[.agg #[.string c.key, .string c.val, .bool c.del, .int .i64 c.seq], .bool true]) (by simp [results, Try.results17, go_sem, z0, z1, z2, z3]) rfl ⟨by rw [HE.out]; rfl, HH.out⟩
end Go.Proofs.Ytbepbbjeieafhaa.Tb
