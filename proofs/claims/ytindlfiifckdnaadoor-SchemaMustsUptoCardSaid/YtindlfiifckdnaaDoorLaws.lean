/-
  Slices as bare values: what a slice reads, and the walk's laws on len, index and cut for a slice of which only that is known. Over any program.
-/
import Derived.WalkKit
import Derived.Lib.Hide
namespace Go.Proofs.YtindlfiifckdnaaDoor.L
open Go.RowKit

theorem add_block (a : Addr) (j : Nat) : (a.add j).block = a.block := by unfold Addr.add; split <;> rfl
theorem add_zero (a : Addr) : a.add 0 = a := rfl
theorem add_add (a : Addr) (i j : Nat) : (a.add i).add j = a.add (i + j) := by
  unfold Addr.add
  by_cases hi : i = 0 <;> by_cases hj : j = 0 <;> simp [hi, hj, Nat.add_assoc]

/-- a slice of n elements of s cells each, whose cells read xs -/
def Sl (w : World) (s : Nat) (v : Value) (n : Nat) (xs : List Value) : Prop :=
  xs.length = n * s ∧ ∃ ao cap, v = .slice ao n cap ∧ n ≤ cap ∧ cap ≤ maxLen ∧ (ao = none → cap = 0) ∧
    ∀ a, ao = some a → ∀ j, j < n * s → w.cell? (a.add j) = some (xs.getD j undef)

section
variable {w w' : World} {s n : Nat} {v : Value} {xs : List Value}

theorem Sl.length (h : Sl w s v n xs) : xs.length = n * s := h.1
theorem Sl.le (h : Sl w s v n xs) : n ≤ maxLen := by
  obtain ⟨_, ao, cap, _, h1, h2, _⟩ := h; omega
theorem Sl.kept (h : Sl w s v n xs) (hb : ∀ b, v.ownBlock = some b → w'.heap[b]? = w.heap[b]?) : Sl w' s v n xs := by
  obtain ⟨h0, ao, cap, rfl, h1, h2, h3, h4⟩ := h
  refine ⟨h0, ao, cap, rfl, h1, h2, h3, fun a ha j hj => ?_⟩
  subst ha
  rw [World.cell?_of_block (w := w) (by rw [add_block]; exact hb a.block rfl)]
  exact h4 a rfl j hj
theorem Sl.lt (h : Sl w s v n xs) (hn : 0 < n * s) : ∀ b, v.ownBlock = some b → b < w.heap.size := by
  obtain ⟨h0, ao, cap, rfl, h1, h2, h3, h4⟩ := h
  intro b hb
  cases ao with
  | none => simp [Value.ownBlock] at hb
  | some a =>
    simp [Value.ownBlock] at hb
    have := World.block_lt_of_cell? w _ (h4 a rfl 0 hn)
    rw [add_block] at this
    omega
theorem Sl.none (h : Sl w s v n xs) (hn : n * s = 0) : Sl w' s v n xs := by
  obtain ⟨h0, ao, cap, rfl, h1, h2, h3, h4⟩ := h
  exact ⟨h0, ao, cap, rfl, h1, h2, h3, fun a ha j hj => by omega⟩
/-- a slice that was there reads as it did, where only new memory has turned -/
theorem Sl.below (h : Sl w s v n xs) {B : Nat} (hb : Below B w w') (hB : ∀ b, v.ownBlock = some b → b < w.heap.size → b < B) : Sl w' s v n xs := by
  by_cases hn : 0 < n * s
  · exact h.kept fun b e => hb.block b (hB b e (h.lt hn b e))
  · exact h.none (by omega)
theorem Sl.below' (h : Sl w s v n xs) (hb : Below w.heap.size w w') : Sl w' s v n xs := h.below hb fun _ _ hlt => hlt
/-- what is owned stays owned, where only new memory has turned -/
theorem own_below {base : Nat} {e : TypeId} (h : w.ownsRow base e s v n xs) (hb : Below w.heap.size w w') : w'.ownsRow base e s v n xs := by
  refine ⟨h.1, ?_⟩
  rcases h.2 with h2 | ⟨g, cap, cur, hv, hg, hh, r⟩
  · exact Or.inl h2
  · exact Or.inr ⟨g, cap, cur, hv, hg, by rw [hb.block g (Array.getElem?_eq_some_iff.1 hh).1]; exact hh, r⟩
theorem Sl.drew (h : Sl w s v n xs) : Sl w.drew s v n xs := h
theorem Sl.nil (w : World) (s : Nat) : Sl w s (.slice Option.none 0 0) 0 [] := ⟨by simp, Option.none, 0, rfl, Nat.le_refl _, Nat.zero_le _, fun _ => rfl, fun a h => by cases h⟩
theorem Sl.of_own {base : Nat} {e : TypeId} (h : w.ownsRow base e s v n xs) : Sl w s v n xs := by
  have hc := fun g hg => h.cells (g := g) hg
  obtain ⟨h0, h1 | ⟨g, cap, cur, rfl, hb, hg, hn, hm, hs, ht⟩⟩ := h
  · obtain ⟨rfl, rfl⟩ := h1
    exact ⟨h0, Option.none, 0, rfl, Nat.le_refl _, Nat.zero_le _, fun _ => rfl, fun a h => by cases h⟩
  · refine ⟨h0, _, cap, rfl, hn, hm, (fun h => by cases h), fun a ha j hj => ?_⟩
    cases ha
    refine hc g rfl j _ ?_
    rw [List.getD, List.getElem?_eq_getElem (by omega)]
    simp
end

section
variable {P : Program} {w : World} {s n : Nat} {v : Value} {xs : List Value}
variable {ops : Array Oper} {rest : List Oper} {o : Oper} {a : Act} {Q : Exit → Act → World → Prop}

/-- len of it: a fact for the walk's own rules -/
theorem Sl.run_len (h : Sl w s v n xs) {t e : TypeId} (ht : P.underlying t = some (.slice e)) : ∀ (ty : TypeId) (w' : World), (Builtin.len_ #[t] ty #[v]).run P w' = .ok (.int .i64 n) w' := by
  obtain ⟨_, ao, cap, rfl, _⟩ := h
  intro ty w'
  exact run_len_slice w' t ty ao n cap (by rw [ht]; simp [Program.elem, ht])

theorem run_indexAt_sl (h : Sl w s v n xs) {t e : TypeId} (ht : P.underlying t = some (.slice e)) (hs : (P.info? e).map (fun i => i.size) = some s) (k : IntKind) (i : Int) (h0 : 0 ≤ i) (h1 : i < n) :
    ∃ A : Addr, (∀ w' : World, (Instr.indexAt t v (.int k i)).run P w' = .ok (.pointer (some A)) w') ∧ some A.block = v.ownBlock ∧ ∀ j, j < s → w.cell? (A.add j) = some (xs.getD (i.toNat * s + j) undef) := by
  obtain ⟨hl, ao, cap, rfl, hc, hm, hnone, hcell⟩ := h
  obtain ⟨inf, hi, hsz⟩ := Option.map_eq_some_iff.1 hs
  cases ao with
  | none => have := hnone rfl; omega
  | some a =>
    refine ⟨a.add (i.toNat * s), ?_, by simp [Value.ownBlock, add_block], fun j hj => ?_⟩
    · intro w'
      simp [Instr.indexAt, run_underlying ht, asIntOf, h0, h1, sizeOf, typeInfo, hi, hsz]
    · rw [add_add]
      refine hcell a rfl _ ?_
      have : i.toNat + 1 ≤ n := by omega
      calc i.toNat * s + j < i.toNat * s + s := by omega
        _ = (i.toNat + 1) * s := by rw [Nat.add_mul, Nat.one_mul]
        _ ≤ n * s := Nat.mul_le_mul_right _ this

/-- x[i]: the place of an element -/
theorem wpList_index (hg : o.guard = none) (t : TypeId) (x i : Operand) (hop : o.op = .indexAddr t x i) (h : Sl w s v n xs) {e : TypeId} (ht : P.underlying t = some (.slice e)) (hs : (P.info? e).map (fun i => i.size) = some s)
    (hx : a.eval x = v) (k : IntKind) (j : Int) (hj : a.eval i = .int k j) (h0 : 0 ≤ j) (h1 : j < n)
    (hK : ∀ A : Addr, some A.block = v.ownBlock → (∀ i, i < s → w.cell? (A.add i) = some (xs.getD (j.toNat * s + i) undef)) → wpList P ops Q rest (a.put o.dst (.pointer (some A))) w) :
    wpList P ops Q (o :: rest) a w := by
  refine wpList_plain hg fun K hK' => ?_
  obtain ⟨A, hr, hb, hc⟩ := run_indexAt_sl (P := P) h ht hs k j h0 h1
  unfold Oper.wp
  simp [execOp, hop, hx, hj, hr, Result.andThen]
  exact hK' _ _ (hK A hb hc)

theorem run_slice_sl (h : Sl w s v n xs) {t e : TypeId} (ht : P.underlying t = some (.slice e)) (hs : (P.info? e).map (fun i => i.size) = some s) (lo hi : Option Value) (l m : Nat)
    (hlo : (lo = none ∧ l = 0) ∨ ∃ k, lo = some (.int k l)) (hhi : (hi = none ∧ m = n) ∨ ∃ k, hi = some (.int k m)) (h1 : l ≤ m) (h2 : m ≤ n) :
    ∃ v', (∀ w' : World, (Instr.slice t v lo hi none).run P w' = .ok v' w') ∧ Sl w s v' (m - l) ((xs.drop (l * s)).take ((m - l) * s)) ∧ v'.ownBlock = v.ownBlock := by
  obtain ⟨hl, ao, cap, rfl, hc, hm, hnone, hcell⟩ := h
  obtain ⟨inf, hif, hsz⟩ := Option.map_eq_some_iff.1 hs
  refine ⟨.slice (if cap = l then ao else ao.map (·.add (l * s))) (m - l) (cap - l), ?_, ⟨?_, _, _, rfl, by omega, by omega, ?_, ?_⟩, ?_⟩
  · intro w'
    rcases hlo with ⟨rfl, rfl⟩ | ⟨kl, rfl⟩ <;> rcases hhi with ⟨rfl, rfl⟩ | ⟨kh, rfl⟩ <;>
      simp [Instr.slice, run_underlying ht, Instr.sliceBounds, run_sliceBound_if, sizeOf, typeInfo, hif, hsz] <;> (repeat (first | rw [if_pos (by omega)] | (split <;> simp_all <;> omega)))
  · simp only [List.length_take, List.length_drop, hl]
    have : (m - l) * s ≤ n * s - l * s := by rw [← Nat.sub_mul]; exact Nat.mul_le_mul_right _ (by omega)
    omega
  · split
    · intro e; have := hnone e; omega
    · intro e; have := hnone (by cases ao <;> simp_all); omega
  · intro a ha j hj
    have hjl : l * s + j < n * s := by
      calc l * s + j < l * s + (m - l) * s := by omega
        _ = m * s := by rw [← Nat.add_mul]; congr 1; omega
        _ ≤ n * s := Nat.mul_le_mul_right _ h2
    have hd : ((xs.drop (l * s)).take ((m - l) * s)).getD j undef = xs.getD (l * s + j) undef := by
      simp [List.getD, hj]
    rw [hd]
    split at ha
    · exfalso
      have : m - l = 0 := by omega
      rw [this] at hj
      omega
    · cases ao with
      | none => simp at ha
      | some a0 =>
        simp at ha
        subst ha
        rw [add_add]
        exact hcell a0 rfl _ hjl
  · cases ao with
    | none => simp [Value.ownBlock]
    | some a0 => split <;> simp [Value.ownBlock, add_block]
end
end Go.Proofs.YtindlfiifckdnaaDoor.L
