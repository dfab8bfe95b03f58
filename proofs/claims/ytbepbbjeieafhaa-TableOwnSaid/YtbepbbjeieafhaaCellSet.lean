/-
  A cell (api.Cell) of an owned slice is written. Over any program.
-/
import Derived.Test.YtbepbbjeieafhaaM8
namespace Go.Proofs.Ytbepbbjeieafhaa.Bl
open Go.RowKit L
theorem cls_take' (l : List Cl) (k : Nat) (hk : k ≤ l.length) : (cls l).take (k * 4) = cls (l.take k) := by
  have h := cls_append (l.take k) (l.drop k)
  rw [List.take_append_drop] at h
  rw [h, List.take_left' (by rw [cls_length, List.length_take]; omega)]
theorem cls_drop' (l : List Cl) (k : Nat) (hk : k ≤ l.length) : (cls l).drop (k * 4) = cls (l.drop k) := by
  have h := cls_append (l.take k) (l.drop k)
  rw [List.take_append_drop] at h
  rw [h, List.drop_left' (by rw [cls_length, List.length_take]; omega)]
theorem cls_set (l : List Cl) (k : Nat) (c : Cl) (hk : k < l.length) : cls (l.set k c) = (cls l).take (k * 4) ++ c.vals ++ (cls l).drop (k * 4 + 4) := by
  rw [List.set_eq_take_append_cons_drop, if_pos hk, cls_append, cls_take' l k (by omega), show k * 4 + 4 = (k + 1) * 4 from by omega, cls_drop' l (k + 1) (by omega)]
  simp [cls, Cl.vals]
section
variable {W0 w : World} {R : Asrt} {v : Value} {l : List Cl}
theorem own_putC {B : Nat} (h : Own w B 39 4 v l.length (cls l)) (i : Nat) (hi : i < l.length) (c : Cl) :
    ∃ g w', v.ownBlock = some g ∧ (∀ w'' : World, (Instr.indexAt 22 v (.int .i64 (i : Int))).run Try.prog w'' = .ok (.pointer (some ⟨g, i * 4, none⟩)) w'') ∧
      (Instr.storeAt 39 (.pointer (some ⟨g, i * 4, none⟩)) (.agg #[.string c.key, .string c.val, .bool c.del, .int .i64 c.seq])).run Try.prog w = .ok () w' ∧
      Own w' B 39 4 v (l.set i c).length (cls (l.set i c)) ∧ Keeps (fun k => v.ownBlock = some k) w w' := by
  obtain ⟨inf, hif, hsz⟩ := Option.map_eq_some_iff.1 Try.size39
  have ht := Try.underlying22
  obtain ⟨hl, h1' | ⟨g, cap, cur, rfl, hb, hg, hn, hm, hcs, htk⟩⟩ := h
  · omega
  · have h1 : ∀ u ∈ c.vals, u.oneCell' = true := by
      intro u hu
      simp only [Cl.vals, List.mem_cons, List.not_mem_nil, or_false] at hu
      rcases hu with rfl | rfl | rfl | rfl <;> rfl
    have hst := run_storeCells_free (P := Try.prog) g (i * 4) (cap * 4) c.vals 0 cur w hg (by simp [Cl.vals]; omega) (by simp [Cl.vals]; omega) h1
    simp only [Nat.add_zero] at hst
    refine ⟨g, w.setRow g (cur.toList.take (i * 4) ++ c.vals ++ cur.toList.drop (i * 4 + c.vals.length)).toArray, rfl, fun w'' => ?_, ?_, ⟨by rw [cls_length], .inr ⟨g, cap, (cur.toList.take (i * 4) ++ c.vals ++ cur.toList.drop (i * 4 + c.vals.length)).toArray, by rw [List.length_set], hb, hg.setRow _, by rw [List.length_set]; exact hn, hm, ?_, ?_⟩⟩, ⟨rfl, rfl, rfl, by simp, fun k _ hk => setRow_other w g k (cur.toList.take (i * 4) ++ c.vals ++ cur.toList.drop (i * 4 + c.vals.length)).toArray (fun e => hk (by simp [Value.ownBlock, e]))⟩⟩
    · simp [Instr.indexAt, run_underlying ht, asIntOf, hi, sizeOf, typeInfo, hif, hsz, Addr.add_lit]
    · simp only [Cl.vals] at hst
      simp [Instr.storeAt, Instr.sureAddr, storeVar, Value.cells, sizeOf, typeInfo, hif, hsz, hst]
      simp [Cl.vals]
    · simp only [Cl.vals, List.size_toArray, List.length_append, List.length_take, List.length_drop, Array.length_toList, List.length_cons, List.length_nil]
      omega
    · have h4 : i * 4 + 4 ≤ l.length * 4 := by omega
      have hlen : cur.toList.length = cur.size := by simp
      have e1 : cur.toList.take (i * 4) = (cls l).take (i * 4) := by rw [← htk, List.take_take, Nat.min_eq_left (by omega)]
      rw [cls_set l i c hi, List.length_set, e1]
      have e2 : (cls l).drop (i * 4 + 4) = (cur.toList.drop (i * 4 + 4)).take (l.length * 4 - (i * 4 + 4)) := by
        rw [← htk, List.drop_take]
      have hl1 : ((cls l).take (i * 4)).length = i * 4 := by rw [List.length_take, cls_length]; omega
      have hv : c.vals.length = 4 := rfl
      rw [e2, hv]
      show List.take (l.length * 4) ((cls l).take (i * 4) ++ c.vals ++ cur.toList.drop (i * 4 + 4)) = _
      rw [List.take_append, List.take_of_length_le (by rw [List.length_append, hl1, hv]; exact h4), List.length_append, hl1, hv]
theorem wpList_store_run {P : Program} {ops : Array Oper} {rest : List Oper} {o : Oper} {a : Act} {Q : Exit → Act → World → Prop} {w1 : World} (hg : o.guard = none) (t : TypeId) (x y : Operand) (hop : o.op = Op.store t x y) (xv yv : Value) (hx : a.eval x = xv) (hy : a.eval y = yv)
    (hrun : (Instr.storeAt t xv yv).run P w = .ok () w1) (hK : wpList P ops Q rest (a.put o.dst undef) w1) : wpList P ops Q (o :: rest) a w := by
  refine wpList_plain hg fun K' hK' => ?_
  unfold Oper.wp
  simp [execOp, hop, hx, hy, hrun, Result.andThen]
  exact hK' _ _ hK
theorem hold_putC (h : Hold W0 ((Row 39 4 v l.length (cls l)).sep R) w) (i : Nat) (hi : i < l.length) (c : Cl) :
    ∃ g w', (∀ w'' : World, (Instr.indexAt 22 v (.int .i64 (i : Int))).run Try.prog w'' = .ok (.pointer (some ⟨g, i * 4, none⟩)) w'') ∧
      (Instr.storeAt 39 (.pointer (some ⟨g, i * 4, none⟩)) (.agg #[.string c.key, .string c.val, .bool c.del, .int .i64 c.seq])).run Try.prog w = .ok () w' ∧
      Hold W0 ((Row 39 4 v (l.set i c).length (cls (l.set i c))).sep R) w' := by
  obtain ⟨F, ⟨hown, hF⟩, hge, hup⟩ := h.take
  obtain ⟨g, w', hgv, hA, hst, ho, hk⟩ := own_putC hown i hi c
  exact ⟨g, w', hA, hst, hup _ (Row 39 4 v (l.set i c).length (cls (l.set i c))) F (hk.mono fun k _ e => (hF k).2 e) ⟨ho, hF⟩ fun k hk => .inl hk⟩
end
end Go.Proofs.Ytbepbbjeieafhaa.Bl
