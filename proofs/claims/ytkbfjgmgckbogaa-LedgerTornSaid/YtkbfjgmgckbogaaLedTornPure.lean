/-
  A log that is torn at a byte (chapter 5), plain.
-/
import Derived.Test.YtkbfjgmgckbogaaF17
namespace Go.Proofs.Ytkbfjgmgckbogaa.Ld
open Go.RowKit L Oct Dsk Fr Kp
theorem recsL_app : ∀ (A B : List (List UInt8)) (n : Nat), recsL n (A ++ B) = recsL n A ++ recsL (n + A.length) B
  | [], B, n => by simp [recsL]
  | q :: A, B, n => by
    simp only [List.cons_append, recsL, recsL_app A B (n + 1), List.length_cons]
    rw [show n + 1 + A.length = n + (A.length + 1) from by omega]
theorem logB_app (n : Nat) (A B : List (List UInt8)) : logB n (A ++ B) = logB n A ++ logB (n + A.length) B := by
  unfold logB
  rw [recsL_app, List.flatMap_append]
def endOf (rs : List (List UInt8)) (j : Nat) : Nat := (logB 1 (rs.take j)).length
theorem end_zero (rs : List (List UInt8)) : endOf rs 0 = 0 := by simp [endOf, logB, recsL]
theorem end_succ {rs : List (List UInt8)} {j : Nat} (hj : j < rs.length) : endOf rs (j + 1) = endOf rs j + (rec_ (recL (j + 1) (rs.getD j []))).length := by
  unfold endOf
  rw [List.take_succ_eq_append_getElem hj, logB_snoc, List.length_append, List.length_take, Nat.min_eq_left (Nat.le_of_lt hj)]
  simp [List.getD, hj, Nat.add_comm]
theorem torn_split {rs : List (List UInt8)} {j k : Nat} (hj : j < rs.length) (h1 : endOf rs j ≤ k) (h2 : k < endOf rs (j + 1)) :
    (logB 1 rs).take k = logB 1 (rs.take j) ++ (rec_ (recL (j + 1) (rs.getD j []))).take (k - endOf rs j) ∧ k - endOf rs j < (rec_ (recL (j + 1) (rs.getD j []))).length := by
  rw [end_succ hj] at h2
  refine ⟨?_, by omega⟩
  have e : logB 1 rs = logB 1 (rs.take j) ++ (rec_ (recL (j + 1) (rs.getD j [])) ++ logB (1 + (rs.take (j + 1)).length) (rs.drop (j + 1))) := by
    have h := logB_app 1 (rs.take (j + 1)) (rs.drop (j + 1))
    rw [List.take_append_drop] at h
    rw [h, List.take_succ_eq_append_getElem hj, logB_snoc, List.append_assoc, List.length_take, Nat.min_eq_left (Nat.le_of_lt hj)]
    simp [List.getD, hj, Nat.add_comm]
  rw [e, List.take_append, List.take_append]
  unfold endOf at h1 h2 ⊢
  rw [List.take_of_length_le h1]
  have h3 : k - (logB 1 (List.take j rs)).length - (rec_ (recL (j + 1) (rs.getD j []))).length = 0 := by omega
  rw [h3, List.take_zero, List.append_nil]
theorem end_le (rs : List (List UInt8)) (hp : ∀ p ∈ rs, p.length ≤ 1000000) : ∀ j, j ≤ rs.length → endOf rs j ≤ 30 * j + (rs.take j).flatten.length
  | 0, _ => by rw [end_zero]; omega
  | j + 1, hj => by
    have ih := end_le rs hp j (by omega)
    have hj' : j < rs.length := by omega
    have hl := recL_length (j + 1) (rs.getD j []) (by
      have := hp (rs.getD j []) (by simp [List.getD, hj'])
      omega)
    rw [end_succ hj', rec_length, List.take_succ_eq_append_getElem hj', List.flatten_append, List.length_append]
    have e : [rs[j]].flatten.length = (rs.getD j []).length := by simp [List.getD, hj']
    rw [e]
    omega
theorem flat_take_le (rs : List (List UInt8)) (j : Nat) : (rs.take j).flatten.length ≤ rs.flatten.length := by
  have h := congrArg (fun x => x.flatten.length) (List.take_append_drop j rs)
  simp only [List.flatten_append, List.length_append] at h
  omega
/-- the disk behind so many entries -/
structure TS (rs : List (List UInt8)) (pre : ByteArray) (j : Nat) (d : D) : Prop where
  inv : DInv d (j + 1)
  fused : d.fused = false
  room : d.room = 65536
  used : d.used = endOf rs j
  view : ∀ t, fv d t = if t = logN pre ∧ 0 < j then some (logB 1 (rs.take j), endOf rs j) else none
def lgE (pre : ByteArray) (E : List (List UInt8)) : Lg := { new pre with ents := E }
theorem ts_step {rs : List (List UInt8)} {pre : ByteArray} {j : Nat} {d : D} (h : TS rs pre j d) (hj : j < rs.length) (hn : rs.length ≤ 30) (hp : pre.size ≤ 20) (hfl : rs.flatten.length ≤ 3000) :
    ∃ d2, appendL d (lgE pre (rs.take j)) (rs.getD j []) = (d2, lgE pre (rs.take (j + 1)), j + 1, 0) ∧ TS rs pre (j + 1) d2 := by
  have hmem : ∀ p ∈ rs, p.length ≤ 3000 := fun p hp => Nat.le_trans (List.Sublist.length_le (List.sublist_flatten_of_mem hp)) hfl
  have hpl : (rs.getD j []).length ≤ 3000 := hmem _ (by simp [List.getD, hj])
  have hlast : (lgE pre (rs.take j)).last = j := by
    show 0 + (rs.take j).length = j
    rw [List.length_take]; omega
  have he := end_le rs (fun p hp => by have := hmem p hp; omega) (j + 1) (by omega)
  have hf := flat_take_le rs (j + 1)
  have hs := end_succ hj
  obtain ⟨d2, a1, a2, a3, a4, a5, a6⟩ := appendL_v (g := lgE pre (rs.take j)) (p := rs.getD j []) h.inv h.fused rfl hp (by omega) (by rw [hlast]; omega)
    (by rw [hlast, h.used, h.room]; omega) (by have := h.inv.len; omega)
  rw [hlast] at a1 a5 a6
  have hpre : (lgE pre (rs.take j)).pre = pre := rfl
  rw [hpre] at a6
  have htk : rs.take (j + 1) = rs.take j ++ [rs.getD j []] := by
    rw [List.take_succ_eq_append_getElem hj]; simp [List.getD, hj]
  have hlog : logOf (fv d (logN pre)) (rec_ (recL (j + 1) (rs.getD j []))) = logB 1 (rs.take (j + 1)) := by
    rw [h.view, htk, logB_snoc, List.length_take, Nat.min_eq_left (Nat.le_of_lt hj), Nat.add_comm 1 j]
    by_cases h0 : 0 < j
    · rw [if_pos ⟨rfl, h0⟩]; rfl
    · rw [if_neg (fun h => h0 h.2)]
      have : j = 0 := by omega
      subst this
      simp [logOf, logB, recsL]
  refine ⟨d2, ?_, ⟨a2, a3, a4.trans h.room, by rw [a5, h.used, hs], fun t => ?_⟩⟩
  · rw [a1, htk]; rfl
  · rw [a6, hlog]
    unfold upV
    by_cases ht : t = logN pre
    · rw [if_pos ht, if_pos ⟨ht, by omega⟩]; rfl
    · rw [if_neg ht, if_neg (fun h => ht h.1), h.view, if_neg (fun h => ht h.1)]
/-- a disk that has one file at most -/
theorem one_file {fs : List AF} {s : ByteArray} (hn : Nd fs) (h : ∀ t, t ≠ s → getF fs t = none) : fs = [] ∨ ∃ f, fs = [f] ∧ f.name = s := by
  have hall : ∀ f ∈ fs, f.name = s := fun f hf => by
    by_cases e : f.name = s
    · exact e
    · have := getF_mem hn hf
      rw [h _ e] at this; cases this
  cases fs with
  | nil => exact .inl rfl
  | cons f r =>
    cases r with
    | nil => exact .inr ⟨f, rfl, hall f (List.mem_cons_self ..)⟩
    | cons g q =>
      exfalso
      have h1 := hall f (List.mem_cons_self ..)
      have h2 := hall g (List.mem_cons_of_mem _ (List.mem_cons_self ..))
      unfold Nd at hn
      rw [List.map_cons, List.map_cons, List.nodup_cons] at hn
      exact hn.1 (by rw [h1, ← h2]; exact List.mem_cons_self ..)
theorem used_view {d : D} {s : ByteArray} (hn : Nd d.fs) (h : ∀ t, t ≠ s → fv d t = none) : d.used = match fv d s with | none => 0 | some y => y.1.length := by
  have h2 : ∀ t, t ≠ s → getF d.fs t = none := fun t ht => fv_none (h t ht)
  rcases one_file hn h2 with h3 | ⟨f, h3, h4⟩
  · unfold D.used fv
    rw [h3]; rfl
  · unfold D.used fv
    rw [h3]
    have : getF [f] s = some f := by simp [getF, h4]
    rw [this]
    show used [f] = f.data.length
    rw [used_cons]; rfl
/-- the disk behind the cut -/
structure TC (rs : List (List UInt8)) (pre : ByteArray) (k : Nat) (d : D) : Prop where
  inv : DInv d (rs.length + 1)
  fused : d.fused = false
  room : d.room = 65536
  view : ∀ t, fv d t = if t = logN pre then some ((logB 1 rs).take k, k) else none
theorem inv_logEnd {d : D} {n : Nat} (h : DInv d n) (pre : ByteArray) (c : Bool) : DInv (logEnd d pre c).1 n := by
  unfold logEnd
  split
  · exact h.remove _
  · exact h
theorem inv_log {d : D} {n : Nat} (h : DInv d n) (g : Lg) : DInv (log d g).1 n := by
  unfold log
  split
  · exact h
  · split
    · show DInv (logCut d g.pre _ _ _).1 n
      unfold logCut
      split
      · split
        · split
          · exact inv_logEnd ((h.truncate _ _).sync _) _ _
          · exact (h.truncate _ _).sync _
        · exact h.truncate _ _
      · exact inv_logEnd h _ _
    · exact h
theorem inv_open {d : D} {n : Nat} (h : DInv d n) (pre : ByteArray) : DInv (openL d pre).1 n := by
  have h1 : DInv (clears d pre).1 n := removes_inv [sh (imgN pre)] h
  unfold openL
  split
  · split
    · exact inv_log h1 _
    · exact h1
  · exact h1
/-- a torn log, opened: its whole entries -/
theorem torn_open {rs : List (List UInt8)} {pre : ByteArray} {d : D} {k j : Nat} (h : TC rs pre k d) (hp : pre.size ≤ 20) (hn : rs.length ≤ 30) (hfl : rs.flatten.length ≤ 3000) (hj : j ≤ rs.length)
    (hk1 : endOf rs j ≤ k) (hk2 : j < rs.length → k < endOf rs (j + 1)) (hk3 : k ≤ endOf rs rs.length) :
    ∃ d3, openL d pre = (d3, lgE pre (rs.take j), 0) ∧ DInv d3 (rs.length + 1) ∧ d3.fused = false ∧ d3.room = 65536 ∧ d3.used = endOf rs j ∧
      ∀ t, fv d3 t = if t = logN pre ∧ 0 < j then some (logB 1 (rs.take j), endOf rs j) else none := by
  have hmem : ∀ p ∈ rs, p.length ≤ 3000 := fun p hp => Nat.le_trans (List.Sublist.length_le (List.sublist_flatten_of_mem hp)) hfl
  have he : endOf rs rs.length = (logB 1 rs).length := by unfold endOf; rw [List.take_length]
  have hdata : ∃ tail, (logB 1 rs).take k = logB 1 (rs.take j) ++ tail ∧ (tail = [] ∨ ∃ p m, p.length ≤ 1048576 ∧ m < (rec_ p).length ∧ tail = (rec_ p).take m) := by
    by_cases hlt : j < rs.length
    · obtain ⟨t1, t2⟩ := torn_split hlt hk1 (hk2 hlt)
      refine ⟨_, t1, .inr ⟨recL (j + 1) (rs.getD j []), k - endOf rs j, ?_, t2, rfl⟩⟩
      have hpj := hmem (rs.getD j []) (by simp [List.getD, hlt])
      have := recL_length (j + 1) (rs.getD j []) (by omega)
      omega
    · have : j = rs.length := by omega
      subst this
      refine ⟨[], ?_, .inl rfl⟩
      rw [List.take_length, List.append_nil, List.take_of_length_le (by omega)]
  obtain ⟨tail, e1, e2⟩ := hdata
  have hv := h.view (logN pre)
  rw [if_pos rfl, e1] at hv
  have hlenk : (logB 1 (rs.take j) ++ tail).length = k := by rw [← e1, List.length_take]; omega
  have himg : fv d (imgN pre) = none := by rw [h.view, if_neg (img_log pre)]
  obtain ⟨d3, o1, o2, o3, l2, o4, o5⟩ := open_log (E := rs.take j) h.fused hp himg (fun p hp => by have := hmem p (List.mem_of_mem_take hp); omega) (by rw [List.length_take]; omega) e2 hv
  have hview : ∀ t, fv d3 t = if t = logN pre ∧ 0 < j then some (logB 1 (rs.take j), endOf rs j) else none := fun t => by
    rw [o4, o5 hlenk.symm]
    by_cases ht : t = logN pre
    · rw [ht, up_at]
      by_cases h0 : 0 < j
      · rw [if_neg (fun e => by
          have := congrArg List.length e
          rw [List.length_take, List.length_nil] at this
          omega), if_pos ⟨rfl, h0⟩]; rfl
      · have : j = 0 := by omega
        subst this
        rw [if_pos (by simp), if_neg (fun h => h0 h.2)]
    · rw [up_off _ ht, if_neg (fun h => ht h.1)]
      by_cases hs : t = sh (imgN pre)
      · rw [hs, up_at]
      · rw [up_off _ hs, h.view, if_neg ht]
  have hinv : DInv d3 (rs.length + 1) := by
    have := inv_open h.inv pre
    rw [o1] at this
    exact this
  refine ⟨d3, o1, hinv, o2, o3.trans h.room, ?_, hview⟩
  rw [used_view (s := logN pre) hinv.nd (fun t ht => by rw [hview, if_neg (fun h => ht h.1)]), hview]
  by_cases h0 : 0 < j
  · rw [if_pos ⟨rfl, h0⟩]; rfl
  · have : j = 0 := by omega
    subst this
    rw [if_neg (fun h => h0 h.2), end_zero]
end Go.Proofs.Ytkbfjgmgckbogaa.Ld
