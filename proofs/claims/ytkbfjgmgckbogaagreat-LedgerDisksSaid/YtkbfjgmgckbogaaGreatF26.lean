/-
  Texts that the proofs of this seat stand on, one behind the other: contracts of functions and plain lemmas. Conditions: those that each theorem states.
-/
import Derived.Test.YtkbfjgmgckbogaaGreatF24
import Derived.Lib.SlBytesConst
/-
  A log that is torn at a byte (chapter 5), plain.
-/

namespace Go.Proofs.YtkbfjgmgckbogaaGreat.Ld
open Go.RowKit L Oct Dsk Fr Kp
theorem recsL_app : ∀ (A B : List (List UInt8)) (n : Nat), recsL n (A ++ B) = recsL n A ++ recsL (n + A.length) B
  | [], B, n => by simp [recsL]
  | q :: A, B, n => by
    simp only [List.cons_append, recsL, recsL_app A B (n + 1), List.length_cons]
    rw [show n + 1 + A.length = n + (A.length + 1) from by omega]
theorem logB_app (n : Nat) (A B : List (List UInt8)) : logB n (A ++ B) = logB n A ++ logB (n + A.length) B := by
  unfold logB
  rw [recsL_app, List.flatMap_append]
def endOf (rs : List (List UInt8)) (j : Nat) : Nat := (logB 1 (rs.take j)).length
theorem end_zero (rs : List (List UInt8)) : endOf rs 0 = 0 := by simp [endOf, logB, recsL]
theorem end_succ {rs : List (List UInt8)} {j : Nat} (hj : j < rs.length) : endOf rs (j + 1) = endOf rs j + (rec_ (recL (j + 1) (rs.getD j []))).length := by
  unfold endOf
  rw [List.take_succ_eq_append_getElem hj, logB_snoc, List.length_append, List.length_take, Nat.min_eq_left (Nat.le_of_lt hj)]
  simp [List.getD, hj, Nat.add_comm]
theorem torn_split {rs : List (List UInt8)} {j k : Nat} (hj : j < rs.length) (h1 : endOf rs j ≤ k) (h2 : k < endOf rs (j + 1)) :
    (logB 1 rs).take k = logB 1 (rs.take j) ++ (rec_ (recL (j + 1) (rs.getD j []))).take (k - endOf rs j) ∧ k - endOf rs j < (rec_ (recL (j + 1) (rs.getD j []))).length := by
  rw [end_succ hj] at h2
  refine ⟨?_, by omega⟩
  have e : logB 1 rs = logB 1 (rs.take j) ++ (rec_ (recL (j + 1) (rs.getD j [])) ++ logB (1 + (rs.take (j + 1)).length) (rs.drop (j + 1))) := by
    have h := logB_app 1 (rs.take (j + 1)) (rs.drop (j + 1))
    rw [List.take_append_drop] at h
    rw [h, List.take_succ_eq_append_getElem hj, logB_snoc, List.append_assoc, List.length_take, Nat.min_eq_left (Nat.le_of_lt hj)]
    simp [List.getD, hj, Nat.add_comm]
  rw [e, List.take_append, List.take_append]
  unfold endOf at h1 h2 ⊢
  rw [List.take_of_length_le h1]
  have h3 : k - (logB 1 (List.take j rs)).length - (rec_ (recL (j + 1) (rs.getD j []))).length = 0 := by omega
  rw [h3, List.take_zero, List.append_nil]
theorem end_le (rs : List (List UInt8)) (hp : ∀ p ∈ rs, p.length ≤ 1000000) : ∀ j, j ≤ rs.length → endOf rs j ≤ 30 * j + (rs.take j).flatten.length
  | 0, _ => by rw [end_zero]; omega
  | j + 1, hj => by
    have ih := end_le rs hp j (by omega)
    have hj' : j < rs.length := by omega
    have hl := recL_length (j + 1) (rs.getD j []) (by
      have := hp (rs.getD j []) (by simp [List.getD, hj'])
      omega)
    rw [end_succ hj', rec_length, List.take_succ_eq_append_getElem hj', List.flatten_append, List.length_append]
    have e : [rs[j]].flatten.length = (rs.getD j []).length := by simp [List.getD, hj']
    rw [e]
    omega
theorem flat_take_le (rs : List (List UInt8)) (j : Nat) : (rs.take j).flatten.length ≤ rs.flatten.length := by
  have h := congrArg (fun x => x.flatten.length) (List.take_append_drop j rs)
  simp only [List.flatten_append, List.length_append] at h
  omega
/-- the disk behind so many entries -/
structure TS (rs : List (List UInt8)) (pre : ByteArray) (j : Nat) (d : D) : Prop where
  inv : DInv d (j + 1)
  fused : d.fused = false
  room : d.room = 65536
  used : d.used = endOf rs j
  view : ∀ t, fv d t = if t = logN pre ∧ 0 < j then some (logB 1 (rs.take j), endOf rs j) else none
def lgE (pre : ByteArray) (E : List (List UInt8)) : Lg := { new pre with ents := E }
theorem ts_step {rs : List (List UInt8)} {pre : ByteArray} {j : Nat} {d : D} (h : TS rs pre j d) (hj : j < rs.length) (hn : rs.length ≤ 30) (hp : pre.size ≤ 20) (hfl : rs.flatten.length ≤ 3000) :
    ∃ d2, appendL d (lgE pre (rs.take j)) (rs.getD j []) = (d2, lgE pre (rs.take (j + 1)), j + 1, 0) ∧ TS rs pre (j + 1) d2 := by
  have hmem : ∀ p ∈ rs, p.length ≤ 3000 := fun p hp => Nat.le_trans (List.Sublist.length_le (List.sublist_flatten_of_mem hp)) hfl
  have hpl : (rs.getD j []).length ≤ 3000 := hmem _ (by simp [List.getD, hj])
  have hlast : (lgE pre (rs.take j)).last = j := by
    show 0 + (rs.take j).length = j
    rw [List.length_take]; omega
  have he := end_le rs (fun p hp => by have := hmem p hp; omega) (j + 1) (by omega)
  have hf := flat_take_le rs (j + 1)
  have hs := end_succ hj
  obtain ⟨d2, a1, a2, a3, a4, a5, a6⟩ := appendL_v (g := lgE pre (rs.take j)) (p := rs.getD j []) h.inv h.fused rfl hp (by omega) (by rw [hlast]; omega)
    (by rw [hlast, h.used, h.room]; omega) (by have := h.inv.len; omega)
  rw [hlast] at a1 a5 a6
  have hpre : (lgE pre (rs.take j)).pre = pre := rfl
  rw [hpre] at a6
  have htk : rs.take (j + 1) = rs.take j ++ [rs.getD j []] := by
    rw [List.take_succ_eq_append_getElem hj]; simp [List.getD, hj]
  have hlog : logOf (fv d (logN pre)) (rec_ (recL (j + 1) (rs.getD j []))) = logB 1 (rs.take (j + 1)) := by
    rw [h.view, htk, logB_snoc, List.length_take, Nat.min_eq_left (Nat.le_of_lt hj), Nat.add_comm 1 j]
    by_cases h0 : 0 < j
    · rw [if_pos ⟨rfl, h0⟩]; rfl
    · rw [if_neg (fun h => h0 h.2)]
      have : j = 0 := by omega
      subst this
      simp [logOf, logB, recsL]
  refine ⟨d2, ?_, ⟨a2, a3, a4.trans h.room, by rw [a5, h.used, hs], fun t => ?_⟩⟩
  · rw [a1, htk]; rfl
  · rw [a6, hlog]
    unfold upV
    by_cases ht : t = logN pre
    · rw [if_pos ht, if_pos ⟨ht, by omega⟩]; rfl
    · rw [if_neg ht, if_neg (fun h => ht h.1), h.view, if_neg (fun h => ht h.1)]
/-- a disk that has one file at most -/
theorem one_file {fs : List AF} {s : ByteArray} (hn : Nd fs) (h : ∀ t, t ≠ s → getF fs t = none) : fs = [] ∨ ∃ f, fs = [f] ∧ f.name = s := by
  have hall : ∀ f ∈ fs, f.name = s := fun f hf => by
    by_cases e : f.name = s
    · exact e
    · have := getF_mem hn hf
      rw [h _ e] at this; cases this
  cases fs with
  | nil => exact .inl rfl
  | cons f r =>
    cases r with
    | nil => exact .inr ⟨f, rfl, hall f (List.mem_cons_self ..)⟩
    | cons g q =>
      exfalso
      have h1 := hall f (List.mem_cons_self ..)
      have h2 := hall g (List.mem_cons_of_mem _ (List.mem_cons_self ..))
      unfold Nd at hn
      rw [List.map_cons, List.map_cons, List.nodup_cons] at hn
      exact hn.1 (by rw [h1, ← h2]; exact List.mem_cons_self ..)
theorem used_view {d : D} {s : ByteArray} (hn : Nd d.fs) (h : ∀ t, t ≠ s → fv d t = none) : d.used = match fv d s with | none => 0 | some y => y.1.length := by
  have h2 : ∀ t, t ≠ s → getF d.fs t = none := fun t ht => fv_none (h t ht)
  rcases one_file hn h2 with h3 | ⟨f, h3, h4⟩
  · unfold D.used fv
    rw [h3]; rfl
  · unfold D.used fv
    rw [h3]
    have : getF [f] s = some f := by simp [getF, h4]
    rw [this]
    show used [f] = f.data.length
    rw [used_cons]; rfl
/-- the disk behind the cut -/
structure TC (rs : List (List UInt8)) (pre : ByteArray) (k : Nat) (d : D) : Prop where
  inv : DInv d (rs.length + 1)
  fused : d.fused = false
  room : d.room = 65536
  view : ∀ t, fv d t = if t = logN pre then some ((logB 1 rs).take k, k) else none
theorem inv_logEnd {d : D} {n : Nat} (h : DInv d n) (pre : ByteArray) (c : Bool) : DInv (logEnd d pre c).1 n := by
  unfold logEnd
  split
  · exact h.remove _
  · exact h
theorem inv_log {d : D} {n : Nat} (h : DInv d n) (g : Lg) : DInv (log d g).1 n := by
  unfold log
  split
  · exact h
  · split
    · show DInv (logCut d g.pre _ _ _).1 n
      unfold logCut
      split
      · split
        · split
          · exact inv_logEnd ((h.truncate _ _).sync _) _ _
          · exact (h.truncate _ _).sync _
        · exact h.truncate _ _
      · exact inv_logEnd h _ _
    · exact h
theorem inv_open {d : D} {n : Nat} (h : DInv d n) (pre : ByteArray) : DInv (openL d pre).1 n := by
  have h1 : DInv (clears d pre).1 n := removes_inv [sh (imgN pre)] h
  unfold openL
  split
  · split
    · exact inv_log h1 _
    · exact h1
  · exact h1
/-- a torn log, opened: its whole entries -/
theorem torn_open {rs : List (List UInt8)} {pre : ByteArray} {d : D} {k j : Nat} (h : TC rs pre k d) (hp : pre.size ≤ 20) (hn : rs.length ≤ 30) (hfl : rs.flatten.length ≤ 3000) (hj : j ≤ rs.length)
    (hk1 : endOf rs j ≤ k) (hk2 : j < rs.length → k < endOf rs (j + 1)) (hk3 : k ≤ endOf rs rs.length) :
    ∃ d3, openL d pre = (d3, lgE pre (rs.take j), 0) ∧ DInv d3 (rs.length + 1) ∧ d3.fused = false ∧ d3.room = 65536 ∧ d3.used = endOf rs j ∧
      ∀ t, fv d3 t = if t = logN pre ∧ 0 < j then some (logB 1 (rs.take j), endOf rs j) else none := by
  have hmem : ∀ p ∈ rs, p.length ≤ 3000 := fun p hp => Nat.le_trans (List.Sublist.length_le (List.sublist_flatten_of_mem hp)) hfl
  have he : endOf rs rs.length = (logB 1 rs).length := by unfold endOf; rw [List.take_length]
  have hdata : ∃ tail, (logB 1 rs).take k = logB 1 (rs.take j) ++ tail ∧ (tail = [] ∨ ∃ p m, p.length ≤ 1048576 ∧ m < (rec_ p).length ∧ tail = (rec_ p).take m) := by
    by_cases hlt : j < rs.length
    · obtain ⟨t1, t2⟩ := torn_split hlt hk1 (hk2 hlt)
      refine ⟨_, t1, .inr ⟨recL (j + 1) (rs.getD j []), k - endOf rs j, ?_, t2, rfl⟩⟩
      have hpj := hmem (rs.getD j []) (by simp [List.getD, hlt])
      have := recL_length (j + 1) (rs.getD j []) (by omega)
      omega
    · have : j = rs.length := by omega
      subst this
      refine ⟨[], ?_, .inl rfl⟩
      rw [List.take_length, List.append_nil, List.take_of_length_le (by omega)]
  obtain ⟨tail, e1, e2⟩ := hdata
  have hv := h.view (logN pre)
  rw [if_pos rfl, e1] at hv
  have hlenk : (logB 1 (rs.take j) ++ tail).length = k := by rw [← e1, List.length_take]; omega
  have himg : fv d (imgN pre) = none := by rw [h.view, if_neg (img_log pre)]
  obtain ⟨d3, o1, o2, o3, l2, o4, o5⟩ := open_log (E := rs.take j) h.fused hp himg (fun p hp => by have := hmem p (List.mem_of_mem_take hp); omega) (by rw [List.length_take]; omega) e2 hv
  have hview : ∀ t, fv d3 t = if t = logN pre ∧ 0 < j then some (logB 1 (rs.take j), endOf rs j) else none := fun t => by
    rw [o4, o5 hlenk.symm]
    by_cases ht : t = logN pre
    · rw [ht, up_at]
      by_cases h0 : 0 < j
      · rw [if_neg (fun e => by
          have := congrArg List.length e
          rw [List.length_take, List.length_nil] at this
          omega), if_pos ⟨rfl, h0⟩]; rfl
      · have : j = 0 := by omega
        subst this
        rw [if_pos (by simp), if_neg (fun h => h0 h.2)]
    · rw [up_off _ ht, if_neg (fun h => ht h.1)]
      by_cases hs : t = sh (imgN pre)
      · rw [hs, up_at]
      · rw [up_off _ hs, h.view, if_neg ht]
  have hinv : DInv d3 (rs.length + 1) := by
    have := inv_open h.inv pre
    rw [o1] at this
    exact this
  refine ⟨d3, o1, hinv, o2, o3.trans h.room, ?_, hview⟩
  rw [used_view (s := logN pre) hinv.nd (fun t ht => by rw [hview, if_neg (fun h => ht h.1)]), hview]
  by_cases h0 : 0 < j
  · rw [if_pos ⟨rfl, h0⟩]; rfl
  · have : j = 0 := by omega
    subst this
    rw [if_neg (fun h => h0 h.2), end_zero]
end Go.Proofs.YtkbfjgmgckbogaaGreat.Ld

/-
  'known' of the laws of chapter 5.
-/


namespace Go.Proofs.YtkbfjgmgckbogaaGreat.Ld
open Go.RowKit L Oct Dsk Fr Kp
def kd (fs : List AF) : D := ⟨65536, fs, false, 0⟩
def sAx : ByteArray := ⟨#[97]⟩
def sImgA : ByteArray := imgN sAx
def sLogA : ByteArray := logN sAx
theorem kd_inv0 : DInv (kd []) 0 := ⟨⟨by show 65536 ≤ _; omega, by show 0 ≤ _; omega, by show 0 ≤ _; omega, fun f hf => by cases hf⟩, Nat.le_refl _, (fun f hf => by cases hf), .nil⟩
theorem open_empty (pre : ByteArray) : openL (kd []) pre = (kd [], new pre, 0) := by
  have h1 : clears (kd []) pre = (kd [], 0) := rfl
  have h2 : image (kd []) (new pre) = (new pre, 0) := rfl
  have h3 : log (kd []) (new pre) = (kd [], new pre, 0) := rfl
  rw [openL, h1]
  show (if (image (kd []) (new pre)).2 = 0 then log (kd []) (image (kd []) (new pre)).1 else _) = _
  rw [h2]
  exact h3
theorem known_1 {X : List UInt8} (h : X.length ≤ 1000) : (kd []).append sLogA X = (kd [⟨sLogA, X, 0⟩], 0) := by
  rw [append_ok (d := kd []) (by rfl) (by show 0 + _ ≤ 65536; omega) (by show 0 < 4096; omega)]; rfl
theorem known_2 (X : List UInt8) : (kd [⟨sLogA, X, 0⟩]).sync [sLogA] = (kd [⟨sLogA, X, X.length⟩], 0) := by rfl
theorem known_3 {X Y : List UInt8} (hX : X.length ≤ 1000) (hY : (rec_ Y).length ≤ 1000) : save (kd [⟨sLogA, X, X.length⟩]) sImgA Y = (kd [⟨sLogA, X, X.length⟩, ⟨sImgA, rec_ Y, (rec_ Y).length⟩], 0) := by
  rw [save, if_pos (by decide)]
  show tailS _ _ _ = _
  unfold tailS
  obtain ⟨Z, hZ⟩ : ∃ Z, Z = rec_ Y := ⟨_, rfl⟩
  rw [← hZ] at hY ⊢
  have e1 : (kd [⟨sLogA, X, X.length⟩]).append (sh sImgA) Z = (kd [⟨sLogA, X, X.length⟩, ⟨sh sImgA, Z, 0⟩], 0) := by
    rw [append_ok (d := kd [⟨sLogA, X, X.length⟩]) (by rfl) (by show X.length + 0 + _ ≤ 65536; omega) (by show 1 < 4096; omega)]; rfl
  rw [e1]
  rfl
theorem known_4 (X Z : List UInt8) (n m : Nat) : removes (kd [⟨sLogA, X, n⟩, ⟨sImgA, Z, m⟩]) [sLogA] = (kd [⟨sImgA, Z, m⟩], 0) := by rfl
theorem known_5 {X Z : List UInt8} {m : Nat} (hX : X.length ≤ 1000) (hZ : Z.length ≤ 1000) : (kd [⟨sImgA, Z, m⟩]).append sLogA X = (kd [⟨sImgA, Z, m⟩, ⟨sLogA, X, 0⟩], 0) := by
  rw [append_ok (d := kd [⟨sImgA, Z, m⟩]) (by rfl) (by show Z.length + 0 + _ ≤ 65536; omega) (by show 1 < 4096; omega)]; rfl
theorem known_6 (X Z : List UInt8) (m : Nat) : (kd [⟨sImgA, Z, m⟩, ⟨sLogA, X, 0⟩]).sync [sLogA] = (kd [⟨sImgA, Z, m⟩, ⟨sLogA, X, X.length⟩], 0) := by rfl
theorem rl_len {n : Nat} {p : List UInt8} (hp : p.length ≤ 500) : (rec_ (recL n p)).length ≤ 1000 := by
  have := recL_length n p (by omega)
  rw [rec_length]; omega
theorem known_a : appendL (kd []) (new sAx) [120] = (kd [⟨sLogA, rec_ (recL 1 [120]), (rec_ (recL 1 [120])).length⟩], ⟨sAx, 0, [], [[120]], false⟩, 1, 0) := by
  have h1 : putE (kd []) (new sAx) [120] = (kd [⟨sLogA, rec_ (recL 1 [120]), (rec_ (recL 1 [120])).length⟩], 0) := by
    rw [putE]
    show (if ((kd []).append sLogA (rec_ (recL 1 [120]))).2 = 0 then ((kd []).append sLogA (rec_ (recL 1 [120]))).1.sync [sLogA] else (kd []).append sLogA (rec_ (recL 1 [120]))) = _
    rw [known_1 (rl_len (by decide)), if_pos rfl, known_2]
  rw [appendL, h1]
  rfl
theorem known_b : writeL (kd [⟨sLogA, rec_ (recL 1 [120]), (rec_ (recL 1 [120])).length⟩]) ⟨sAx, 0, [], [[120]], false⟩ 1 [121] = (kd [⟨sImgA, rec_ (recL 1 [121]), (rec_ (recL 1 [121])).length⟩], ⟨sAx, 1, [121], [], false⟩, 0) := by
  have h1 : putI (kd [⟨sLogA, rec_ (recL 1 [120]), (rec_ (recL 1 [120])).length⟩]) ⟨sAx, 0, [], [[120]], false⟩ 1 [121] = (kd [⟨sImgA, rec_ (recL 1 [121]), (rec_ (recL 1 [121])).length⟩], 0) := by
    rw [putI]
    show (if (save _ sImgA (recL 1 [121])).2 = 0 then removes (save _ sImgA (recL 1 [121])).1 [sLogA] else save _ sImgA (recL 1 [121])) = _
    rw [known_3 (rl_len (by decide)) (rl_len (by decide)), if_pos rfl, known_4]
  rw [writeL, h1]
  rfl
theorem known_c : appendL (kd [⟨sImgA, rec_ (recL 1 [121]), (rec_ (recL 1 [121])).length⟩]) ⟨sAx, 1, [121], [], false⟩ [122] =
    (kd [⟨sImgA, rec_ (recL 1 [121]), (rec_ (recL 1 [121])).length⟩, ⟨sLogA, rec_ (recL 2 [122]), (rec_ (recL 2 [122])).length⟩], ⟨sAx, 1, [121], [[122]], false⟩, 2, 0) := by
  have h1 : putE (kd [⟨sImgA, rec_ (recL 1 [121]), (rec_ (recL 1 [121])).length⟩]) ⟨sAx, 1, [121], [], false⟩ [122] = (kd [⟨sImgA, rec_ (recL 1 [121]), (rec_ (recL 1 [121])).length⟩, ⟨sLogA, rec_ (recL 2 [122]), (rec_ (recL 2 [122])).length⟩], 0) := by
    rw [putE]
    show (if ((kd _).append sLogA (rec_ (recL 2 [122]))).2 = 0 then ((kd _).append sLogA (rec_ (recL 2 [122]))).1.sync [sLogA] else (kd _).append sLogA (rec_ (recL 2 [122]))) = _
    rw [known_5 (rl_len (by decide)) (rl_len (by decide)), if_pos rfl, known_6]
  rw [appendL, h1]
  rfl
theorem const_in {W0 w : World} {A B R : Asrt} (h : Hold W0 (A.sep (B.sep R)) w) (cs : List Value) (e : TypeId) (k : Nat) (hm : cs.length ≤ maxLen) {b : Nat} (hb : w.heap.size = b) :
    Hold W0 (A.sep (B.sep ((Ro 1 (.slice (some ⟨b, 0, none⟩) cs.length cs.length) cs.length cs).sep R))) (w.alloc (.cells cs.toArray e (k, k + 1))) :=
  (h.addConst cs e k hm hb).up2.under fun _ h => up2_at h
theorem one_inv {s : ByteArray} {X : List UInt8} (h : X.length ≤ 1000) (hs : s.size ≤ 64 := by decide) : DInv (kd [⟨s, X, X.length⟩]) 1 :=
  ⟨⟨by show 65536 ≤ _; omega, by show X.length + 0 ≤ 65536; omega, by show 0 ≤ _; omega, fun f hf => by
    have : f = ⟨s, X, X.length⟩ := by simpa [kd] using hf
    subst this; exact Nat.le_refl _⟩, Nat.le_refl _, fun f hf => by
    have : f = ⟨s, X, X.length⟩ := by simpa [kd] using hf
    subst this; exact hs, by show (List.map AF.name [_]).Nodup; simp⟩
set_option maxRecDepth 100000 in
set_option maxHeartbeats 1600000 in
theorem known_any (w : World) : Calls Tryz.prog 9 #[] w fun e w' => e = .returned (.bool true) ∧ Below w.heap.size w w' := by
  have kc := fun (w : World) (C : Array Value) (n c : Nat) => Lib.run_convert_bytes_const (P := Tryz.prog) w 22 5 C n c Tryz.underlying22 Tryz.underlying5
  go_enter Tryz.func9, Tryz.ntmps9
  go_wp2_with fail
  refine (Dsk.new_ok (Hold.start w) 65536 (by omega)).mono ?_
  rintro e w1 ⟨_, rfl, b, rfl, h1⟩
  unfold ptr
  have H1 : Hid (Hold w ((DiskA b (kd [])).sep Asrt.emp) w1) := Lib.hid h1
  clear h1
  go_wp2_with fail
  refine (open_any H1.out kd_inv0 (by omega) (by show 65536 ≤ 1000000; omega) (pre := sAx) (by decide) (by decide)).mono ?_
  intro e w2 h2
  unfold RetOpen at h2
  rw [open_empty] at h2
  rcases h2 with ⟨_, lb, rfl, h2⟩ | ⟨h2, _⟩
  case inr => exact absurd rfl h2
  unfold ptr
  have H2 : Hid (Hold w ((LedgA lb b (new sAx)).sep ((DiskA b (kd [])).sep Asrt.emp)) w2) := Lib.hid h2
  clear h2 H1
  have H3 := Lib.hid (const_in H2.out (u8s [120]) 5 1 (by simp [u8s, maxLen]) rfl)
  clear H2
  go_wp2_with fail
  refine (appendL_any H3.out (Ld.new_ok (by decide)) (by show 0 + 1 ≤ _; omega) kd_inv0 (.slice (some ⟨w2.heap.size, 0, none⟩) 1 1) [120] Reads.ro (by decide)).mono ?_
  rintro e w3 ⟨rfl, h3⟩
  rw [known_a] at h3 ⊢
  have H4 := Lib.hid (const_in h3.up3.drop1 (u8s [121]) 5 1 (by simp [u8s, maxLen]) rfl)
  obtain ⟨X, hX⟩ : ∃ X, X = rec_ (recL 1 [120]) := ⟨_, rfl⟩
  have hXl : X.length ≤ 1000 := by rw [hX]; exact rl_len (by decide)
  have kb := known_b
  rw [← hX] at H4 kb
  have KB := Lib.hid kb
  clear h3 H3 hX kb
  go_wp2_with fail
  refine (writeL_any H4.out ⟨by decide, by decide, by decide, by decide, fun x hx => by cases List.mem_singleton.1 hx; decide⟩ (one_inv hXl) (by omega) 1 (by omega) (.slice (some ⟨w3.heap.size, 0, none⟩) 1 1) [121] Reads.ro (by decide)).mono ?_
  rintro e w4 ⟨rfl, h4⟩
  rw [KB.out] at h4 ⊢
  have H5 := Lib.hid (const_in h4.up3.drop1 (u8s [122]) 5 1 (by simp [u8s, maxLen]) rfl)
  obtain ⟨Y, hY⟩ : ∃ Y, Y = rec_ (recL 1 [121]) := ⟨_, rfl⟩
  have hYl : Y.length ≤ 1000 := by rw [hY]; exact rl_len (by decide)
  have kc2 := known_c
  rw [← hY] at H5 kc2
  have KC := Lib.hid kc2
  clear h4 H4 hY kc2
  go_wp2_with fail
  refine (appendL_any H5.out ⟨by decide, by decide, by decide, by decide, fun x hx => by cases hx⟩ (by show 0 + 1 ≤ _; omega) (one_inv hYl) (.slice (some ⟨w4.heap.size, 0, none⟩) 1 1) [122] Reads.ro (by decide)).mono ?_
  rintro e w5 ⟨rfl, h5⟩
  rw [KC.out] at h5 ⊢
  have H6 := Lib.hid h5.up3.drop1
  have HG : Hid (GOk ⟨sAx, 1, [121], [[122]], false⟩) := Lib.hid ⟨by decide, by decide, by decide, by decide, fun x hx => by cases List.mem_singleton.1 hx; decide⟩
  clear h5 H5
  go_wp2_with fail
  refine (base_any H6.out HG.out).mono ?_
  rintro e w6 ⟨v6, rfl, ho6, hb6⟩
  have H7 := Lib.hid (H6.out.keeps hb6)
  have hcv : (convert 22 9 v6).run Tryz.prog w6 = .ok (.string ⟨[121].toArray⟩) w6 := ho6.sl.run_string (l := [121]) (src := 22) (dst := 9) Tryz.underlying22 Tryz.underlying5 Tryz.underlying9
  clear ho6 hb6 H6
  go_wp2_with fail
  refine (last_any H7.out HG.out).mono ?_
  rintro e w8 ⟨rfl, n8, hw8⟩
  have HF : Hid (Below w.heap.size w w8) := Lib.hid (by
    have h := H7.out.old
    rw [hw8]
    exact h.trans (below_drewN (Below.refl _ _) _ |>.mono h.size))
  clear H7 hw8 hcv
  go_wp2
  go_ret
  exact ⟨rfl, HF.out⟩
end Go.Proofs.YtkbfjgmgckbogaaGreat.Ld
