/-
  Plain laws of chapter 2: one record, records one behind the other.
-/
import Derived.Test.YtkbfjgmgckbogaaFramePure
namespace Go.Proofs.Ytkbfjgmgckbogaa.Fr
/-- what the bytes are, if they are a record -/
def unone (l : List UInt8) : List UInt8 × Nat := if (unrec l).2.2 = 0 ∧ (unrec l).2.1 ≠ l.length then ([], 3) else ((unrec l).1, (unrec l).2.2)
theorem unrec_step (l : List UInt8) (h : (unrec l).2.2 = 0) : 12 ≤ (unrec l).2.1 ∧ (unrec l).2.1 ≤ l.length ∧ (unrec l).1.length ≤ l.length := by
  obtain ⟨_, _, _, h4, _, h6⟩ := unrec_ok l h
  rw [h6]
  refine ⟨by simp, by simpa using h4, ?_⟩
  show ((l.drop 8).take (from4 l)).length ≤ _
  rw [List.length_take, List.length_drop]; omega
/-- all records from the beginning on, and where they end -/
def scan (l : List UInt8) : List (List UInt8) × Nat :=
  if _h : l ≠ [] ∧ (unrec l).2.2 = 0 then
    ((unrec l).1 :: (scan (l.drop (unrec l).2.1)).1, (unrec l).2.1 + (scan (l.drop (unrec l).2.1)).2)
  else ([], 0)
termination_by l.length
decreasing_by
  all_goals
    have := unrec_step l _h.2
    have := List.length_pos_iff.2 _h.1
    rw [List.length_drop]; omega
theorem scan_nil : scan [] = ([], 0) := by rw [scan, dif_neg (by simp)]
theorem scan_bad (l : List UInt8) (h : (unrec l).2.2 ≠ 0) : scan l = ([], 0) := by rw [scan, dif_neg (by simp [h])]
theorem scan_ok (l : List UInt8) (h0 : l ≠ []) (h : (unrec l).2.2 = 0) : scan l = ((unrec l).1 :: (scan (l.drop (unrec l).2.1)).1, (unrec l).2.1 + (scan (l.drop (unrec l).2.1)).2) := by
  rw [scan, dif_pos ⟨h0, h⟩]
theorem unone_rec (p : List UInt8) (hp : p.length ≤ 1048576) : unone (rec_ p) = (p, 0) := by
  have h := unrec_rec p [] hp
  rw [List.append_nil] at h
  unfold unone
  rw [h]
  simp [rec_length]
theorem unone_more (p r : List UInt8) (hp : p.length ≤ 1048576) (hr : 0 < r.length) : unone (rec_ p ++ r) = ([], 3) := by
  have h := unrec_rec p r hp
  unfold unone
  rw [h]
  simp [rec_length]
  intro h2
  subst h2
  simp at hr
/-- records that are laid one behind the other are found -/
theorem scan_recs : ∀ (ps : List (List UInt8)) (r : List UInt8), (∀ p ∈ ps, p.length ≤ 1048576) →
    scan ((ps.flatMap rec_) ++ r) = (ps ++ (scan r).1, (ps.flatMap rec_).length + (scan r).2)
  | [], r, _ => by simp
  | p :: ps, r, h => by
    have hp := h p (by simp)
    have hu : unrec (rec_ p ++ (ps.flatMap rec_ ++ r)) = (p, 12 + p.length, 0) := unrec_rec p _ hp
    have hd : (rec_ p ++ (ps.flatMap rec_ ++ r)).drop (12 + p.length) = ps.flatMap rec_ ++ r := by
      rw [← rec_length p]; exact List.drop_left
    rw [List.flatMap_cons, List.append_assoc, scan_ok _ (by
      intro e
      have := congrArg List.length e
      rw [List.length_append, rec_length] at this
      simp at this) (by rw [hu]), hu]
    simp only
    rw [hd, scan_recs ps r (fun q hq => h q (by simp [hq]))]
    simp only [List.cons_append, List.length_append, rec_length, Prod.mk.injEq, true_and]
    omega
theorem unrec_short (p : List UInt8) (m : Nat) (hm : m < (rec_ p).length) (hp : p.length ≤ 1048576) : (unrec ((rec_ p).take m)).2.2 ≠ 0 := by
  intro h
  obtain ⟨h1, _, _, h4, _, _⟩ := unrec_ok _ h
  have e : from4 ((rec_ p).take m) = p.length := by
    rw [List.length_take, rec_length] at h1
    rw [from4_take _ _ (by rw [rec_length]; omega) (by omega)]
    unfold rec_ head
    rw [List.append_assoc, List.append_assoc]
    exact from4_four _ _ (by omega)
  rw [e, List.length_take] at h4
  rw [rec_length] at hm h4
  omega
theorem scan_short (p : List UInt8) (m : Nat) (hm : m < (rec_ p).length) (hp : p.length ≤ 1048576) : scan ((rec_ p).take m) = ([], 0) := scan_bad _ (unrec_short p m hm hp)
/-- records laid one behind the other; where each ends -/
def recs (ls : List (List UInt8)) : List UInt8 := ls.flatMap rec_
def rend (ls : List (List UInt8)) (k : Nat) : Nat := (recs (ls.take k)).length
def rends (ls : List (List UInt8)) (k : Nat) : List Int := (List.range k).map fun j => (rend ls (j + 1) : Int)
section
variable {ls : List (List UInt8)} {k m : Nat}
theorem recs_append (a b : List (List UInt8)) : recs (a ++ b) = recs a ++ recs b := by simp [recs]
theorem recs_take_succ (hk : k < ls.length) : recs (ls.take (k + 1)) = recs (ls.take k) ++ rec_ (ls.getD k []) := by
  rw [List.take_succ_eq_append_getElem hk, recs_append]
  simp only [recs, List.flatMap_cons, List.flatMap_nil, List.append_nil, List.getD, List.getElem?_eq_getElem hk, Option.getD_some]
theorem rend_succ (hk : k < ls.length) : rend ls (k + 1) = rend ls k + (12 + (ls.getD k []).length) := by
  unfold rend
  rw [recs_take_succ hk, List.length_append, rec_length]
theorem rends_succ : rends ls (k + 1) = rends ls k ++ [(rend ls (k + 1) : Int)] := by simp [rends, List.range_succ]
theorem rends_length : (rends ls k).length = k := by simp [rends]
theorem rends_get {n : Nat} (h : k < n) : (rends ls n).getD k 0 = (rend ls (k + 1) : Int) := by simp [rends, List.getD, h]
theorem recs_split (hk : k < ls.length) : recs ls = recs (ls.take k) ++ (rec_ (ls.getD k []) ++ recs (ls.drop (k + 1))) := by
  conv => lhs; rw [← List.take_append_drop k ls, recs_append]
  congr 1
  show List.flatMap _ (ls.drop k) = _
  rw [List.drop_eq_getElem_cons hk, List.flatMap_cons]
  simp only [List.getD, List.getElem?_eq_getElem hk, Option.getD_some]
  rfl
theorem scan_all (r : List UInt8) (hb : ∀ p ∈ ls, p.length ≤ 1048576) : scan (recs ls ++ r) = (ls ++ (scan r).1, (recs ls).length + (scan r).2) := scan_recs ls r hb
/-- records that are cut short: those that are whole are found -/
theorem scan_cut (hb : ∀ p ∈ ls, p.length ≤ 1048576) (hk : k ≤ ls.length) (h1 : rend ls k ≤ m) (h2 : k < ls.length → m < rend ls (k + 1)) (hm : m ≤ (recs ls).length) :
    scan ((recs ls).take m) = (ls.take k, rend ls k) := by
  by_cases hlt : k < ls.length
  · have h2 := h2 hlt
    rw [rend_succ hlt] at h2
    have hp : (ls.getD k []).length ≤ 1048576 := by
      simp only [List.getD, List.getElem?_eq_getElem hlt, Option.getD_some]
      exact hb _ (List.getElem_mem hlt)
    have e : (recs ls).take m = recs (ls.take k) ++ (rec_ (ls.getD k [])).take (m - rend ls k) := by
      rw [recs_split hlt, List.take_append, List.take_of_length_le (show (recs (ls.take k)).length ≤ m from h1)]
      congr 1
      rw [List.take_append_of_le_length]
      · rfl
      · rw [rec_length]; unfold rend at h1 h2; omega
    rw [e, scan_all _ (fun p hp => hb p (List.mem_of_mem_take hp)), scan_short _ _ (by rw [rec_length]; omega) hp]
    simp [rend]
  · obtain rfl : k = ls.length := by omega
    have hr : rend ls ls.length = (recs ls).length := by unfold rend; rw [List.take_length]
    rw [List.take_of_length_le (by omega), List.take_length, hr]
    have := scan_all (ls := ls) [] hb
    rw [scan_nil, List.append_nil, List.append_nil] at this
    simpa using this
end
end Go.Proofs.Ytkbfjgmgckbogaa.Fr
