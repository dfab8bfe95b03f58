/-
  Texts that the proofs of this seat stand on, one behind the other: contracts of functions and plain lemmas. Conditions: those that each theorem states.
-/
import Derived.Test.YtkbfjgmgckbogaaGreatF10
import Derived.Laws.BitsAllLaws
/-
  Plain laws of chapter 2 (frame): a number in four bytes, records. No program here.
-/


namespace Go.Proofs.YtkbfjgmgckbogaaGreat.Fr
def four (v : Nat) : List UInt8 := [UInt8.ofNat v, UInt8.ofNat (v / 256), UInt8.ofNat (v / 65536), UInt8.ofNat (v / 16777216)]
def num4 (a b c d : UInt8) : Nat := a.toNat + 256 * b.toNat + 65536 * c.toNat + 16777216 * d.toNat
/-- the number of the first four bytes -/
def from4 (l : List UInt8) : Nat := num4 (l.getD 0 0) (l.getD 1 0) (l.getD 2 0) (l.getD 3 0)
def crc (l : List UInt8) : Nat := (Crc.sum l).toNat
def head (n : Nat) : List UInt8 := four n ++ four (crc (four n))
/-- a record -/
def rec_ (p : List UInt8) : List UInt8 := (head p.length ++ p) ++ four (crc (head p.length ++ p))
/-- what bytes begin with: the bytes, how many they were, the error -/
def unrec (b : List UInt8) : List UInt8 × Nat × Nat :=
  if b.length < 8 then ([], 0, 2)
  else if b.take 8 ≠ head (from4 b) then ([], 0, 4)
  else if 1048576 < from4 b then ([], 0, 5)
  else if b.length < 12 + from4 b then ([], 0, 2)
  else if from4 (b.drop (8 + from4 b)) ≠ crc (b.take (8 + from4 b)) then ([], 0, 4)
  else ((b.drop 8).take (from4 b), 12 + from4 b, 0)
theorem four_length (v : Nat) : (four v).length = 4 := rfl
theorem head_length (n : Nat) : (head n).length = 8 := rfl
theorem rec_length (p : List UInt8) : (rec_ p).length = 12 + p.length := by
  simp [rec_, head_length, four_length]; omega
theorem ofNat_toNat (v : Nat) : (UInt8.ofNat v).toNat = v % 256 := by rw [UInt8.toNat_ofNat']
theorem from4_four (v : Nat) (r : List UInt8) (h : v < 4294967296) : from4 (four v ++ r) = v := by
  show num4 (UInt8.ofNat v) (UInt8.ofNat (v / 256)) (UInt8.ofNat (v / 65536)) (UInt8.ofNat (v / 16777216)) = v
  unfold num4
  simp only [ofNat_toNat]
  omega
theorem crc_lt (l : List UInt8) : crc l < 4294967296 := (Crc.sum l).toNat_lt
theorem from4_lt (l : List UInt8) : from4 l < 4294967296 := by
  unfold from4 num4
  have h1 := (l.getD 0 0).toNat_lt
  have h2 := (l.getD 1 0).toNat_lt
  have h3 := (l.getD 2 0).toNat_lt
  have h4 := (l.getD 3 0).toNat_lt
  omega
theorem four_num4 (a b c d : UInt8) : four (num4 a b c d) = [a, b, c, d] := by
  have h1 := a.toNat_lt
  have h2 := b.toNat_lt
  have h3 := c.toNat_lt
  have h4 := d.toNat_lt
  unfold four num4
  have e1 : UInt8.ofNat (a.toNat + 256 * b.toNat + 65536 * c.toNat + 16777216 * d.toNat) = a := by
    apply UInt8.toNat_inj.1; rw [ofNat_toNat]; omega
  have e2 : UInt8.ofNat ((a.toNat + 256 * b.toNat + 65536 * c.toNat + 16777216 * d.toNat) / 256) = b := by
    apply UInt8.toNat_inj.1; rw [ofNat_toNat]; omega
  have e3 : UInt8.ofNat ((a.toNat + 256 * b.toNat + 65536 * c.toNat + 16777216 * d.toNat) / 65536) = c := by
    apply UInt8.toNat_inj.1; rw [ofNat_toNat]; omega
  have e4 : UInt8.ofNat ((a.toNat + 256 * b.toNat + 65536 * c.toNat + 16777216 * d.toNat) / 16777216) = d := by
    apply UInt8.toNat_inj.1; rw [ofNat_toNat]; omega
  rw [e1, e2, e3, e4]
theorem take4_cases (l : List UInt8) (h : 4 ≤ l.length) : ∃ a b c d r, l = a :: b :: c :: d :: r := by
  match l, h with
  | a :: b :: c :: d :: r, _ => exact ⟨a, b, c, d, r, rfl⟩
theorem four_from4 (l : List UInt8) (h : 4 ≤ l.length) : four (from4 l) = l.take 4 := by
  obtain ⟨a, b, c, d, r, rfl⟩ := take4_cases l h
  exact four_num4 a b c d
theorem from4_app (l r : List UInt8) (h : 4 ≤ l.length) : from4 (l ++ r) = from4 l := by
  obtain ⟨a, b, c, d, s, rfl⟩ := take4_cases l h
  rfl
theorem from4_take (l : List UInt8) (n : Nat) (h : 4 ≤ l.length) (hn : 4 ≤ n) : from4 (l.take n) = from4 l := by
  conv => rhs; rw [← List.take_append_drop n l]
  rw [from4_app _ _ (by rw [List.length_take]; omega)]
/-- the head of bytes is what it says, told by the second number -/
theorem head_iff (b : List UInt8) (h : 8 ≤ b.length) : b.take 8 = head (from4 b) ↔ from4 (b.drop 4) = crc (b.take 4) := by
  have e4 := four_from4 b (by omega)
  unfold head
  rw [e4]
  have e8 : b.take 8 = b.take 4 ++ (b.drop 4).take 4 := by
    rw [show 8 = 4 + 4 from rfl, List.take_add]
  rw [e8]
  constructor
  · intro h1
    have h2 := List.append_cancel_left h1
    have h3 := congrArg from4 h2
    rw [from4_take _ _ (by rw [List.length_drop]; omega) (Nat.le_refl _)] at h3
    rw [h3]
    have := from4_four (crc (b.take 4)) [] (crc_lt _)
    rwa [List.append_nil] at this
  · intro h1
    rw [← h1, four_from4 _ (by rw [List.length_drop]; omega)]
/-- a record is taken as it was laid -/
theorem unrec_rec (p r : List UInt8) (hp : p.length ≤ 1048576) : unrec (rec_ p ++ r) = (p, 12 + p.length, 0) := by
  have e1 : from4 (rec_ p ++ r) = p.length := by
    unfold rec_ head
    rw [List.append_assoc, List.append_assoc, List.append_assoc]
    exact from4_four _ _ (by omega)
  have e2 : (rec_ p ++ r).take 8 = head p.length := by
    unfold rec_
    rw [List.append_assoc, List.append_assoc]
    rw [show 8 = (head p.length).length from rfl]
    exact List.take_left
  have e3 : (rec_ p ++ r).take (8 + p.length) = head p.length ++ p := by
    unfold rec_
    rw [List.append_assoc, show 8 + p.length = (head p.length ++ p).length from by simp [head_length]]
    exact List.take_left
  have e4 : (rec_ p ++ r).drop (8 + p.length) = four (crc (head p.length ++ p)) ++ r := by
    unfold rec_
    rw [List.append_assoc, show 8 + p.length = (head p.length ++ p).length from by simp [head_length]]
    exact List.drop_left
  have e5 : ((rec_ p ++ r).drop 8).take p.length = p := by
    unfold rec_
    rw [List.append_assoc, List.append_assoc, show 8 = (head p.length).length from rfl, List.drop_left]
    exact List.take_left
  have hl : (rec_ p ++ r).length = 12 + p.length + r.length := by rw [List.length_append, rec_length]
  unfold unrec
  rw [e1, e2, e3, e4, e5, if_neg (by omega), if_neg (by simp), if_neg (by omega), if_neg (by omega), if_neg]
  rw [from4_four _ _ (crc_lt _)]
  simp
theorem unrec_ok (b : List UInt8) (h : (unrec b).2.2 = 0) : 8 ≤ b.length ∧ from4 (b.drop 4) = crc (b.take 4) ∧ from4 b ≤ 1048576 ∧ 12 + from4 b ≤ b.length ∧
    from4 (b.drop (8 + from4 b)) = crc (b.take (8 + from4 b)) ∧ unrec b = ((b.drop 8).take (from4 b), 12 + from4 b, 0) := by
  unfold unrec at h ⊢
  by_cases h1 : b.length < 8
  · rw [if_pos h1] at h; cases h
  · by_cases h2 : b.take 8 ≠ head (from4 b)
    · rw [if_neg h1, if_pos h2] at h; cases h
    · by_cases h3 : 1048576 < from4 b
      · rw [if_neg h1, if_neg h2, if_pos h3] at h; cases h
      · by_cases h4 : b.length < 12 + from4 b
        · rw [if_neg h1, if_neg h2, if_neg h3, if_pos h4] at h; cases h
        · by_cases h5 : from4 (b.drop (8 + from4 b)) ≠ crc (b.take (8 + from4 b))
          · rw [if_neg h1, if_neg h2, if_neg h3, if_neg h4, if_pos h5] at h; cases h
          · refine ⟨by omega, (head_iff b (by omega)).1 (by simpa using h2), by omega, by omega, by simpa using h5, ?_⟩
            rw [if_neg h1, if_neg h2, if_neg h3, if_neg h4, if_neg h5]
theorem unrec_bad (b : List UInt8) (h : (unrec b).2.2 ≠ 0) : (unrec b).1 = [] ∧ (unrec b).2.1 = 0 := by
  unfold unrec at h ⊢
  split
  · exact ⟨rfl, rfl⟩
  · rename_i h1
    rw [if_neg h1] at h
    split
    · exact ⟨rfl, rfl⟩
    · rename_i h2
      rw [if_neg h2] at h
      split
      · exact ⟨rfl, rfl⟩
      · rename_i h3
        rw [if_neg h3] at h
        split
        · exact ⟨rfl, rfl⟩
        · rename_i h4
          rw [if_neg h4] at h
          split
          · exact ⟨rfl, rfl⟩
          · rename_i h5
            rw [if_neg h5] at h
            exact absurd rfl h
theorem from4_inj (a b : List UInt8) (ha : 4 ≤ a.length) (hb : 4 ≤ b.length) (h : from4 a = from4 b) : a.take 4 = b.take 4 := by
  rw [← four_from4 a ha, ← four_from4 b hb, h]
theorem crc_set (l : List UInt8) (i : Nat) (y : UInt8) (hi : i < l.length) (hy : y ≠ l[i]) : crc (l.set i y) ≠ crc l := by
  intro h
  exact Crc.sum_set l i y hi hy (UInt32.toNat_inj.1 h)
theorem set_take_ne (l : List UInt8) (i : Nat) (y : UInt8) (hi : i < l.length) (h4 : i < 4) (hy : y ≠ l[i]) : (l.set i y).take 4 ≠ l.take 4 := by
  intro h
  have h2 := congrArg (fun x => x[i]?) h
  simp only [List.getElem?_take, if_pos h4] at h2
  rw [List.getElem?_set_self hi, List.getElem?_eq_getElem hi] at h2
  exact hy (Option.some.inj h2)
/-- one byte of a record is another one: it is refused -/
theorem unrec_set (X : List UInt8) (i : Nat) (y : UInt8) (hX : (unrec X).2.2 = 0) (hi : i < 12 + from4 X) (hl : i < X.length) (hy : y ≠ X[i]) : (unrec (X.set i y)).2.2 ≠ 0 := by
  intro h
  obtain ⟨a1, a2, a3, a4, a5, _⟩ := unrec_ok X hX
  obtain ⟨b1, b2, b3, b4, b5, _⟩ := unrec_ok _ h
  have hget : ∀ k (hk : i - k < (X.drop k).length), k ≤ i → (X.drop k)[i - k]'hk = X[i] := by
    intro k hk hki
    rw [List.getElem_drop]
    congr 1
    omega
  by_cases h4 : i < 4
  · rw [List.drop_set, if_pos (by omega), List.take_set, a2] at b2
    have hli : i < (X.take 4).length := by rw [List.length_take]; omega
    exact crc_set (X.take 4) i y hli (by rw [List.getElem_take]; exact hy) b2.symm
  · have e4 : (X.set i y).take 4 = X.take 4 := by rw [List.take_set, List.set_eq_of_length_le (by rw [List.length_take]; omega)]
    have en : from4 (X.set i y) = from4 X := by
      rw [← from4_take (X.set i y) 4 (by rw [List.length_set]; omega) (Nat.le_refl _), e4, from4_take X 4 (by omega) (Nat.le_refl _)]
    by_cases h8 : i < 8
    · rw [List.drop_set, if_neg (by omega), e4, ← a2] at b2
      have hdl : i - 4 < (X.drop 4).length := by rw [List.length_drop]; omega
      exact set_take_ne (X.drop 4) (i - 4) y hdl (by omega) (by rw [hget 4 hdl (by omega)]; exact hy) (from4_inj _ _ (by rw [List.length_set, List.length_drop]; omega) (by rw [List.length_drop]; omega) b2)
    · rw [en] at b5
      by_cases hn : i < 8 + from4 X
      · rw [List.drop_set, if_pos hn, List.take_set, a5] at b5
        have hli : i < (X.take (8 + from4 X)).length := by rw [List.length_take]; omega
        exact crc_set _ i y hli (by rw [List.getElem_take]; exact hy) b5.symm
      · rw [List.drop_set, if_neg hn, List.take_set, List.set_eq_of_length_le (l := X.take (8 + from4 X)) (by rw [List.length_take]; omega), ← a5] at b5
        have hdl : i - (8 + from4 X) < (X.drop (8 + from4 X)).length := by rw [List.length_drop]; omega
        exact set_take_ne (X.drop (8 + from4 X)) (i - (8 + from4 X)) y hdl (by omega) (by rw [hget _ hdl (by omega)]; exact hy) (from4_inj _ _ (by rw [List.length_set, List.length_drop]; omega) (by rw [List.length_drop]; omega) b5)
end Go.Proofs.YtkbfjgmgckbogaaGreat.Fr

/-
  Plain laws of chapter 2: one record, records one behind the other.
-/

namespace Go.Proofs.YtkbfjgmgckbogaaGreat.Fr
/-- what the bytes are, if they are a record -/
def unone (l : List UInt8) : List UInt8 × Nat := if (unrec l).2.2 = 0 ∧ (unrec l).2.1 ≠ l.length then ([], 3) else ((unrec l).1, (unrec l).2.2)
theorem unrec_step (l : List UInt8) (h : (unrec l).2.2 = 0) : 12 ≤ (unrec l).2.1 ∧ (unrec l).2.1 ≤ l.length ∧ (unrec l).1.length ≤ l.length := by
  obtain ⟨_, _, _, h4, _, h6⟩ := unrec_ok l h
  rw [h6]
  refine ⟨by simp, by simpa using h4, ?_⟩
  show ((l.drop 8).take (from4 l)).length ≤ _
  rw [List.length_take, List.length_drop]; omega
/-- all records from the beginning on, and where they end -/
def scan (l : List UInt8) : List (List UInt8) × Nat :=
  if _h : l ≠ [] ∧ (unrec l).2.2 = 0 then
    ((unrec l).1 :: (scan (l.drop (unrec l).2.1)).1, (unrec l).2.1 + (scan (l.drop (unrec l).2.1)).2)
  else ([], 0)
termination_by l.length
decreasing_by
  all_goals
    have := unrec_step l _h.2
    have := List.length_pos_iff.2 _h.1
    rw [List.length_drop]; omega
theorem scan_nil : scan [] = ([], 0) := by rw [scan, dif_neg (by simp)]
theorem scan_bad (l : List UInt8) (h : (unrec l).2.2 ≠ 0) : scan l = ([], 0) := by rw [scan, dif_neg (by simp [h])]
theorem scan_ok (l : List UInt8) (h0 : l ≠ []) (h : (unrec l).2.2 = 0) : scan l = ((unrec l).1 :: (scan (l.drop (unrec l).2.1)).1, (unrec l).2.1 + (scan (l.drop (unrec l).2.1)).2) := by
  rw [scan, dif_pos ⟨h0, h⟩]
theorem unone_rec (p : List UInt8) (hp : p.length ≤ 1048576) : unone (rec_ p) = (p, 0) := by
  have h := unrec_rec p [] hp
  rw [List.append_nil] at h
  unfold unone
  rw [h]
  simp [rec_length]
theorem unone_more (p r : List UInt8) (hp : p.length ≤ 1048576) (hr : 0 < r.length) : unone (rec_ p ++ r) = ([], 3) := by
  have h := unrec_rec p r hp
  unfold unone
  rw [h]
  simp [rec_length]
  intro h2
  subst h2
  simp at hr
/-- records that are laid one behind the other are found -/
theorem scan_recs : ∀ (ps : List (List UInt8)) (r : List UInt8), (∀ p ∈ ps, p.length ≤ 1048576) →
    scan ((ps.flatMap rec_) ++ r) = (ps ++ (scan r).1, (ps.flatMap rec_).length + (scan r).2)
  | [], r, _ => by simp
  | p :: ps, r, h => by
    have hp := h p (by simp)
    have hu : unrec (rec_ p ++ (ps.flatMap rec_ ++ r)) = (p, 12 + p.length, 0) := unrec_rec p _ hp
    have hd : (rec_ p ++ (ps.flatMap rec_ ++ r)).drop (12 + p.length) = ps.flatMap rec_ ++ r := by
      rw [← rec_length p]; exact List.drop_left
    rw [List.flatMap_cons, List.append_assoc, scan_ok _ (by
      intro e
      have := congrArg List.length e
      rw [List.length_append, rec_length] at this
      simp at this) (by rw [hu]), hu]
    simp only
    rw [hd, scan_recs ps r (fun q hq => h q (by simp [hq]))]
    simp only [List.cons_append, List.length_append, rec_length, Prod.mk.injEq, true_and]
    omega
theorem unrec_short (p : List UInt8) (m : Nat) (hm : m < (rec_ p).length) (hp : p.length ≤ 1048576) : (unrec ((rec_ p).take m)).2.2 ≠ 0 := by
  intro h
  obtain ⟨h1, _, _, h4, _, _⟩ := unrec_ok _ h
  have e : from4 ((rec_ p).take m) = p.length := by
    rw [List.length_take, rec_length] at h1
    rw [from4_take _ _ (by rw [rec_length]; omega) (by omega)]
    unfold rec_ head
    rw [List.append_assoc, List.append_assoc]
    exact from4_four _ _ (by omega)
  rw [e, List.length_take] at h4
  rw [rec_length] at hm h4
  omega
theorem scan_short (p : List UInt8) (m : Nat) (hm : m < (rec_ p).length) (hp : p.length ≤ 1048576) : scan ((rec_ p).take m) = ([], 0) := scan_bad _ (unrec_short p m hm hp)
/-- records laid one behind the other; where each ends -/
def recs (ls : List (List UInt8)) : List UInt8 := ls.flatMap rec_
def rend (ls : List (List UInt8)) (k : Nat) : Nat := (recs (ls.take k)).length
def rends (ls : List (List UInt8)) (k : Nat) : List Int := (List.range k).map fun j => (rend ls (j + 1) : Int)
section
variable {ls : List (List UInt8)} {k m : Nat}
theorem recs_append (a b : List (List UInt8)) : recs (a ++ b) = recs a ++ recs b := by simp [recs]
theorem recs_take_succ (hk : k < ls.length) : recs (ls.take (k + 1)) = recs (ls.take k) ++ rec_ (ls.getD k []) := by
  rw [List.take_succ_eq_append_getElem hk, recs_append]
  simp only [recs, List.flatMap_cons, List.flatMap_nil, List.append_nil, List.getD, List.getElem?_eq_getElem hk, Option.getD_some]
theorem rend_succ (hk : k < ls.length) : rend ls (k + 1) = rend ls k + (12 + (ls.getD k []).length) := by
  unfold rend
  rw [recs_take_succ hk, List.length_append, rec_length]
theorem rends_succ : rends ls (k + 1) = rends ls k ++ [(rend ls (k + 1) : Int)] := by simp [rends, List.range_succ]
theorem rends_length : (rends ls k).length = k := by simp [rends]
theorem rends_get {n : Nat} (h : k < n) : (rends ls n).getD k 0 = (rend ls (k + 1) : Int) := by simp [rends, List.getD, h]
theorem recs_split (hk : k < ls.length) : recs ls = recs (ls.take k) ++ (rec_ (ls.getD k []) ++ recs (ls.drop (k + 1))) := by
  conv => lhs; rw [← List.take_append_drop k ls, recs_append]
  congr 1
  show List.flatMap _ (ls.drop k) = _
  rw [List.drop_eq_getElem_cons hk, List.flatMap_cons]
  simp only [List.getD, List.getElem?_eq_getElem hk, Option.getD_some]
  rfl
theorem scan_all (r : List UInt8) (hb : ∀ p ∈ ls, p.length ≤ 1048576) : scan (recs ls ++ r) = (ls ++ (scan r).1, (recs ls).length + (scan r).2) := scan_recs ls r hb
/-- records that are cut short: those that are whole are found -/
theorem scan_cut (hb : ∀ p ∈ ls, p.length ≤ 1048576) (hk : k ≤ ls.length) (h1 : rend ls k ≤ m) (h2 : k < ls.length → m < rend ls (k + 1)) (hm : m ≤ (recs ls).length) :
    scan ((recs ls).take m) = (ls.take k, rend ls k) := by
  by_cases hlt : k < ls.length
  · have h2 := h2 hlt
    rw [rend_succ hlt] at h2
    have hp : (ls.getD k []).length ≤ 1048576 := by
      simp only [List.getD, List.getElem?_eq_getElem hlt, Option.getD_some]
      exact hb _ (List.getElem_mem hlt)
    have e : (recs ls).take m = recs (ls.take k) ++ (rec_ (ls.getD k [])).take (m - rend ls k) := by
      rw [recs_split hlt, List.take_append, List.take_of_length_le (show (recs (ls.take k)).length ≤ m from h1)]
      congr 1
      rw [List.take_append_of_le_length]
      · rfl
      · rw [rec_length]; unfold rend at h1 h2; omega
    rw [e, scan_all _ (fun p hp => hb p (List.mem_of_mem_take hp)), scan_short _ _ (by rw [rec_length]; omega) hp]
    simp [rend]
  · obtain rfl : k = ls.length := by omega
    have hr : rend ls ls.length = (recs ls).length := by unfold rend; rw [List.take_length]
    rw [List.take_of_length_le (by omega), List.take_length, hr]
    have := scan_all (ls := ls) [] hb
    rw [scan_nil, List.append_nil, List.append_nil] at this
    simpa using this
end
end Go.Proofs.YtkbfjgmgckbogaaGreat.Fr
