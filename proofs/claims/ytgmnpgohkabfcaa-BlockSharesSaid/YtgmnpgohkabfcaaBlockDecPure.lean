/-
  Bytes as cells (chapter 7), in plain mathematics: what is taken is what was laid.
-/
import Derived.Test.YtgmnpgohkabfcaaBlockEnc
import Derived.Test.YtgmnpgohkabfcaaOctetRd2
namespace Go.Proofs.Ytgmnpgohkabfcaa.Bl
open Oct L
/-- the cell that is taken behind one of a key; what is left; whether it erred -/
def cellD (ahead : ByteArray) (l : List UInt8) (bad : Bool) : Cl × List UInt8 × Bool :=
  let n := got 0 (dec 0 0 l)
  let l1 := left (dec 0 0 l)
  let b1 := bad || (dec 0 0 l).isNone
  let rest := got [] (decRow l1)
  let l2 := left (decRow l1)
  let b2 := b1 || (decRow l1).isNone
  if ahead.size < n then (default, [], true)
  else
    let seq := got 0 (dec 0 0 l2)
    let l3 := left (dec 0 0 l2)
    let b3 := b2 || (dec 0 0 l2).isNone
    let del := got 0 (dec 0 0 l3)
    let l4 := left (dec 0 0 l3)
    let b4 := b3 || (dec 0 0 l3).isNone
    if del = 0 then (⟨ahead.extract 0 n ++ ⟨rest.toArray⟩, ⟨(got [] (decRow l4)).toArray⟩, false, seq⟩, left (decRow l4), b4 || (decRow l4).isNone)
    else (⟨ahead.extract 0 n ++ ⟨rest.toArray⟩, ByteArray.empty, true, seq⟩, l4, b4)
theorem got_some {α : Type} (d x : α) (r : List UInt8) : got d (some (x, r)) = x := rfl
theorem left_some {α : Type} (x : α) (r : List UInt8) : left (some (x, r)) = r := rfl
theorem ba_ext {a b : ByteArray} (h : byts a = byts b) : a = b := by
  cases a with | mk x => cases b with | mk y =>
    simp only [byts] at h
    rw [Array.toList_inj.1 h]
theorem bytsAppend (a b : ByteArray) : byts (a ++ b) = byts a ++ byts b := by simp [byts]
theorem bytsTake (a : ByteArray) (n : Nat) : byts (a.extract 0 n) = (byts a).take n := by
  simp [byts, ByteArray.data_extract, Array.toList_extract, List.extract_eq_take_drop]
theorem bytsMk (l : List UInt8) : byts ⟨l.toArray⟩ = l := by simp [byts]
theorem clamp_seq {q : Int} (h : 1 ≤ q ∧ q ≤ 1099511627776) : (clamp q : Int) = q := by unfold clamp; omega
theorem isC_val {c : Cl} (h : isC c = true) (hd : c.del = true) : c.val = ByteArray.empty := by
  simp only [isC, Bool.and_eq_true, decide_eq_true_eq, Bool.or_eq_true, Bool.not_eq_true', hd, beq_iff_eq] at h
  have : c.val.toList = [] := by
    rcases h.1.1.2 with h | h
    · cases h
    · exact h
  refine ba_ext ?_
  have e : c.val.data.toList = c.val.toList := (ByteArray.toList_eq _).symm
  rw [byts, e, this]; rfl
/-- what was laid is taken -/
theorem cellD_enc {ahead : ByteArray} {n : Nat} {c : Cl} (r : List UInt8) (hn : n ≤ ahead.size) (hn2 : n ≤ c.key.size) (hp : (byts ahead).take n = (byts c.key).take n) (hc : isC c = true) : cellD ahead (encC n c ++ r) false = (c, r, false) := by
  have hk := isC_key hc
  have hq := isC_seq hc
  have hkey : ahead.extract 0 n ++ ⟨((byts c.key).drop n).toArray⟩ = c.key := by
    refine ba_ext ?_
    rw [bytsAppend, bytsTake, bytsMk ((byts c.key).drop n)]
    rw [hp, List.take_append_drop]
  have hl1 : ((byts c.key).drop n).length ≤ 4611686018427387904 := by rw [List.length_drop, byts_length]; omega
  have hl2 : (byts c.val).length ≤ 4611686018427387904 := by rw [byts_length]; omega
  have hsq := clamp_seq hq
  cases hd : c.del with
  | true =>
    have e : encC n c ++ r = enc n ++ (row ((byts c.key).drop n) ++ (enc (clamp c.seq) ++ (enc 1 ++ r))) := by
      simp [encC, hd, byts]
    have hv := isC_val hc hd
    rw [e]
    unfold cellD
    simp only [dec_enc n _ (by omega), got_some, left_some, decRow_row _ _ hl1, dec_enc _ _ (clamp_le c.seq), dec_enc 1 _ (by omega), Option.isNone_some, Bool.or_false]
    rw [if_neg (by omega), if_neg (by omega), hkey, hsq, ← hv]
    obtain ⟨a1, a2, a3, a4⟩ := c
    simp only at hd ⊢
    rw [hd]
  | false =>
    have e : encC n c ++ r = enc n ++ (row ((byts c.key).drop n) ++ (enc (clamp c.seq) ++ (enc 0 ++ (row (byts c.val) ++ r)))) := by
      simp [encC, hd, byts]
    rw [e]
    unfold cellD
    simp only [dec_enc n _ (by omega), got_some, left_some, decRow_row _ _ hl1, decRow_row _ _ hl2, dec_enc _ _ (clamp_le c.seq), dec_enc 0 _ (by omega), Option.isNone_some, Bool.or_false, if_true]
    have hv : (⟨(byts c.val).toArray⟩ : ByteArray) = c.val := ba_ext (by rw [bytsMk])
    rw [if_neg (by omega), hkey, hsq, hv]
    obtain ⟨a1, a2, a3, a4⟩ := c
    simp only at hd ⊢
    rw [hd]
theorem left_decRow (l : List UInt8) : (left (decRow l)).length ≤ l.length := by
  unfold decRow
  cases hd : dec 0 0 l with
  | none => simp [left]
  | some p =>
    obtain ⟨n, r⟩ := p
    have := dec_length l 0 0 n r hd
    by_cases h : n ≤ r.length
    · simp [left, h]; omega
    · simp [left, h]
theorem got_decRow (l : List UInt8) : (got [] (decRow l)).length ≤ l.length := by
  unfold decRow
  cases hd : dec 0 0 l with
  | none => simp [got]
  | some p =>
    obtain ⟨n, r⟩ := p
    have := dec_length l 0 0 n r hd
    by_cases h : n ≤ r.length
    · simp [got, h]; omega
    · simp [got, h]
theorem left_dec' (l : List UInt8) : (left (dec 0 0 l)).length ≤ l.length := by
  cases hd : dec 0 0 l with
  | none => simp [left]
  | some p =>
    obtain ⟨n, r⟩ := p
    have := dec_length l 0 0 n r hd
    simp [left]; omega
theorem left_dec_lt (l : List UInt8) (h : l ≠ []) : (left (dec 0 0 l)).length < l.length := by
  cases hd : dec 0 0 l with
  | none => simpa [left] using List.length_pos_iff.2 h
  | some p =>
    obtain ⟨n, r⟩ := p
    have := dec_length l 0 0 n r hd
    simp [left]; omega
theorem cellD_lt (ahead : ByteArray) (l : List UInt8) (bad : Bool) (h : l ≠ []) : (cellD ahead l bad).2.1.length < l.length := by
  have h1 := left_dec_lt l h
  have h2 := left_decRow (left (dec 0 0 l))
  have h3 := left_dec' (left (decRow (left (dec 0 0 l))))
  have h4 := left_dec' (left (dec 0 0 (left (decRow (left (dec 0 0 l))))))
  have h5 := left_decRow (left (dec 0 0 (left (dec 0 0 (left (decRow (left (dec 0 0 l))))))))
  unfold cellD
  simp only
  split
  · simpa using List.length_pos_iff.2 h
  · split
    · simp only; omega
    · simp only; omega
theorem cellD_get {ahead : ByteArray} {l l1 l2 l3 l4 x : List UInt8} {bad b1 b2 b3 b4 : Bool} {n q d : Nat} (hn : n = got 0 (dec 0 0 l)) (h1 : l1 = left (dec 0 0 l)) (g1 : b1 = (bad || (dec 0 0 l).isNone))
    (hx : x = got [] (decRow l1)) (h2 : l2 = left (decRow l1)) (g2 : b2 = (b1 || (decRow l1).isNone)) (hq : q = got 0 (dec 0 0 l2)) (h3 : l3 = left (dec 0 0 l2)) (g3 : b3 = (b2 || (dec 0 0 l2).isNone))
    (hd : d = got 0 (dec 0 0 l3)) (h4 : l4 = left (dec 0 0 l3)) (g4 : b4 = (b3 || (dec 0 0 l3).isNone)) :
    cellD ahead l bad = if ahead.size < n then (default, [], true) else if d = 0 then (⟨ahead.extract 0 n ++ ⟨x.toArray⟩, ⟨(got [] (decRow l4)).toArray⟩, false, (q : Int)⟩, left (decRow l4), b4 || (decRow l4).isNone)
      else (⟨ahead.extract 0 n ++ ⟨x.toArray⟩, ByteArray.empty, true, (q : Int)⟩, l4, b4) := by
  subst hn h1 g1 hx h2 g2 hq h3 g3 hd h4 g4
  rfl
/-- the fourth number of a cell -/
def delOf (l : List UInt8) : Nat := got 0 (dec 0 0 (left (dec 0 0 (left (decRow (left (dec 0 0 l)))))))
theorem delOf_enc {n : Nat} {c : Cl} (r : List UInt8) (hn2 : n ≤ c.key.size) (hc : isC c = true) : delOf (encC n c ++ r) ≤ 1 := by
  have hk := isC_key hc
  have hl1 : ((byts c.key).drop n).length ≤ 4611686018427387904 := by rw [List.length_drop, byts_length]; omega
  unfold delOf
  cases hd : c.del with
  | true =>
    have e : encC n c ++ r = enc n ++ (row ((byts c.key).drop n) ++ (enc (clamp c.seq) ++ (enc 1 ++ r))) := by
      simp [encC, hd, byts]
    rw [e]
    simp only [dec_enc n _ (by omega), got_some, left_some, decRow_row _ _ hl1, dec_enc _ _ (clamp_le c.seq), dec_enc 1 _ (by omega)]
    omega
  | false =>
    have e : encC n c ++ r = enc n ++ (row ((byts c.key).drop n) ++ (enc (clamp c.seq) ++ (enc 0 ++ (row (byts c.val) ++ r)))) := by
      simp [encC, hd, byts]
    rw [e]
    simp only [dec_enc n _ (by omega), got_some, left_some, decRow_row _ _ hl1, dec_enc _ _ (clamp_le c.seq), dec_enc 0 _ (by omega)]
    omega
/-- bytes are these cells -/
def DecOk (b : List UInt8) (l : List Cl) : Prop := riseN l = 0 ∧ encL l = b
/-- the key of the last cell -/
def lastKey (l : List Cl) : ByteArray := if l = [] then ByteArray.empty else (l.getD (l.length - 1) default).key
/-- so far the cells that were taken are those that were laid -/
def Follow (b : List UInt8) (ll : List Cl) (rest : List UInt8) (bad : Bool) : Prop :=
  ∀ l0, DecOk b l0 → bad = false ∧ ∃ k, k ≤ l0.length ∧ ll = l0.take k ∧ encUp l0 k ++ rest = b
theorem follow_start (b : List UInt8) : Follow b [] b false := fun l0 _ => ⟨rfl, 0, Nat.zero_le _, by simp, by simp [encUp]⟩
theorem encUp_tail (l : List Cl) : ∀ d k, k + d = l.length → ∃ t, encUp l l.length = encUp l k ++ t
  | 0, k, h => by obtain rfl : k = l.length := by omega
                  exact ⟨[], by simp⟩
  | d + 1, k, h => by
    obtain ⟨t, ht⟩ := encUp_tail l d (k + 1) (by omega)
    exact ⟨encC (nAt l k) (l.getD k default) ++ t, by rw [ht, encUp, List.append_assoc]⟩
theorem encC_pos (n : Nat) (c : Cl) : 0 < (encC n c).length := by
  have := enc_pos n
  simp only [encC, List.length_append]
  omega
theorem follow_lt {b : List UInt8} {l0 : List Cl} {k : Nat} {rest : List UInt8} (h0 : DecOk b l0) (hk : k ≤ l0.length) (hr : encUp l0 k ++ rest = b) : rest ≠ [] → k < l0.length := by
  intro hne
  by_cases h : k = l0.length
  · subst h
    have := h0.2
    rw [encL, ← List.append_nil (encUp l0 l0.length)] at this
    rw [← this] at hr
    exact (hne (List.append_cancel_left hr)).elim
  · omega
theorem follow_step {b : List UInt8} {ll : List Cl} {rest : List UInt8} {bad : Bool} (h : Follow b ll rest bad) (hne : rest ≠ []) :
    Follow b (ll ++ [(cellD (lastKey ll) rest bad).1]) (cellD (lastKey ll) rest bad).2.1 (cellD (lastKey ll) rest bad).2.2 := by
  intro l0 h0
  obtain ⟨rfl, k, hk, rfl, hr⟩ := h l0 h0
  have hlt := follow_lt h0 hk hr hne
  obtain ⟨t, ht⟩ := encUp_tail l0 (l0.length - (k + 1)) (k + 1) (by omega)
  have hall := riseN_all h0.1
  have hrest : rest = encC (nAt l0 k) (l0.getD k default) ++ t := by
    have e := h0.2
    rw [encL, ht, encUp, List.append_assoc, ← hr] at e
    exact (List.append_cancel_left e).symm
  have hc : isC (l0.getD k default) = true := hall _ (by rw [getD_get hlt]; exact List.getElem_mem _)
  have hn2 := nAt_le l0 k
  have hpre : nAt l0 k ≤ (lastKey (l0.take k)).size ∧ (byts (lastKey (l0.take k))).take (nAt l0 k) = (byts (l0.getD k default).key).take (nAt l0 k) := by
    by_cases h4 : k % 4 = 0
    · have : nAt l0 k = 0 := by rw [nAt, if_pos h4]
      rw [this]; simp
    · have hk1 : 1 ≤ k := by omega
      have hlk : lastKey (l0.take k) = (l0.getD (k - 1) default).key := by
        have hl : (l0.take k).length = k := by rw [List.length_take]; omega
        have hne : l0.take k ≠ [] := by intro e; rw [e] at hl; simp at hl; omega
        rw [lastKey, if_neg hne, hl]
        simp [List.getD, show k - 1 < k by omega]
      have e : nAt l0 k = sharedN (byts (l0.getD (k - 1) default).key) (byts (l0.getD k default).key) := by rw [nAt, if_neg h4]; rfl
      have hs := sharedN_le (byts (l0.getD (k - 1) default).key) (byts (l0.getD k default).key)
      rw [hlk, e]
      exact ⟨by have := hs.1; rwa [byts_length] at this, hs.2.2⟩
  have hD := cellD_enc t hpre.1 hn2 hpre.2 hc
  rw [hrest, hD]
  refine ⟨rfl, k + 1, by omega, ?_, ?_⟩
  · rw [List.take_succ_eq_append_getElem hlt, getD_get hlt]
  · rw [encUp, List.append_assoc, ← hrest]; exact hr
theorem follow_del {b : List UInt8} {ll : List Cl} {rest : List UInt8} {bad : Bool} (h : Follow b ll rest bad) (hne : rest ≠ []) {l0 : List Cl} (h0 : DecOk b l0) : delOf rest ≤ 1 := by
  obtain ⟨rfl, k, hk, rfl, hr⟩ := h l0 h0
  have hlt := follow_lt h0 hk hr hne
  obtain ⟨t, ht⟩ := encUp_tail l0 (l0.length - (k + 1)) (k + 1) (by omega)
  have hrest : rest = encC (nAt l0 k) (l0.getD k default) ++ t := by
    have e := h0.2
    rw [encL, ht, encUp, List.append_assoc, ← hr] at e
    exact (List.append_cancel_left e).symm
  have hc : isC (l0.getD k default) = true := riseN_all h0.1 _ (by rw [getD_get hlt]; exact List.getElem_mem _)
  rw [hrest]
  exact delOf_enc t (nAt_le l0 k) hc
theorem follow_key {b : List UInt8} {ll : List Cl} {c : Cl} {rest : List UInt8} {bad : Bool} (h : Follow b (ll ++ [c]) rest bad) {l0 : List Cl} (h0 : DecOk b l0) : isC c = true ∧ bad = false := by
  obtain ⟨rfl, k, hk, he, hr⟩ := h l0 h0
  have : c ∈ l0.take k := by rw [← he]; simp
  exact ⟨riseN_all h0.1 c (List.mem_of_mem_take this), rfl⟩
theorem follow_end {b : List UInt8} {ll : List Cl} {bad : Bool} (h : Follow b ll [] bad) {l0 : List Cl} (h0 : DecOk b l0) : ll = l0 ∧ bad = false := by
  obtain ⟨rfl, k, hk, he, hr⟩ := h l0 h0
  refine ⟨?_, rfl⟩
  by_cases hlt : k < l0.length
  · exfalso
    obtain ⟨t, ht⟩ := encUp_tail l0 (l0.length - (k + 1)) (k + 1) (by omega)
    have e := h0.2
    rw [encL, ht, ← hr, encUp, List.append_nil, List.append_assoc] at e
    have := congrArg List.length e
    simp only [List.length_append] at this
    have hp := encC_pos (nAt l0 k) (l0.getD k default)
    omega
  · rw [he, List.take_of_length_le (by omega)]
def decGo : Nat → List Cl → List UInt8 → Bool → List Cl
  | 0, ll, _, _ => ll
  | f + 1, ll, rest, bad => if rest = [] then ll else decGo f (ll ++ [(cellD (lastKey ll) rest bad).1]) (cellD (lastKey ll) rest bad).2.1 (cellD (lastKey ll) rest bad).2.2
theorem decGo_follow {b : List UInt8} {l0 : List Cl} (h0 : DecOk b l0) : ∀ (f : Nat) (ll : List Cl) (rest : List UInt8) (bad : Bool), rest.length ≤ f → Follow b ll rest bad → decGo f ll rest bad = l0
  | 0, ll, rest, bad, hl, h => by
    obtain rfl : rest = [] := List.eq_nil_of_length_eq_zero (by omega)
    exact (follow_end h h0).1
  | f + 1, ll, rest, bad, hl, h => by
    unfold decGo
    by_cases hne : rest = []
    · rw [if_pos hne]; subst hne; exact (follow_end h h0).1
    · rw [if_neg hne]
      exact decGo_follow h0 f _ _ _ (by have := cellD_lt (lastKey ll) rest bad hne; omega) (follow_step h hne)
theorem decOk_one {b : List UInt8} {l m : List Cl} (h : DecOk b l) (h' : DecOk b m) : l = m :=
  (decGo_follow h b.length [] b false (Nat.le_refl _) (follow_start b)).symm.trans (decGo_follow h' b.length [] b false (Nat.le_refl _) (follow_start b))
end Go.Proofs.Ytgmnpgohkabfcaa.Bl
