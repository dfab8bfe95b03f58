/-
  Texts that the proofs of this seat stand on, one behind the other: contracts of functions and plain lemmas. Conditions: those that each theorem states.
-/
import Derived.Test.YtkbfjgmgckbogaaLedOpen
import Derived.Test.YtkbfjgmgckbogaaLedAppend
import Derived.Test.YtkbfjgmgckbogaaF13
/-
  What a ledger's log says (chapter 5), plain.
-/



namespace Go.Proofs.Ytkbfjgmgckbogaa.Ld
open Go.RowKit L Oct Dsk Fr Kp
theorem recL_enc {n : Nat} (p : List UInt8) (hn : n ≤ 4611686018427387904) : recL n p = enc n ++ row p := by
  unfold recL
  have e1 : encs [(n : Int)] = enc n := by
    unfold encs
    have : clamp (n : Int) = n := by unfold clamp; omega
    simp [this]
  rw [e1]
  simp [rows]
theorem rec_of {n : Nat} {p : List UInt8} (hn : n ≤ 4611686018427387904) (hp : p.length ≤ 4611686018427387904) : recN (recL n p) = n ∧ recB (recL n p) = p ∧ recW (recL n p) = true := by
  have h1 : dec 0 0 (recL n p) = some (n, row p) := by rw [recL_enc p hn, dec_enc n (row p) hn]
  have h2 : decRow (row p) = some (p, []) := by
    have := decRow_row p [] hp
    rwa [List.append_nil] at this
  have h3 : left (dec 0 0 (recL n p)) = row p := by rw [h1]; rfl
  refine ⟨by rw [recN, h1]; rfl, by rw [recB, h3, h2]; rfl, ?_⟩
  rw [recW, h3, h2, h1]; rfl
/-- the records of entries, from a number on -/
def recsL : Nat → List (List UInt8) → List (List UInt8)
  | _, [] => []
  | n, p :: r => recL n p :: recsL (n + 1) r
def logB (n : Nat) (E : List (List UInt8)) : List UInt8 := (recsL n E).flatMap rec_
theorem recsL_snoc : ∀ (E : List (List UInt8)) (n : Nat) (p : List UInt8), recsL n (E ++ [p]) = recsL n E ++ [recL (n + E.length) p]
  | [], n, p => by simp [recsL]
  | q :: E, n, p => by
    simp only [List.cons_append, recsL, recsL_snoc E (n + 1) p, List.length_cons]
    rw [show n + 1 + E.length = n + (E.length + 1) from by omega]
theorem logB_snoc (n : Nat) (E : List (List UInt8)) (p : List UInt8) : logB n (E ++ [p]) = logB n E ++ rec_ (recL (n + E.length) p) := by
  unfold logB
  rw [recsL_snoc, List.flatMap_append]
  simp
/-- all records that go on behind the ledger are taken in -/
theorem takes_run : ∀ (E : List (List UInt8)) (last : Int) (g : Lg), (∀ p ∈ E, p.length ≤ 1000000) → g.last + E.length ≤ 1099511627776 → (0 ≤ last → last = g.last) → takesAll last g (recsL (g.last + 1) E) = (true, { g with ents := g.ents ++ E })
  | [], last, g, _, _, _ => by simp [recsL, takesAll]
  | p :: E, last, g, hE, hb, hl => by
    have hp := hE p (List.mem_cons_self ..)
    simp only [List.length_cons] at hb
    obtain ⟨r1, r2, r3⟩ := rec_of (n := g.last + 1) (p := p) (by omega) (by omega)
    have ht : takes last g (recL (g.last + 1) p) = (true, ((g.last + 1 : Nat) : Int), { g with ents := g.ents ++ [p] }) := by
      unfold takes
      rw [r1, r2, if_pos ⟨r3, by omega, by omega, fun h => by rw [hl h]; omega⟩, if_neg (by unfold Lg.last; omega), if_pos rfl]
    have hl2 : ({ g with ents := g.ents ++ [p] } : Lg).last = g.last + 1 := by show g.base + (g.ents ++ [p]).length = g.base + g.ents.length + 1; simp; omega
    rw [recsL, takesAll, ht, if_pos rfl]
    have ih := takes_run E ((g.last + 1 : Nat) : Int) { g with ents := g.ents ++ [p] } (fun q hq => hE q (List.mem_cons_of_mem _ hq)) (by rw [hl2]; omega) (fun _ => by rw [hl2])
    rw [hl2] at ih
    show takesAll ((g.last + 1 : Nat) : Int) { g with ents := g.ents ++ [p] } (recsL (g.last + 1 + 1) E) = _
    rw [ih]
    simp
/-- a record that is cut short is none -/
theorem unrec_short {p : List UInt8} (hp : p.length ≤ 1048576) {k : Nat} (hk : k < (rec_ p).length) : (unrec ((rec_ p).take k)).2.2 ≠ 0 := by
  intro h
  obtain ⟨a1, _, _, a4, _, _⟩ := unrec_ok _ h
  have hlen : ((rec_ p).take k).length = k := by rw [List.length_take]; omega
  have h0 := unrec_rec p [] hp
  rw [List.append_nil] at h0
  obtain ⟨b1, _, _, _, _, b6⟩ := unrec_ok (rec_ p) (by rw [h0])
  rw [h0] at b6
  have hf : from4 (rec_ p) = p.length := by
    have := congrArg (fun x => x.2.1) b6
    simp only at this
    omega
  rw [hlen] at a1 a4
  rw [from4_take _ _ (by omega) (by omega), hf] at a4
  rw [rec_length] at hk
  omega
theorem scan_short {p : List UInt8} (hp : p.length ≤ 1048576) {k : Nat} (hk : k < (rec_ p).length) : scan ((rec_ p).take k) = ([], 0) := scan_bad _ (unrec_short hp hk)
theorem recsL_len : ∀ (E : List (List UInt8)) (n : Nat), (∀ p ∈ E, p.length ≤ 1000000) → ∀ q ∈ recsL n E, q.length ≤ 1048576
  | [], _, _, q, hq => by cases hq
  | p :: E, n, h, q, hq => by
    rcases List.mem_cons.1 hq with rfl | hq
    · have := recL_length n p (by have := h p (List.mem_cons_self ..); omega)
      have := h p (List.mem_cons_self ..)
      omega
    · exact recsL_len E (n + 1) (fun r hr => h r (List.mem_cons_of_mem _ hr)) q hq
/-- a log, and a record behind it that is cut short, or nothing -/
theorem scan_log {E : List (List UInt8)} {n : Nat} (h : ∀ p ∈ E, p.length ≤ 1000000) {p : List UInt8} (hp : p.length ≤ 1048576) {k : Nat} (hk : k < (rec_ p).length) :
    scan (logB n E ++ (rec_ p).take k) = (recsL n E, (logB n E).length) := by
  have := scan_recs (recsL n E) ((rec_ p).take k) (recsL_len E n h)
  rw [scan_short hp hk] at this
  unfold logB
  rw [this]
  simp
theorem scan_all {E : List (List UInt8)} {n : Nat} (h : ∀ p ∈ E, p.length ≤ 1000000) : scan (logB n E) = (recsL n E, (logB n E).length) := by
  have := scan_recs (recsL n E) [] (recsL_len E n h)
  rw [scan_nil, List.append_nil] at this
  unfold logB
  rw [this]
  simp
end Go.Proofs.Ytkbfjgmgckbogaa.Ld

/-
  What Open makes of a log without an image (chapter 5), plain.
-/

namespace Go.Proofs.Ytkbfjgmgckbogaa.Ld
open Go.RowKit L Oct Dsk Fr Kp
theorem app_inj {a b c : ByteArray} (h : a ++ b = a ++ c) : b = c := by
  have h2 := congrArg (fun x : ByteArray => x.data.toList) h
  simp only [ByteArray.data_append, Array.toList_append] at h2
  exact ByteArray.ext (Array.toList_inj.1 (List.append_cancel_left h2))
theorem img_log (pre : ByteArray) : imgN pre ≠ logN pre := fun h => by
  have := app_inj h
  revert this; decide
theorem sh_img (pre : ByteArray) : sh (imgN pre) ≠ imgN pre := fun h => by
  have := congrArg ByteArray.size h
  unfold sh at this
  rw [ByteArray.size_append] at this
  have e : (⟨#[126]⟩ : ByteArray).size = 1 := rfl
  omega
theorem sh_log (pre : ByteArray) : sh (imgN pre) ≠ logN pre := fun h => by
  have := congrArg ByteArray.size h
  unfold sh imgN logN at this
  rw [ByteArray.size_append, ByteArray.size_append, ByteArray.size_append] at this
  have e : (⟨#[126]⟩ : ByteArray).size = 1 := rfl
  have e2 : sImg.size = 4 := rfl
  have e3 : sLog.size = 4 := rfl
  omega
theorem names_ok {pre : ByteArray} (hp : pre.size ≤ 20) : nameOk (imgN pre) = true ∧ nameOk (logN pre) = true ∧ nameOk (sh (imgN pre)) = true := by
  have e : (⟨#[126]⟩ : ByteArray).size = 1 := rfl
  have e2 : sImg.size = 4 := rfl
  have e3 : sLog.size = 4 := rfl
  unfold nameOk sh imgN logN
  simp only [ByteArray.size_append, Bool.and_eq_true, decide_eq_true_eq]
  omega
theorem fv_some {d : D} {s : ByteArray} {y : List UInt8 × Nat} (h : fv d s = some y) : ∃ f, getF d.fs s = some f ∧ f.data = y.1 ∧ f.lasts = y.2 := by
  unfold fv at h
  cases hg : getF d.fs s with
  | none => rw [hg] at h; cases h
  | some f =>
    rw [hg] at h
    have : (f.data, f.lasts) = y := by simpa using h
    exact ⟨f, rfl, by rw [← this], by rw [← this]⟩
theorem fv_none {d : D} {s : ByteArray} (h : fv d s = none) : getF d.fs s = none := by
  unfold fv at h
  cases hg : getF d.fs s with
  | none => rfl
  | some f => rw [hg] at h; cases h
theorem remove_fused (d : D) (s : ByteArray) : (d.remove [s]).1.fused = d.fused := by
  unfold D.remove eachF
  split
  · split
    · rfl
    · show ({ d with fs := _ } : D).done.fused = d.fused
      rw [done_fused]
  · rfl
theorem sync_fused (d : D) (s : ByteArray) : (d.sync [s]).1.fused = d.fused ∧ (d.sync [s]).1.room = d.room := by
  unfold D.sync eachF
  split
  · split
    · exact ⟨rfl, rfl⟩
    · show ({ d with fs := _ } : D).done.fused = d.fused ∧ ({ d with fs := _ } : D).done.room = d.room
      rw [done_fused, done_room]
      exact ⟨rfl, rfl⟩
  · exact ⟨rfl, rfl⟩
theorem trunc_fused (d : D) (s : ByteArray) (k : Int) : (d.truncate s k).1.fused = d.fused ∧ (d.truncate s k).1.room = d.room := by
  unfold D.truncate
  split
  · split
    · exact ⟨rfl, rfl⟩
    · split
      · exact ⟨rfl, rfl⟩
      · show ({ d with fs := _ } : D).done.fused = d.fused ∧ ({ d with fs := _ } : D).done.room = d.room
        rw [done_fused, done_room]
        exact ⟨rfl, rfl⟩
  · exact ⟨rfl, rfl⟩
/-- what was not finished goes -/
theorem clears_v {d : D} {pre : ByteArray} (hfu : d.fused = false) (hp : pre.size ≤ 20) :
    (clears d pre).2 = 0 ∧ fv (clears d pre).1 = upV (fv d) (sh (imgN pre)) none ∧ (clears d pre).1.fused = false ∧ (clears d pre).1.room = d.room := by
  unfold clears removes
  cases hg : getF d.fs (sh (imgN pre)) with
  | none =>
    refine ⟨rfl, funext fun t => ?_, hfu, rfl⟩
    unfold upV
    by_cases ht : t = sh (imgN pre)
    · rw [if_pos ht, ht]
      show fv d (sh (imgN pre)) = none
      unfold fv; rw [hg]; rfl
    · rw [if_neg ht]; rfl
  | some f =>
    obtain ⟨h1, h2⟩ := remove_v (names_ok hp).2.2 (fun h => by rw [hfu] at h; cases h) (by rw [hg]; rfl : (getF d.fs (sh (imgN pre))).isSome = true)
    rw [if_neg (by simp), if_pos h1]
    exact ⟨rfl, h2, by show (d.remove [sh (imgN pre)]).1.fused = false; rw [remove_fused]; exact hfu, remove_room d _⟩
/-- Open, where there is no image: the log's whole entries -/
theorem open_log {d : D} {pre : ByteArray} (hfu : d.fused = false) (hp : pre.size ≤ 20) (himg : fv d (imgN pre) = none) {E : List (List UInt8)} {tail : List UInt8} {l : Nat} (hE : ∀ p ∈ E, p.length ≤ 1000000) (hEl : E.length ≤ 1000000)
    (htl : tail = [] ∨ ∃ p k, p.length ≤ 1048576 ∧ k < (rec_ p).length ∧ tail = (rec_ p).take k) (hlog : fv d (logN pre) = some (logB 1 E ++ tail, l)) :
    ∃ d2, openL d pre = (d2, { new pre with ents := E }, 0) ∧ d2.fused = false ∧ d2.room = d.room ∧
      ∃ l2, fv d2 = upV (upV (fv d) (sh (imgN pre)) none) (logN pre) (if E = [] then none else some (logB 1 E, l2)) ∧ (l = (logB 1 E ++ tail).length → l2 = (logB 1 E).length) := by
  obtain ⟨n1, n2, n3⟩ := names_ok hp
  obtain ⟨c1, c2, c3, c4⟩ := clears_v hfu hp
  obtain ⟨d1, hd1⟩ : ∃ d1, d1 = (clears d pre).1 := ⟨_, rfl⟩
  rw [← hd1] at c2 c3 c4
  have f1 : fv d1 (imgN pre) = none := by
    rw [c2]; unfold upV; rw [if_neg (fun h => sh_img pre h.symm)]; exact himg
  have f2 : fv d1 (logN pre) = some (logB 1 E ++ tail, l) := by
    rw [c2]; unfold upV; rw [if_neg (fun h => sh_log pre h.symm)]; exact hlog
  have him : image d1 (new pre) = (new pre, 0) := by
    have hl : Kp.load d1 (imgN pre) = ([], 7) := by
      unfold Kp.load; rw [fv_none f1]
    unfold image
    show (if (Kp.load d1 (imgN pre)).2 = 7 then _ else _) = _
    rw [hl, if_pos rfl]
  have ho : openL d pre = log d1 (new pre) := by
    unfold openL
    rw [if_pos c1, ← hd1, him, if_pos rfl]
  have hsc : scan (logB 1 E ++ tail) = (recsL 1 E, (logB 1 E).length) := by
    rcases htl with rfl | ⟨p, k, h1, h2, rfl⟩
    · rw [List.append_nil]; exact scan_all hE
    · exact scan_log hE h1 h2
  have htk : takesAll (-1) (new pre) (recsL 1 E) = (true, { new pre with ents := E }) := by
    have := takes_run E (-1) (new pre) hE (by show 0 + 0 + _ ≤ _; omega) (fun h => by omega)
    exact this
  obtain ⟨f, g1, g2, g3⟩ := fv_some f2
  have hlg : log d1 (new pre) = ((logCut d1 pre (logB 1 E).length (logB 1 E ++ tail).length E.isEmpty).1, { new pre with ents := E }, (logCut d1 pre (logB 1 E).length (logB 1 E ++ tail).length E.isEmpty).2) := by
    unfold log
    show (match getF d1.fs (logN pre) with | none => _ | some f => _) = _
    rw [g1]
    show (if (takesAll (-1) (new pre) (scan f.data).1).1 then _ else _) = _
    rw [g2, hsc]
    show (if (takesAll (-1) (new pre) (recsL 1 E)).1 then _ else _) = _
    rw [htk, if_pos rfl]
    rfl
  have hff : ∀ {d : D}, d.fused = false → d.fused = true → d.left ≠ 0 := fun h h2 => by rw [h] at h2; cases h2
  -- the cut
  have hcut : ∃ d2 l2, logCut d1 pre (logB 1 E).length (logB 1 E ++ tail).length E.isEmpty = logEnd d2 pre E.isEmpty ∧ d2.fused = false ∧ d2.room = d.room ∧ fv d2 = upV (fv d1) (logN pre) (some (logB 1 E, l2)) ∧ (l = (logB 1 E ++ tail).length → l2 = (logB 1 E).length) := by
    by_cases ht : tail = []
    · subst ht
      refine ⟨d1, l, ?_, c3, c4, funext fun t => ?_, fun h => by simpa using h⟩
      · unfold logCut; rw [if_neg (by simp)]
      · unfold upV
        by_cases h : t = logN pre
        · rw [if_pos h, h, f2]; simp
        · rw [if_neg h]
    · have hlt : (logB 1 E).length < (logB 1 E ++ tail).length := by
        rw [List.length_append]
        have := List.length_pos_iff.2 ht
        omega
      obtain ⟨t1, t2⟩ := truncate_v (k := (logB 1 E).length) n2 (hff c3) f2 (Nat.le_of_lt hlt)
      rw [List.take_left' rfl] at t2
      obtain ⟨u1, u2⟩ := trunc_fused d1 (logN pre) ((logB 1 E).length : Int)
      have f3 : fv (d1.truncate (logN pre) ((logB 1 E).length : Int)).1 (logN pre) = some (logB 1 E, min l (logB 1 E).length) := by
        rw [t2]; unfold upV; rw [if_pos rfl]
      obtain ⟨s1, s2⟩ := sync_v n2 (hff (u1.trans c3)) f3
      obtain ⟨v1, v2⟩ := sync_fused (d1.truncate (logN pre) ((logB 1 E).length : Int)).1 (logN pre)
      refine ⟨_, (logB 1 E).length, ?_, v1.trans (u1.trans c3), v2.trans (u2.trans c4), ?_, fun _ => rfl⟩
      · unfold logCut
        rw [if_pos hlt, if_pos t1, if_pos s1]
      · rw [s2, t2]
        funext t
        unfold upV
        by_cases h : t = logN pre
        · rw [if_pos h, if_pos h]
        · rw [if_neg h, if_neg h, if_neg h]
  obtain ⟨d2, l2, e2, q1, q2, q3, q4⟩ := hcut
  rw [ho, hlg, e2]
  by_cases hem : E = []
  · subst hem
    have f4 : (getF d2.fs (logN pre)).isSome = true := by
      have : fv d2 (logN pre) = some (logB 1 [], l2) := by rw [q3]; unfold upV; rw [if_pos rfl]
      obtain ⟨f, hf, _⟩ := fv_some this
      rw [hf]; rfl
    obtain ⟨r1, r2⟩ := remove_v n2 (hff q1) f4
    refine ⟨(d2.remove [logN pre]).1, ?_, by rw [remove_fused]; exact q1, by rw [remove_room]; exact q2, l2, ?_, q4⟩
    · show ((d2.remove [logN pre]).1, _, (d2.remove [logN pre]).2) = _
      rw [r1]
    · rw [r2, q3, c2, if_pos rfl]
      funext t
      unfold upV
      by_cases h : t = logN pre
      · rw [if_pos h, if_pos h]
      · rw [if_neg h, if_neg h, if_neg h]
  · have he : E.isEmpty = false := by cases E with | nil => exact absurd rfl hem | cons x r => rfl
    refine ⟨d2, ?_, q1, q2, l2, ?_, q4⟩
    · rw [he]; rfl
    · rw [q3, c2, if_neg hem]
end Go.Proofs.Ytkbfjgmgckbogaa.Ld
