/-
  Texts that the proofs of this seat stand on, one behind the other: contracts of functions and plain lemmas. Conditions: those that each theorem states.
-/
import Derived.Test.YtkbfjgmgckbogaaGreatF23
import Derived.Test.YtkbfjgmgckbogaaGreatLedWrite
import Derived.Deep.RegionHeld3
import Derived.Deep.DeepCutAuto
/-
  What Open makes of a log without an image (chapter 5), plain.
-/

namespace Go.Proofs.YtkbfjgmgckbogaaGreat.Ld
open Go.RowKit L Oct Dsk Fr Kp
theorem app_inj {a b c : ByteArray} (h : a ++ b = a ++ c) : b = c := by
  have h2 := congrArg (fun x : ByteArray => x.data.toList) h
  simp only [ByteArray.data_append, Array.toList_append] at h2
  exact ByteArray.ext (Array.toList_inj.1 (List.append_cancel_left h2))
theorem img_log (pre : ByteArray) : imgN pre ≠ logN pre := fun h => by
  have := app_inj h
  revert this; decide
theorem sh_img (pre : ByteArray) : sh (imgN pre) ≠ imgN pre := fun h => by
  have := congrArg ByteArray.size h
  unfold sh at this
  rw [ByteArray.size_append] at this
  have e : (⟨#[126]⟩ : ByteArray).size = 1 := rfl
  omega
theorem sh_log (pre : ByteArray) : sh (imgN pre) ≠ logN pre := fun h => by
  have := congrArg ByteArray.size h
  unfold sh imgN logN at this
  rw [ByteArray.size_append, ByteArray.size_append, ByteArray.size_append] at this
  have e : (⟨#[126]⟩ : ByteArray).size = 1 := rfl
  have e2 : sImg.size = 4 := rfl
  have e3 : sLog.size = 4 := rfl
  omega
theorem names_ok {pre : ByteArray} (hp : pre.size ≤ 20) : nameOk (imgN pre) = true ∧ nameOk (logN pre) = true ∧ nameOk (sh (imgN pre)) = true := by
  have e : (⟨#[126]⟩ : ByteArray).size = 1 := rfl
  have e2 : sImg.size = 4 := rfl
  have e3 : sLog.size = 4 := rfl
  unfold nameOk sh imgN logN
  simp only [ByteArray.size_append, Bool.and_eq_true, decide_eq_true_eq]
  omega
theorem fv_some {d : D} {s : ByteArray} {y : List UInt8 × Nat} (h : fv d s = some y) : ∃ f, getF d.fs s = some f ∧ f.data = y.1 ∧ f.lasts = y.2 := by
  unfold fv at h
  cases hg : getF d.fs s with
  | none => rw [hg] at h; cases h
  | some f =>
    rw [hg] at h
    have : (f.data, f.lasts) = y := by simpa using h
    exact ⟨f, rfl, by rw [← this], by rw [← this]⟩
theorem fv_none {d : D} {s : ByteArray} (h : fv d s = none) : getF d.fs s = none := by
  unfold fv at h
  cases hg : getF d.fs s with
  | none => rfl
  | some f => rw [hg] at h; cases h
theorem remove_fused (d : D) (s : ByteArray) : (d.remove [s]).1.fused = d.fused := by
  unfold D.remove eachF
  split
  · split
    · rfl
    · show ({ d with fs := _ } : D).done.fused = d.fused
      rw [done_fused]
  · rfl
theorem sync_fused (d : D) (s : ByteArray) : (d.sync [s]).1.fused = d.fused ∧ (d.sync [s]).1.room = d.room := by
  unfold D.sync eachF
  split
  · split
    · exact ⟨rfl, rfl⟩
    · show ({ d with fs := _ } : D).done.fused = d.fused ∧ ({ d with fs := _ } : D).done.room = d.room
      rw [done_fused, done_room]
      exact ⟨rfl, rfl⟩
  · exact ⟨rfl, rfl⟩
theorem trunc_fused (d : D) (s : ByteArray) (k : Int) : (d.truncate s k).1.fused = d.fused ∧ (d.truncate s k).1.room = d.room := by
  unfold D.truncate
  split
  · split
    · exact ⟨rfl, rfl⟩
    · split
      · exact ⟨rfl, rfl⟩
      · show ({ d with fs := _ } : D).done.fused = d.fused ∧ ({ d with fs := _ } : D).done.room = d.room
        rw [done_fused, done_room]
        exact ⟨rfl, rfl⟩
  · exact ⟨rfl, rfl⟩
/-- what was not finished goes -/
theorem clears_v {d : D} {pre : ByteArray} (hfu : d.fused = false) (hp : pre.size ≤ 20) :
    (clears d pre).2 = 0 ∧ fv (clears d pre).1 = upV (fv d) (sh (imgN pre)) none ∧ (clears d pre).1.fused = false ∧ (clears d pre).1.room = d.room := by
  unfold clears removes
  cases hg : getF d.fs (sh (imgN pre)) with
  | none =>
    refine ⟨rfl, funext fun t => ?_, hfu, rfl⟩
    unfold upV
    by_cases ht : t = sh (imgN pre)
    · rw [if_pos ht, ht]
      show fv d (sh (imgN pre)) = none
      unfold fv; rw [hg]; rfl
    · rw [if_neg ht]; rfl
  | some f =>
    obtain ⟨h1, h2⟩ := remove_v (names_ok hp).2.2 (fun h => by rw [hfu] at h; cases h) (by rw [hg]; rfl : (getF d.fs (sh (imgN pre))).isSome = true)
    rw [if_neg (by simp), if_pos h1]
    exact ⟨rfl, h2, by show (d.remove [sh (imgN pre)]).1.fused = false; rw [remove_fused]; exact hfu, remove_room d _⟩
/-- Open, where there is no image: the log's whole entries -/
theorem open_log {d : D} {pre : ByteArray} (hfu : d.fused = false) (hp : pre.size ≤ 20) (himg : fv d (imgN pre) = none) {E : List (List UInt8)} {tail : List UInt8} {l : Nat} (hE : ∀ p ∈ E, p.length ≤ 1000000) (hEl : E.length ≤ 1000000)
    (htl : tail = [] ∨ ∃ p k, p.length ≤ 1048576 ∧ k < (rec_ p).length ∧ tail = (rec_ p).take k) (hlog : fv d (logN pre) = some (logB 1 E ++ tail, l)) :
    ∃ d2, openL d pre = (d2, { new pre with ents := E }, 0) ∧ d2.fused = false ∧ d2.room = d.room ∧
      ∃ l2, fv d2 = upV (upV (fv d) (sh (imgN pre)) none) (logN pre) (if E = [] then none else some (logB 1 E, l2)) ∧ (l = (logB 1 E ++ tail).length → l2 = (logB 1 E).length) := by
  obtain ⟨n1, n2, n3⟩ := names_ok hp
  obtain ⟨c1, c2, c3, c4⟩ := clears_v hfu hp
  obtain ⟨d1, hd1⟩ : ∃ d1, d1 = (clears d pre).1 := ⟨_, rfl⟩
  rw [← hd1] at c2 c3 c4
  have f1 : fv d1 (imgN pre) = none := by
    rw [c2]; unfold upV; rw [if_neg (fun h => sh_img pre h.symm)]; exact himg
  have f2 : fv d1 (logN pre) = some (logB 1 E ++ tail, l) := by
    rw [c2]; unfold upV; rw [if_neg (fun h => sh_log pre h.symm)]; exact hlog
  have him : image d1 (new pre) = (new pre, 0) := by
    have hl : Kp.load d1 (imgN pre) = ([], 7) := by
      unfold Kp.load; rw [fv_none f1]
    unfold image
    show (if (Kp.load d1 (imgN pre)).2 = 7 then _ else _) = _
    rw [hl, if_pos rfl]
  have ho : openL d pre = log d1 (new pre) := by
    unfold openL
    rw [if_pos c1, ← hd1, him, if_pos rfl]
  have hsc : scan (logB 1 E ++ tail) = (recsL 1 E, (logB 1 E).length) := by
    rcases htl with rfl | ⟨p, k, h1, h2, rfl⟩
    · rw [List.append_nil]; exact scan_all hE
    · exact scan_log hE h1 h2
  have htk : takesAll (-1) (new pre) (recsL 1 E) = (true, { new pre with ents := E }) := by
    have := takes_run E (-1) (new pre) hE (by show 0 + 0 + _ ≤ _; omega) (fun h => by omega)
    exact this
  obtain ⟨f, g1, g2, g3⟩ := fv_some f2
  have hlg : log d1 (new pre) = ((logCut d1 pre (logB 1 E).length (logB 1 E ++ tail).length E.isEmpty).1, { new pre with ents := E }, (logCut d1 pre (logB 1 E).length (logB 1 E ++ tail).length E.isEmpty).2) := by
    unfold log
    show (match getF d1.fs (logN pre) with | none => _ | some f => _) = _
    rw [g1]
    show (if (takesAll (-1) (new pre) (scan f.data).1).1 then _ else _) = _
    rw [g2, hsc]
    show (if (takesAll (-1) (new pre) (recsL 1 E)).1 then _ else _) = _
    rw [htk, if_pos rfl]
    rfl
  have hff : ∀ {d : D}, d.fused = false → d.fused = true → d.left ≠ 0 := fun h h2 => by rw [h] at h2; cases h2
  -- the cut
  have hcut : ∃ d2 l2, logCut d1 pre (logB 1 E).length (logB 1 E ++ tail).length E.isEmpty = logEnd d2 pre E.isEmpty ∧ d2.fused = false ∧ d2.room = d.room ∧ fv d2 = upV (fv d1) (logN pre) (some (logB 1 E, l2)) ∧ (l = (logB 1 E ++ tail).length → l2 = (logB 1 E).length) := by
    by_cases ht : tail = []
    · subst ht
      refine ⟨d1, l, ?_, c3, c4, funext fun t => ?_, fun h => by simpa using h⟩
      · unfold logCut; rw [if_neg (by simp)]
      · unfold upV
        by_cases h : t = logN pre
        · rw [if_pos h, h, f2]; simp
        · rw [if_neg h]
    · have hlt : (logB 1 E).length < (logB 1 E ++ tail).length := by
        rw [List.length_append]
        have := List.length_pos_iff.2 ht
        omega
      obtain ⟨t1, t2⟩ := truncate_v (k := (logB 1 E).length) n2 (hff c3) f2 (Nat.le_of_lt hlt)
      rw [List.take_left' rfl] at t2
      obtain ⟨u1, u2⟩ := trunc_fused d1 (logN pre) ((logB 1 E).length : Int)
      have f3 : fv (d1.truncate (logN pre) ((logB 1 E).length : Int)).1 (logN pre) = some (logB 1 E, min l (logB 1 E).length) := by
        rw [t2]; unfold upV; rw [if_pos rfl]
      obtain ⟨s1, s2⟩ := sync_v n2 (hff (u1.trans c3)) f3
      obtain ⟨v1, v2⟩ := sync_fused (d1.truncate (logN pre) ((logB 1 E).length : Int)).1 (logN pre)
      refine ⟨_, (logB 1 E).length, ?_, v1.trans (u1.trans c3), v2.trans (u2.trans c4), ?_, fun _ => rfl⟩
      · unfold logCut
        rw [if_pos hlt, if_pos t1, if_pos s1]
      · rw [s2, t2]
        funext t
        unfold upV
        by_cases h : t = logN pre
        · rw [if_pos h, if_pos h]
        · rw [if_neg h, if_neg h, if_neg h]
  obtain ⟨d2, l2, e2, q1, q2, q3, q4⟩ := hcut
  rw [ho, hlg, e2]
  by_cases hem : E = []
  · subst hem
    have f4 : (getF d2.fs (logN pre)).isSome = true := by
      have : fv d2 (logN pre) = some (logB 1 [], l2) := by rw [q3]; unfold upV; rw [if_pos rfl]
      obtain ⟨f, hf, _⟩ := fv_some this
      rw [hf]; rfl
    obtain ⟨r1, r2⟩ := remove_v n2 (hff q1) f4
    refine ⟨(d2.remove [logN pre]).1, ?_, by rw [remove_fused]; exact q1, by rw [remove_room]; exact q2, l2, ?_, q4⟩
    · show ((d2.remove [logN pre]).1, _, (d2.remove [logN pre]).2) = _
      rw [r1]
    · rw [r2, q3, c2, if_pos rfl]
      funext t
      unfold upV
      by_cases h : t = logN pre
      · rw [if_pos h, if_pos h]
      · rw [if_neg h, if_neg h, if_neg h]
  · have he : E.isEmpty = false := by cases E with | nil => exact absurd rfl hem | cons x r => rfl
    refine ⟨d2, ?_, q1, q2, l2, ?_, q4⟩
    · rw [he]; rfl
    · rw [q3, c2, if_neg hem]
end Go.Proofs.YtkbfjgmgckbogaaGreat.Ld

/-
  What an Append of a ledger makes (chapter 5), plain.
-/

namespace Go.Proofs.YtkbfjgmgckbogaaGreat.Ld
open Go.RowKit L Oct Dsk Fr Kp
def logOf (o : Option (List UInt8 × Nat)) (x : List UInt8) : List UInt8 := match o with | none => x | some y => y.1 ++ x
theorem appendL_v {d : D} {g : Lg} {p : List UInt8} {n : Nat} (hi : DInv d n) (hfu : d.fused = false) (hde : g.dead = false) (hp : g.pre.size ≤ 20) (hpl : p.length ≤ 65536) (hla : g.last < 1099511627776)
    (hu : d.used + (rec_ (recL (g.last + 1) p)).length ≤ d.room) (hn : d.fs.length < 4096) :
    ∃ d2, appendL d g p = (d2, { g with ents := g.ents ++ [p] }, g.last + 1, 0) ∧ DInv d2 (n + 1) ∧ d2.fused = false ∧ d2.room = d.room ∧ d2.used = d.used + (rec_ (recL (g.last + 1) p)).length ∧
      fv d2 = upV (fv d) (logN g.pre) (some (logOf (fv d (logN g.pre)) (rec_ (recL (g.last + 1) p)), (logOf (fv d (logN g.pre)) (rec_ (recL (g.last + 1) p))).length)) := by
  obtain ⟨n1, n2, n3⟩ := names_ok hp
  have hff : ∀ {d : D}, d.fused = false → d.fused = true → d.left ≠ 0 := fun h h2 => by rw [h] at h2; cases h2
  obtain ⟨X, hX⟩ : ∃ X, X = rec_ (recL (g.last + 1) p) := ⟨_, rfl⟩
  rw [← hX] at hu ⊢
  have ha := append_ok (may_one n2 (hff hfu)) hu hn
  obtain ⟨a1, a2⟩ := append_v n2 (hff hfu) hu hn
  obtain ⟨d1, hd1⟩ : ∃ d1, d1 = (d.append (logN g.pre) X).1 := ⟨_, rfl⟩
  rw [← hd1] at a2
  have b1 : d1.fused = false ∧ d1.room = d.room ∧ d1.used = d.used + X.length := by
    rw [hd1, ha]
    refine ⟨?_, ?_, ?_⟩
    · show ({ d with fs := _ } : D).done.fused = false
      rw [done_fused]; exact hfu
    · show ({ d with fs := _ } : D).done.room = d.room
      rw [done_room]
    · show ({ d with fs := _ } : D).done.used = _
      rw [done_used]
      exact put_used hi.nd
  have hi1 : DInv d1 (n + 1) := by rw [hd1]; exact hi.append _ _
  have f1 : fv d1 (logN g.pre) = some (logOf (fv d (logN g.pre)) X, match fv d (logN g.pre) with | none => 0 | some y => y.2) := by
    rw [a2]; unfold upV logOf
    rw [if_pos rfl]
    cases fv d (logN g.pre) <;> rfl
  obtain ⟨s1, s2⟩ := sync_v n2 (hff b1.1) f1
  obtain ⟨v1, v2⟩ := sync_fused d1 (logN g.pre)
  have hput : putE d g p = d1.sync [logN g.pre] := by
    unfold putE
    rw [← hX, if_pos a1, hd1]
  have hus : (d1.sync [logN g.pre]).1.used = d1.used := by
    unfold D.sync eachF
    split
    · split
      · rfl
      · show ({ d1 with fs := syncF (logN g.pre) d1.fs } : D).done.used = d1.used
        rw [done_used]
        show Dsk.used (updF d1.fs _ _) = Dsk.used d1.fs
        unfold Dsk.used updF
        rw [List.map_map]
        congr 1
        refine List.map_congr_left fun f _ => ?_
        simp only [Function.comp]
        split <;> rfl
    · rfl
  refine ⟨(d1.sync [logN g.pre]).1, ?_, hi1.sync _, v1.trans b1.1, v2.trans b1.2.1, by rw [hus]; exact b1.2.2, ?_⟩
  · unfold appendL
    rw [if_neg (by rw [hde]; simp), if_neg (by omega), hput, if_pos s1]
  · rw [s2, a2]
    funext t
    unfold upV
    by_cases h : t = logN g.pre
    · rw [if_pos h, if_pos h]
    · rw [if_neg h, if_neg h, if_neg h]
end Go.Proofs.YtkbfjgmgckbogaaGreat.Ld

/-
  Drop of chapter 5; a ledger that is nil; Open on no disk.
-/




namespace Go.Proofs.YtkbfjgmgckbogaaGreat.Ld
open Go.RowKit L Oct Dsk Fr Kp
def dropL (d : D) (g : Lg) : D × Lg × Nat :=
  if g.dead then (d, g, 9) else ((removes d [logN g.pre, imgN g.pre]).1, { g with dead := true }, (removes d [logN g.pre, imgN g.pre]).2)
section
variable {W0 w : World} {R : Asrt} {lb b n : Nat} {g : Lg} {d : D}
theorem removes_lit2 {bk : Nat} (H : Hold W0 ((DiskA b d).sep R) w) (hbk : w.heap.size = bk) (hi : DInv d n) (hn : n ≤ 4096) (s t : ByteArray) :
    Calls Tryz.prog 53 #[ptr b, .slice (some ⟨bk, 0, none⟩) 2 2] (w.alloc (.cells #[.string s, .string t] 9)) (RetApp W0 R b (removes d [s, t])) := by
  subst hbk
  have H1 := (H.addLits [.string s, .string t] 9 (by simp [maxLen]) (b := w.heap.size) rfl).up2
  refine (removes_any H1 hi hn (.slice (some ⟨w.heap.size, 0, none⟩) 2 2) [s, t] (fun w' hw' => hw'.sl)).mono ?_
  rintro e' w' ⟨h1, h2⟩
  exact ⟨h1, h2.up2.drop1⟩
end
end Go.Proofs.YtkbfjgmgckbogaaGreat.Ld
