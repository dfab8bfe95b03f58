/-
  Clear of chapter 4.
-/
import Derived.Test.YtfkingloapohjaaKeepKnown
namespace Go.Proofs.Ytfkingloapohjaa.Kp
open Go.RowKit L Oct Dsk Fr
def hasPre (s p : ByteArray) : Bool := decide (p.size ≤ s.size) && ((s.extract 0 p.size).toList == p.toList)
set_option maxHeartbeats 800000 in
theorem prefix2_any (s p : ByteArray) (w : World) (_hs : s.size ≤ 140737488355328) (_hp : p.size ≤ 140737488355328) : Calls Try.prog 59 #[.string s, .string p] w fun e w' => e = .returned (.bool (hasPre s p)) ∧ w = w' := by
  unfold hasPre
  by_cases h : p.size ≤ s.size
  · have g1 : decide (p.size ≤ s.size) = true := by simpa using h
    rw [g1, Bool.true_and]
    cases hq : ((s.extract 0 p.size).toList == p.toList) <;>
    · go_enter Try.func59, Try.ntmps59
      go_wp2
      go_ret
      exact ⟨rfl, rfl⟩
  · have g1 : decide (p.size ≤ s.size) = false := by simpa using h
    rw [g1, Bool.false_and]
    go_enter Try.func59, Try.ntmps59
    go_wp2
    go_ret
    exact ⟨rfl, rfl⟩
theorem prefix_any (s p : ByteArray) (w : World) (hs : s.size ≤ 140737488355328) (hp : p.size ≤ 140737488355328) : Calls Try.prog 35 #[.string s, .string p] w fun e w' => e = .returned (.bool (hasPre s p)) ∧ w = w' := by
  go_enter Try.func35, Try.ntmps35
  go_wp2_with (go_at_call 59; refine (prefix2_any s p _ hs hp).mono ?_; rintro e w2 ⟨rfl, rfl⟩)
  go_ret
  exact ⟨rfl, rfl⟩
def hasN (l : List ByteArray) (s : ByteArray) : Bool := l.any fun x => decide (x = s)
theorem hasN_yes {l : List ByteArray} {s : ByteArray} (h : s ∈ l) : hasN l s = true := List.any_eq_true.2 ⟨s, h, by simp⟩
theorem hasN_no {l : List ByteArray} {s : ByteArray} (h : s ∉ l) : hasN l s = false := by
  rw [hasN, List.any_eq_false]
  intro x hx e
  exact h (by have : x = s := by simpa using e
              rw [← this]; exact hx)
def RetIx (l : List ByteArray) (s : ByteArray) (w : World) (e : Ending) (w' : World) : Prop := ∃ z : Int, e = .returned (.int .i64 z) ∧ ((0 ≤ z ∧ s ∈ l) ∨ (z < 0 ∧ s ∉ l)) ∧ Below w.heap.size w w'
theorem str_eq {a b : ByteArray} (h : (a.toList == b.toList) = true) : a = b := by
  rw [beq_iff_eq, ByteArray.toList_eq, ByteArray.toList_eq] at h
  exact ByteArray.ext (Array.toList_inj.1 h)
set_option maxHeartbeats 800000 in
theorem index_any (v : Value) (l : List ByteArray) (s : ByteArray) (w : World) (hv : Sl w 1 v l.length (strs l)) : Calls Try.prog 60 #[v, .string s] w (RetIx l s w) := by
  have hlen := hv.run_len Try.underlying38
  have hmx := hv.le'
  go_enter Try.func60, Try.ntmps60
  go_wp2
  go_loop [8] (fun i => ∃ k : Nat, k ≤ l.length ∧ i = .int .i64 k ∧ ∀ j, j < k → l.getD j ByteArray.empty ≠ s) (fun i => l.length - (intOf i).toNat)
  case atStart => exact ⟨0, Nat.zero_le _, rfl, fun j hj => by omega⟩
  case round =>
    obtain ⟨k, hk, rfl, hno⟩ := hrel
    have Hno := Lib.hid hno
    clear hno
    by_cases hlt : k < l.length
    · obtain ⟨A, u, hA, hblk, hc, Hu⟩ := hv.at1 (P := Try.prog) Try.underlying38 Try.size9 k hlt
      rw [Hu.out, strs_get l k hlt] at hc
      obtain ⟨x, hx⟩ : ∃ x, x = l.getD k ByteArray.empty := ⟨_, rfl⟩
      rw [← hx] at hc
      have Hx := Lib.hid hx
      clear hx hblk Hu
      cases hq : (s.toList == x.toList) with
      | true =>
        have hm : Hid (s ∈ l) := Lib.hid (by rw [str_eq hq, Hx.out]; simp [List.getD, hlt])
        go_wp2
        go_ret
        exact ⟨k, rfl, .inl ⟨by omega, hm.out⟩, Below.refl _ _⟩
      | false =>
        have hn2 : Hid (∀ j, j < k + 1 → l.getD j ByteArray.empty ≠ s) := Lib.hid fun j hj => by
          by_cases e : j = k
          · subst e; rw [← Hx.out]; rintro rfl; simp at hq
          · exact Hno.out j (by omega)
        go_wp2
        go_round
        case rel => exact ⟨k + 1, by omega, by go_num, hn2.out⟩
        case measure => simp [intOf]; omega
    · have hm : Hid (s ∉ l) := Lib.hid fun h => by
        obtain ⟨i, hi, he⟩ := List.getElem_of_mem h
        exact Hno.out i (by omega) (by simp [List.getD, hi, he])
      go_wp2
      go_ret
      exact ⟨-1, rfl, .inr ⟨by omega, hm.out⟩, Below.refl _ _⟩
def RetHas (x : Bool) (w : World) (e : Ending) (w' : World) : Prop := e = .returned (.bool x) ∧ Below w.heap.size w w'
theorem contains_any (v : Value) (l : List ByteArray) (s : ByteArray) (w : World) (hv : Sl w 1 v l.length (strs l)) : Calls Try.prog 36 #[v, .string s] w (RetHas (hasN l s) w) := by
  go_enter Try.func36, Try.ntmps36
  go_wp2_with fail
  refine (index_any v l s w hv).mono ?_
  rintro e w2 ⟨z, rfl, hz, hb⟩
  have Hb := Lib.hid hb
  clear hb
  rcases hz with ⟨hz, hm⟩ | ⟨hz, hm⟩
  · have hd : Hid (hasN l s = true) := Lib.hid (hasN_yes hm)
    clear hm
    go_wp2
    go_ret
    rw [hd.out]
    exact ⟨rfl, Hb.out⟩
  · have hd : Hid (hasN l s = false) := Lib.hid (hasN_no hm)
    have g1 : decide (0 ≤ z) = false := by simp; omega
    clear hm
    go_wp2
    go_ret
    rw [hd.out]
    exact ⟨rfl, Hb.out⟩
/-- Clear, over names -/
def clearL (pre : ByteArray) (stay : List ByteArray) : D → List ByteArray → D × Nat
  | d, [] => (d, 0)
  | d, n :: r => if hasPre n pre = false ∨ hasN stay n = true then clearL pre stay d r else if (d.remove [n]).2 = 0 then clearL pre stay (d.remove [n]).1 r else d.remove [n]
def clear (d : D) (pre : ByteArray) (stay : List ByteArray) : D × Nat := clearL pre stay d (sortN (d.fs.map AF.name))
def ClearRel (W0 : World) (R : Asrt) (b : Nat) (pre : ByteArray) (stay names : List ByteArray) (d : D) (v : Value) (i : Value) (wr : World) : Prop :=
  ∃ (k : Nat) (d' : D), k ≤ names.length ∧ i = .int .i64 k ∧ clearL pre stay d' (names.drop k) = clearL pre stay d names ∧ d'.left ≤ 9223372036854775807 ∧ Hold W0 ((DiskA b d').sep ((Row 9 1 v names.length (strs names)).sep R)) wr
set_option maxRecDepth 100000 in
set_option maxHeartbeats 1600000 in
theorem clear_any {W0 w : World} {R : Asrt} {b : Nat} {d : D} (H : Hold W0 ((DiskA b d).sep R) w) (hd : d.left ≤ 9223372036854775807) (hn : d.fs.length ≤ 4096) (hs : ∀ f ∈ d.fs, f.name.size ≤ 1000000) (pre : ByteArray) (hpre : pre.size ≤ 140737488355328) (vs : Value) (stay : List ByteArray) (hst : Reads W0 R 1 vs stay.length (strs stay)) :
    Calls Try.prog 14 #[ptr b, .string pre, vs] w (RetApp W0 R b (Kp.clear d pre stay)) := by
  have hl := list_any H hn (fun f hf => Nat.le_trans (hs f hf) (by omega))
  obtain ⟨names, hnm⟩ : ∃ names, names = sortN (d.fs.map AF.name) := ⟨_, rfl⟩
  have hnl : names.length = d.fs.length := by rw [hnm, (sortN_perm _).length_eq, List.length_map]
  have hns : ∀ s ∈ names, s.size ≤ 1000000 := fun s h => by
    rw [hnm] at h
    obtain ⟨f, hf, rfl⟩ := List.mem_map.1 ((sortN_perm _).mem_iff.1 h)
    exact hs f hf
  have HC : Hid (Kp.clear d pre stay = clearL pre stay d names) := Lib.hid (by rw [hnm]; rfl)
  unfold RetList at hl
  rw [← hnm, ← hnl] at hl
  have HL := Lib.hid hl
  have HNs := Lib.hid hns
  have Hd := Lib.hid hd
  have Hst := Lib.hid hst
  clear hl hns hd hst hnm hnl hn hs H
  unfold ptr
  go_enter Try.func14, Try.ntmps14
  go_wp2_with fail
  refine HL.out.mono ?_
  rintro e w2 ⟨v, rfl, H2⟩
  have hlen := H2.sl.run_len Try.underlying38
  have hmx := H2.sl.le'
  have HR : Hid (ClearRel W0 R b pre stay names d v (.int .i64 0) w2) := Lib.hid ⟨0, d, Nat.zero_le _, rfl, by simp, Hd.out, H2.up2⟩
  clear H2
  go_wp2
  go_loopw [15] (fun i wr => ClearRel W0 R b pre stay names d v i wr) (fun i _ => names.length - (intOf i).toNat)
  case atStart => exact HR.out
  case round =>
    clear HR
    obtain ⟨k, d', hk, rfl, heq, hd', hH⟩ := hrel
    have Heq := Lib.hid heq
    have Hd' := Lib.hid hd'
    have HW := Lib.hid hH
    clear heq hd' hH
    by_cases hlt : k < names.length
    · obtain ⟨A, u, hA, hblk, hc, Hu⟩ := (HW.out.up2.sl).at1 (P := Try.prog) Try.underlying38 Try.size9 k hlt
      rw [Hu.out, strs_get names k hlt] at hc
      obtain ⟨s, hs⟩ : ∃ s, s = names.getD k ByteArray.empty := ⟨_, rfl⟩
      rw [← hs] at hc
      have hss : s.size ≤ 1000000 := HNs.out s (by rw [hs]; simp [List.getD, hlt])
      have hdrop : Hid (clearL pre stay d' (names.drop k) = if hasPre s pre = false ∨ hasN stay s = true then clearL pre stay d' (names.drop (k + 1)) else if (d'.remove [s]).2 = 0 then clearL pre stay (d'.remove [s]).1 (names.drop (k + 1)) else d'.remove [s]) := Lib.hid (by
        rw [List.drop_eq_getElem_cons hlt, clearL, show names[k] = s from by rw [hs]; simp [List.getD, hlt]])
      clear hs hblk Hu
      have hcase : hasPre s pre = false ∨ (hasPre s pre = true ∧ hasN stay s = true) ∨ (hasPre s pre = true ∧ hasN stay s = false ∧ (d'.remove [s]).2 = 0) ∨ (hasPre s pre = true ∧ hasN stay s = false ∧ ¬ (d'.remove [s]).2 = 0) := by
        by_cases h1 : hasPre s pre = false
        · exact .inl h1
        · have h1' : hasPre s pre = true := by simpa using h1
          by_cases h2 : hasN stay s = true
          · exact .inr (.inl ⟨h1', h2⟩)
          · have h2 : hasN stay s = false := by simpa using h2
            by_cases h3 : (d'.remove [s]).2 = 0
            · exact .inr (.inr (.inl ⟨h1', h2, h3⟩))
            · exact .inr (.inr (.inr ⟨h1', h2, h3⟩))
      rcases hcase with h1 | ⟨h1, h2⟩ | ⟨h1, h2, h3⟩ | ⟨h1, h2, h3⟩
      · have he := Lib.hid (hdrop.out.trans (if_pos (.inl h1)))
        go_wp2_with fail
        refine (prefix_any s pre _ (by omega) hpre).mono ?_
        rintro e w3 ⟨rfl, rfl⟩
        rw [h1]
        clear h1
        go_wp2
        go_roundw
        case rel => exact ⟨k + 1, d', by omega, by go_num, by rw [← he.out, Heq.out], Hd'.out, HW.out⟩
        case measure => simp [intOf]; omega
      · have he := Lib.hid (hdrop.out.trans (if_pos (.inr h2)))
        have h2' := h2
        go_wp2_with fail
        refine (prefix_any s pre _ (by omega) hpre).mono ?_
        rintro e w3 ⟨rfl, rfl⟩
        rw [h1]
        clear h1 h2
        go_wp2_with fail
        refine (contains_any vs stay s _ (Hst.out _ HW.out.drop1.drop1)).mono ?_
        rintro e w4 ⟨rfl, hb⟩
        rw [h2']
        have H4 := Lib.hid (HW.out.keeps hb)
        clear hb h2'
        go_wp2
        go_roundw
        case rel => exact ⟨k + 1, d', by omega, by go_num, by rw [← he.out, Heq.out], Hd'.out, H4.out⟩
        case measure => simp [intOf]; omega
      · have hnot : ¬ (hasPre s pre = false ∨ hasN stay s = true) := fun h => h.elim (fun h => by rw [h1] at h; cases h) (fun h => by rw [h2] at h; cases h)
        have he := Lib.hid ((hdrop.out.trans (if_neg hnot)).trans (if_pos h3))
        have h2' := h2
        have H3h := Lib.hid h3
        go_wp2_with fail
        refine (prefix_any s pre _ (by omega) hpre).mono ?_
        rintro e w3 ⟨rfl, rfl⟩
        rw [h1]
        clear h1 h2 hnot h3
        go_wp2_with fail
        refine (contains_any vs stay s _ (Hst.out _ HW.out.drop1.drop1)).mono ?_
        rintro e w4 ⟨rfl, hb⟩
        rw [h2']
        have H4 := HW.out.keeps hb
        clear hb h2'
        go_wp2_with fail
        refine (remove_lit H4 rfl Hd'.out s).mono ?_
        rintro e w5 ⟨rfl, H5⟩
        rw [H3h.out]
        have H5h := Lib.hid H5
        clear H4 H5
        go_wp2
        go_roundw
        case rel => exact ⟨k + 1, (d'.remove [s]).1, by omega, by go_num, by rw [← he.out, Heq.out], Nat.le_trans each_left1 Hd'.out, H5h.out⟩
        case measure => simp [intOf]; omega
      · have hnot : ¬ (hasPre s pre = false ∨ hasN stay s = true) := fun h => h.elim (fun h => by rw [h1] at h; cases h) (fun h => by rw [h2] at h; cases h)
        have he := Lib.hid ((hdrop.out.trans (if_neg hnot)).trans (if_neg h3))
        have h2' := h2
        obtain ⟨m, hm⟩ : ∃ m : Nat, m = (d'.remove [s]).2 := ⟨_, rfl⟩
        have hm0 : ((m : Int) == 0) = false := by rw [beq_eq_false_iff_ne]; omega
        have Hm := Lib.hid hm
        go_wp2_with fail
        refine (prefix_any s pre _ (by omega) hpre).mono ?_
        rintro e w3 ⟨rfl, rfl⟩
        rw [h1]
        clear h1 h2 hnot h3 hm
        go_wp2_with fail
        refine (contains_any vs stay s _ (Hst.out _ HW.out.drop1.drop1)).mono ?_
        rintro e w4 ⟨rfl, hb⟩
        rw [h2']
        have H4 := HW.out.keeps hb
        clear hb h2'
        go_wp2_with fail
        refine (remove_lit H4 rfl Hd'.out s).mono ?_
        rintro e w5 ⟨rfl, H5⟩
        rw [← Hm.out]
        have H5h := Lib.hid H5.up2.drop1
        clear H4 H5
        go_wp2
        go_ret
        rw [HC.out, ← Heq.out, he.out]
        exact ⟨ret_int (by rw [Hm.out]), H5h.out⟩
    · have hend : Hid (clearL pre stay d names = (d', 0)) := Lib.hid (by rw [← Heq.out, List.drop_eq_nil_of_le (by omega)]; rfl)
      have H5h := Lib.hid HW.out.up2.drop1
      go_wp2
      go_ret
      rw [HC.out, hend.out]
      exact ⟨rfl, H5h.out⟩
end Go.Proofs.Ytfkingloapohjaa.Kp
