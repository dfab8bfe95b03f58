/-
  Texts that the proofs of this seat stand on, one behind the other: contracts of functions and plain lemmas. Conditions: those that each theorem states.
-/
import Derived.Test.YtkbfjgmgckbogaaGreatF14
import Derived.Deep.RegionHeld3
import Derived.Deep.QuietTactic
import Derived.BigQuiet
import Derived.Deep.DeepCutAuto
/-
  The small functions of a ledger (chapter 5): its files' names, Last, Base, At, dies.
-/




namespace Go.Proofs.YtkbfjgmgckbogaaGreat.Ld
open Go.RowKit L Oct Dsk Fr Kp
theorem cell_on {w w' : World} {p : Addr} {v : Value} (hb : Below w.heap.size w w') (h : w.cell? p = some v) : w'.cell? p = some v := (hb.cell (World.block_lt_of_cell? w _ h)).trans h
section
variable {W0 w : World} {R : Asrt} {lb b : Nat} {g : Lg}
theorem imageName_any (H : Hold W0 ((LedgA lb b g).sep R) w) (hg : GOk g) :
    Calls Tryz.prog 52 #[ptr lb] w fun e w' => e = .returned (.string (imgN g.pre)) ∧ w = w' := by
  obtain ⟨dv, ev, vs, H1⟩ := led_open H
  have k1 := blk_cell H1.blk 1
  have hp := hg.pre
  have hrun := fun w' : World => run_string_add_sum (P := Tryz.prog) (w := w') g.pre sImg (by show g.pre.size + 4 ≤ _; omega)
  unfold sImg at hrun
  clear H H1 hg hp
  unfold ptr imgN sImg
  go_enter Tryz.func52, Tryz.ntmps52
  go_wp2
  go_ret
  exact ⟨rfl, rfl⟩
theorem logName_any (H : Hold W0 ((LedgA lb b g).sep R) w) (hg : GOk g) :
    Calls Tryz.prog 47 #[ptr lb] w fun e w' => e = .returned (.string (logN g.pre)) ∧ w = w' := by
  obtain ⟨dv, ev, vs, H1⟩ := led_open H
  have k1 := blk_cell H1.blk 1
  have hp := hg.pre
  have hrun := fun w' : World => run_string_add_sum (P := Tryz.prog) (w := w') g.pre sLog (by show g.pre.size + 4 ≤ _; omega)
  unfold sLog at hrun
  clear H H1 hg hp
  unfold ptr logN sLog
  go_enter Tryz.func47, Tryz.ntmps47
  go_wp2
  go_ret
  exact ⟨rfl, rfl⟩
def RetDrew (w : World) (v : Value) (e : Ending) (w' : World) : Prop := e = .returned v ∧ ∃ n, w' = w.drewN n
theorem last_any (H : Hold W0 ((LedgA lb b g).sep R) w) (hg : GOk g) :
    Calls Tryz.prog 25 #[ptr lb] w (RetDrew w (.int .i64 (g.last : Nat))) := by
  obtain ⟨dv, ev, vs, H1⟩ := led_open H
  have k2 := blk_cell H1.blk 2
  have k4 := blk_cell H1.blk 4
  have hlen := H1.up3.sl.run_len Tryz.underlying44
  have hb := hg.base
  have hn := hg.len
  have a1 : IntKind.i64.wrap ((g.base : Int) + (g.ents.length : Int)) = (g.base : Int) + (g.ents.length : Int) := IntWalk.i64_in _ (by omega)
  have e1 : Hid (((g.last : Nat) : Int) = (g.base : Int) + (g.ents.length : Int)) := Lib.hid (by unfold Lg.last; omega)
  clear H H1 hb hn hg
  unfold ptr
  go_enter Tryz.func25, Tryz.ntmps25
  go_wp2_with fail
  go_quiet (fail)
  go_wp2
  go_ret
  rw [e1.out]
  exact ⟨rfl, _, rfl⟩
def RetBase (w : World) (g : Lg) (e : Ending) (w' : World) : Prop := ∃ v, e = .returned (.tuple #[.int .i64 g.base, v]) ∧ Own w' w.heap.size 5 1 v g.data.length (u8s g.data) ∧ Below w.heap.size w w'
set_option maxHeartbeats 800000 in
theorem base_any (H : Hold W0 ((LedgA lb b g).sep R) w) (hg : GOk g) : Calls Tryz.prog 24 #[ptr lb] w (RetBase w g) := by
  obtain ⟨dv, ev, vs, H1⟩ := led_open H
  have k2 := blk_cell H1.blk 2
  have k3 := blk_cell H1.blk 3
  have hd := hg.data
  have HS := Lib.hid H1.up2.sl
  clear H H1 hg
  unfold ptr
  go_enter Tryz.func24, Tryz.ntmps24
  go_wp2_with fail
  go_region_held3 (fun w' => w'.cell? ⟨lb, 2, none⟩ = some (.int .i64 g.base) ∧ w'.cell? ⟨lb, 3, none⟩ = some dv) (first | exact hS5 | go_keep)
    (first | (go_at_call 50; refine (clone_any dv g.data _ (HS.out.below' (Below.refl _ _).drew) (by omega)).mono ?_; rintro e w5 ⟨v5, rfl, ho5, hb5⟩; have hS5 : w5.cell? ⟨lb, 2, none⟩ = some (.int .i64 g.base) ∧ w5.cell? ⟨lb, 3, none⟩ = some dv := ⟨cell_on hb5 k2, cell_on hb5 k3⟩))
  all_goals
    have HF : Hid (Own w5 w.heap.size 5 1 v5 g.data.length (u8s g.data) ∧ Below w.heap.size w w5) := Lib.hid ⟨ho5, (Below.refl _ _).drew.trans hb5⟩
    clear ho5 hb5 hS5
    go_wp2
    go_ret2
    exact ⟨_, rfl, HF.out.1, HF.out.2⟩
def RetAt (w : World) (o : Option (List UInt8)) (e : Ending) (w' : World) : Prop :=
  (o = none ∧ e = .returned (.tuple #[.slice none 0 0, .int .i64 7]) ∧ Below w.heap.size w w') ∨ ∃ l v, o = some l ∧ e = .returned (.tuple #[v, .int .i64 0]) ∧ Own w' w.heap.size 5 1 v l.length (u8s l) ∧ Below w.heap.size w w'
def Lg.at (g : Lg) (i : Int) : Option (List UInt8) := if i ≤ g.base ∨ (g.last : Int) < i then none else some (g.ents.getD (i.toNat - g.base - 1) [])
set_option maxHeartbeats 1600000 in
theorem at_any (H : Hold W0 ((LedgA lb b g).sep R) w) (hg : GOk g) (i : Int) (hi1 : -9223372036854775808 ≤ i) (hi2 : i ≤ 9223372036854775807) : Calls Tryz.prog 41 #[ptr lb, .int .i64 i] w (RetAt w (g.at i)) := by
  obtain ⟨dv, ev, vs, H1⟩ := led_open H
  have k2 := blk_cell H1.blk 2
  have k4 := blk_cell H1.blk 4
  have HL := Lib.hid (last_any H hg)
  have HR := Lib.hid (H1.drop1.drop1.rowsAt rfl)
  have hn := hg.len
  have hbs := hg.base
  have hent := Lib.hid hg.ent
  clear H1
  by_cases h1 : i ≤ g.base
  · have Hr : Hid (g.at i = none) := Lib.hid (by rw [Lg.at, if_pos (.inl h1)])
    have g1 : decide (i ≤ (g.base : Int)) = true := by simpa using h1
    clear H hg h1
    unfold ptr at HL ⊢
    go_enter Tryz.func41, Tryz.ntmps41
    go_wp2_with (go_at_call 25; refine HL.out.mono ?_; rintro e w5 ⟨rfl, n5, rfl⟩)
    go_ret2
    rw [Hr.out]
    exact .inl ⟨rfl, rfl, Below.refl _ _⟩
  · have g1 : decide (i ≤ (g.base : Int)) = false := by simpa using h1
    by_cases h2 : (g.last : Int) < i
    · have Hr : Hid (g.at i = none) := Lib.hid (by rw [Lg.at, if_pos (.inr h2)])
      have g2 : decide ((g.last : Int) < i) = true := by simpa using h2
      clear H hg h1 h2
      unfold ptr at HL ⊢
      go_enter Tryz.func41, Tryz.ntmps41
      go_wp2_with (go_at_call 25; refine HL.out.mono ?_; rintro e w5 ⟨rfl, n5, rfl⟩)
      go_ret2
      rw [Hr.out]
      exact .inl ⟨rfl, rfl, below_drewN (Below.refl _ _) _⟩
    · have g2 : decide ((g.last : Int) < i) = false := by simpa using h2
      obtain ⟨j, hj⟩ : ∃ j : Nat, j = i.toNat - g.base - 1 := ⟨_, rfl⟩
      have hlast : g.last = g.base + g.ents.length := rfl
      have hji : i = (g.base : Int) + (j : Int) + 1 := by omega
      have hjl : j < g.ents.length := by omega
      have Hr : Hid (g.at i = some (g.ents.getD j [])) := Lib.hid (by rw [Lg.at, if_neg (by omega), hj])
      obtain ⟨A, v4, x, hA, _, c4, Hx, hs4⟩ := HR.out.at (P := Tryz.prog) Tryz.underlying44 Tryz.size22 j hjl
      have e0 : i - (g.base : Int) - 1 = (j : Int) := by omega
      rw [← e0] at hA
      have a1 : IntKind.i64.wrap (i - (g.base : Int)) = i - (g.base : Int) := IntWalk.i64_in _ (by omega)
      have a2 : IntKind.i64.wrap (i - (g.base : Int) - 1) = i - (g.base : Int) - 1 := IntWalk.i64_in _ (by omega)
      have hxl : x.length ≤ 1073741824 := by rw [Hx.out]; exact hent.out _ (by simp [List.getD, hjl])
      rw [← Hx.out] at Hr
      have HS := Lib.hid hs4
      clear H hg h1 h2 hj hlast hji hjl e0 Hx hs4 hn hbs
      unfold ptr at HL ⊢
      go_enter Tryz.func41, Tryz.ntmps41
      go_wp2_with (go_at_call 25; refine HL.out.mono ?_; rintro e w5 ⟨rfl, n5, rfl⟩)
      go_region_held3 (fun w' => w'.cell? ⟨lb, 2, none⟩ = some (.int .i64 g.base) ∧ w'.cell? ⟨lb, 4, none⟩ = some ev ∧ w'.cell? A = some v4) (first | exact hS6 | go_keep)
        (first | (go_at_call 50; refine (clone_any v4 x _ (HS.out.below' ((below_drewN (Below.refl _ _) n5).drew)) (by omega)).mono ?_; rintro e w6 ⟨v6, rfl, ho6, hb6⟩; have hS6 : w6.cell? ⟨lb, 2, none⟩ = some (.int .i64 g.base) ∧ w6.cell? ⟨lb, 4, none⟩ = some ev ∧ w6.cell? A = some v4 := ⟨cell_on hb6 k2, cell_on hb6 k4, cell_on hb6 c4⟩))
      all_goals
        have HF : Hid (Own w6 w.heap.size 5 1 v6 x.length (u8s x) ∧ Below w.heap.size w w6) := Lib.hid ⟨ho6, (below_drewN (Below.refl _ _) n5).drew.trans hb6⟩
        clear ho6 hb6 hS6 a1 a2
        go_wp2
        go_ret2
        rw [Hr.out]
        exact .inr ⟨_, _, rfl, rfl, HF.out.1, HF.out.2⟩
theorem dies_any (H : Hold W0 ((LedgA lb b g).sep R) w) (m : Nat) :
    Calls Tryz.prog 49 #[ptr lb, .int .i64 m] w fun e w' => e = .returned (.int .i64 m) ∧ Hold W0 ((LedgA lb b { g with dead := g.dead || !decide (m = 0) }).sep R) w' := by
  obtain ⟨dv, ev, vs, H1⟩ := led_open H
  have k5 := blk_cell H1.blk 5
  have f5 := blk_free H1.blk 5
  have HH := fun x : Bool => led_shut (g := { g with dead := x }) (H1.setB 5 (.bool x))
  have H2 := Lib.hid HH
  clear H H1 HH
  unfold ptr
  cases hd : g.dead with
  | true =>
    rw [hd] at k5
    go_enter Tryz.func49, Tryz.ntmps49
    go_wp2
    go_ret
    exact ⟨rfl, H2.out true⟩
  | false =>
    rw [hd] at k5
    by_cases hm : m = 0
    · subst hm
      go_enter Tryz.func49, Tryz.ntmps49
      go_wp2
      go_ret
      exact ⟨rfl, H2.out false⟩
    · have e1 : (!decide (m = 0)) = true := by simpa using hm
      have hm1 : ((m : Int) != 0) = true := by simp; omega
      have e2 := Lib.hid e1
      clear hm e1
      go_enter Tryz.func49, Tryz.ntmps49
      go_wp2
      go_ret
      rw [e2.out]
      exact ⟨rfl, H2.out true⟩
end
end Go.Proofs.YtkbfjgmgckbogaaGreat.Ld

/-
  has and removes of chapter 5.
-/

namespace Go.Proofs.YtkbfjgmgckbogaaGreat.Ld
open Go.RowKit L Oct Dsk Fr Kp
section
variable {W0 w : World} {R : Asrt} {b n : Nat} {d : D}
theorem has_names (fs : List AF) (s : ByteArray) : hasN (sortN (fs.map AF.name)) s = (getF fs s).isSome := by
  have hm : ∀ x, x ∈ sortN (fs.map AF.name) ↔ x ∈ fs.map AF.name := fun x => (sortN_perm _).mem_iff
  cases hg : getF fs s with
  | none =>
    refine hasN_no fun h => ?_
    obtain ⟨f, hf, hn⟩ := List.mem_map.1 ((hm s).1 h)
    exact getF_none hg f hf hn
  | some f =>
    obtain ⟨h1, h2⟩ := getF_name hg
    exact hasN_yes ((hm s).2 (List.mem_map.2 ⟨f, h1, h2⟩))
def RetHasD (W0 : World) (R : Asrt) (b : Nat) (d : D) (x : Bool) (e : Ending) (w' : World) : Prop := e = .returned (.bool x) ∧ Hold W0 ((DiskA b d).sep R) w'
theorem has_any (H : Hold W0 ((DiskA b d).sep R) w) (hi : DInv d n) (hn : n ≤ 4096) (s : ByteArray) :
    Calls Tryz.prog 60 #[ptr b, .string s] w (RetHasD W0 R b d (getF d.fs s).isSome) := by
  have hl := list_any H (Nat.le_trans hi.len hn) (fun f hf => Nat.le_trans (hi.names f hf) (by omega))
  obtain ⟨names, hnm⟩ : ∃ names, names = sortN (d.fs.map AF.name) := ⟨_, rfl⟩
  have hnl : names.length = d.fs.length := by rw [hnm, (sortN_perm _).length_eq, List.length_map]
  have hh : Hid (hasN names s = (getF d.fs s).isSome) := Lib.hid (by rw [hnm, has_names])
  unfold RetList at hl
  rw [← hnm, ← hnl] at hl
  have HL := Lib.hid hl
  clear hl hnm hnl H hi hn
  unfold ptr at HL ⊢
  go_enter Tryz.func60, Tryz.ntmps60
  go_wp2_with fail
  refine HL.out.mono ?_
  rintro e w2 ⟨v, rfl, h2⟩
  have H2 := Lib.hid h2
  clear h2 HL
  go_wp2_with fail
  refine (contains_any v names s _ H2.out.sl).mono ?_
  rintro e w3 ⟨rfl, hb3⟩
  have H3 := Lib.hid (H2.out.keeps hb3).drop1
  clear hb3 H2
  go_wp2
  go_ret
  rw [hh.out]
  exact ⟨rfl, H3.out⟩
def RmRel (W0 : World) (R : Asrt) (b n : Nat) (names : List ByteArray) (d : D) (i : Value) (wr : World) : Prop :=
  ∃ (k : Nat) (d' : D), k ≤ names.length ∧ i = .int .i64 k ∧ removes d' (names.drop k) = removes d names ∧ DInv d' n ∧ Hold W0 ((DiskA b d').sep R) wr
set_option maxRecDepth 100000 in
set_option maxHeartbeats 1600000 in
theorem removes_any (H : Hold W0 ((DiskA b d).sep R) w) (hi : DInv d n) (hn : n ≤ 4096) (v : Value) (names : List ByteArray) (hv : Reads W0 R 1 v names.length (strs names)) :
    Calls Tryz.prog 53 #[ptr b, v] w (RetApp W0 R b (removes d names)) := by
  have hlen := (hv.at H.drop1).run_len Tryz.underlying68
  have hmx := (hv.at H.drop1).le'
  have HV := Lib.hid hv
  have HR : Hid (RmRel W0 R b n names d (.int .i64 0) w) := Lib.hid ⟨0, d, Nat.zero_le _, rfl, by simp, hi, H⟩
  clear H hi hv
  unfold ptr
  go_enter Tryz.func53, Tryz.ntmps53
  go_wp2
  go_loopw [10] (fun i wr => RmRel W0 R b n names d i wr) (fun i _ => names.length - (intOf i).toNat)
  case atStart => exact HR.out
  case round =>
    clear HR
    obtain ⟨k, d', hk, rfl, heq, hi', hH⟩ := hrel
    have Heq := Lib.hid heq
    have HI := Lib.hid hi'
    have HW := Lib.hid hH
    clear heq hi' hH
    by_cases hlt : k < names.length
    · obtain ⟨A, u, hA, hblk, hc, Hu⟩ := (HV.out.at HW.out.drop1).at1 (P := Tryz.prog) Tryz.underlying68 Tryz.size9 k hlt
      rw [Hu.out, strs_get names k hlt] at hc
      obtain ⟨s, hs⟩ : ∃ s, s = names.getD k ByteArray.empty := ⟨_, rfl⟩
      rw [← hs] at hc
      have hdrop : Hid (removes d' (names.drop k) = if (getF d'.fs s).isNone then removes d' (names.drop (k + 1)) else if (d'.remove [s]).2 = 0 then removes (d'.remove [s]).1 (names.drop (k + 1)) else d'.remove [s]) := Lib.hid (by
        rw [List.drop_eq_getElem_cons hlt, removes, show names[k] = s from by rw [hs]; simp [List.getD, hlt]])
      clear hs hblk Hu
      cases hg : getF d'.fs s with
      | none =>
        have he := Lib.hid (hdrop.out.trans (if_pos (by rw [hg]; rfl)))
        have Hg : Hid ((getF d'.fs s).isSome = false) := Lib.hid (by rw [hg]; rfl)
        clear hg
        go_wp2_with fail
        refine (has_any HW.out HI.out hn s).mono ?_
        rintro e w3 ⟨rfl, h3⟩
        rw [Hg.out]
        have H3 := Lib.hid h3
        clear h3 HW
        go_wp2
        go_roundw
        case rel => exact ⟨k + 1, d', by omega, by go_num, by rw [← he.out, Heq.out], HI.out, H3.out⟩
        case measure => simp [intOf]; omega
      | some f =>
        have h1 := hdrop.out.trans (if_neg (by rw [hg]; simp))
        have Hg : Hid ((getF d'.fs s).isSome = true) := Lib.hid (by rw [hg]; rfl)
        clear hg
        by_cases h3 : (d'.remove [s]).2 = 0
        · have he := Lib.hid (h1.trans (if_pos h3))
          have H3h := Lib.hid h3
          clear h1 h3
          go_wp2_with fail
          refine (has_any HW.out HI.out hn s).mono ?_
          rintro e w3 ⟨rfl, h3⟩
          rw [Hg.out]
          have H3 := Lib.hid h3
          clear h3 HW
          go_wp2_with fail
          refine (remove_lit H3.out rfl HI.out.ok.left s).mono ?_
          rintro e w5 ⟨rfl, H5⟩
          rw [H3h.out]
          have H5h := Lib.hid H5
          clear H3 H5
          go_wp2
          go_roundw
          case rel => exact ⟨k + 1, (d'.remove [s]).1, by omega, by go_num, by rw [← he.out, Heq.out], HI.out.remove s, H5h.out⟩
          case measure => simp [intOf]; omega
        · have he := Lib.hid (h1.trans (if_neg h3))
          obtain ⟨m, hm⟩ : ∃ m : Nat, m = (d'.remove [s]).2 := ⟨_, rfl⟩
          have hm0 : ((m : Int) == 0) = false := by rw [beq_eq_false_iff_ne]; omega
          have hm1 : ((m : Int) != 0) = true := by simp; omega
          have Hm := Lib.hid hm
          clear h1 h3 hm
          go_wp2_with fail
          refine (has_any HW.out HI.out hn s).mono ?_
          rintro e w3 ⟨rfl, h3⟩
          rw [Hg.out]
          have H3 := Lib.hid h3
          clear h3 HW
          go_wp2_with fail
          refine (remove_lit H3.out rfl HI.out.ok.left s).mono ?_
          rintro e w5 ⟨rfl, H5⟩
          rw [← Hm.out]
          have H5h := Lib.hid H5
          clear H3 H5
          go_wp2
          go_ret
          rw [← Heq.out, he.out]
          exact ⟨ret_int (by rw [Hm.out]), H5h.out⟩
    · have hend : Hid (removes d names = (d', 0)) := Lib.hid (by rw [← Heq.out, List.drop_eq_nil_of_le (by omega)]; rfl)
      go_wp2
      go_ret
      rw [hend.out]
      exact ⟨rfl, HW.out⟩
theorem removes_inv : ∀ (l : List ByteArray) {d : D}, DInv d n → DInv (removes d l).1 n
  | [], _, h => h
  | s :: l, d, h => by
    unfold removes
    split
    · exact removes_inv l h
    · split
      · exact removes_inv l (h.remove s)
      · exact h.remove s
end
end Go.Proofs.YtkbfjgmgckbogaaGreat.Ld

/-
  clears and image of chapter 5.
-/




namespace Go.Proofs.YtkbfjgmgckbogaaGreat.Ld
open Go.RowKit L Oct Dsk Fr Kp
theorem unrec_len (l : List UInt8) : (unrec l).1.length ≤ 1048576 := by
  by_cases h : (unrec l).2.2 = 0
  · obtain ⟨_, _, h3, _, _, h6⟩ := unrec_ok l h
    rw [h6]
    show ((l.drop 8).take (from4 l)).length ≤ _
    rw [List.length_take]; omega
  · rw [(unrec_bad l h).1]; simp
theorem unone_len (l : List UInt8) : (unone l).1.length ≤ 1048576 := by
  unfold unone
  split
  · simp
  · exact unrec_len l
theorem load_len (d : D) (s : ByteArray) : (Kp.load d s).1.length ≤ 1048576 := by
  unfold Kp.load
  split
  · simp
  · split
    · exact unone_len _
    · simp
theorem left_len {α : Type} (o : Option (α × List UInt8)) (l : List UInt8) (h : ∀ a r, o = some (a, r) → r.length ≤ l.length) : (left o).length ≤ l.length := by
  cases o with
  | none => simp [left]
  | some p => exact h p.1 p.2 rfl
theorem recL_len (p : List UInt8) : (left (dec 0 0 p)).length ≤ p.length := left_len _ p fun a r h => Nat.le_of_lt (dec_length p 0 0 a r h).1
theorem decRow_len (l a r : List UInt8) (h : decRow l = some (a, r)) : a.length ≤ l.length := by
  unfold decRow at h
  split at h
  · cases h
  · rename_i n r' hd
    have := (dec_length l 0 0 n r' hd).1
    split at h
    · simp only [Option.some.injEq, Prod.mk.injEq] at h
      obtain ⟨rfl, _⟩ := h
      rw [List.length_take]; omega
    · cases h
theorem recB_len (p : List UInt8) : (recB p).length ≤ p.length := by
  unfold recB got
  have h1 := recL_len p
  cases h : decRow (left (dec 0 0 p)) with
  | none => simp
  | some x =>
    have := decRow_len _ x.1 x.2 h
    show x.1.length ≤ _
    omega
theorem recN_le (p : List UInt8) : recN p ≤ 4611686018427387904 := by
  unfold recN got
  cases h : dec 0 0 p with
  | none => simp
  | some x => exact (dec_length p 0 0 x.1 x.2 h).2
section
variable {W0 w : World} {R : Asrt} {lb b n : Nat} {g : Lg} {d : D}
theorem removes_lit {bk : Nat} (H : Hold W0 ((DiskA b d).sep R) w) (hbk : w.heap.size = bk) (hi : DInv d n) (hn : n ≤ 4096) (s : ByteArray) :
    Calls Tryz.prog 53 #[ptr b, .slice (some ⟨bk, 0, none⟩) 1 1] (w.alloc (.cells #[.string s] 9)) (RetApp W0 R b (removes d [s])) := by
  subst hbk
  have H1 := (H.addLit (.string s) 9).up2
  refine (removes_any H1 hi hn (.slice (some ⟨w.heap.size, 0, none⟩) 1 1) [s] (fun w' hw' => hw'.sl)).mono ?_
  rintro e' w' ⟨h1, h2⟩
  exact ⟨h1, h2.up2.drop1⟩
/-- what a function of a ledger leaves: the disk, the ledger, the error -/
def RetL (W0 : World) (R : Asrt) (lb b : Nat) (y : D × Lg × Nat) (e : Ending) (w' : World) : Prop := e = .returned (.int .i64 y.2.2) ∧ Hold W0 ((LedgA lb b y.2.1).sep ((DiskA b y.1).sep R)) w'
theorem led_ptr (H : Hold W0 ((LedgA lb b g).sep R) w) : w.cell? ⟨lb, 0, none⟩ = some (.pointer (some ⟨b, 0, none⟩)) := by
  obtain ⟨dv, ev, vs, H1⟩ := led_open H
  exact blk_cell H1.blk 0
set_option maxHeartbeats 800000 in
theorem clears_any (H : Hold W0 ((LedgA lb b g).sep ((DiskA b d).sep R)) w) (hg : GOk g) (hi : DInv d n) (hn : n ≤ 4096) :
    Calls Tryz.prog 27 #[ptr lb] w (RetL W0 R lb b ((clears d g.pre).1, g, (clears d g.pre).2)) := by
  have hp := hg.pre
  have k0 := led_ptr H
  have m0 := World.new_ne w _ k0
  have hrun := fun w' : World => run_string_add_sum (P := Tryz.prog) (w := w') (imgN g.pre) ⟨#[126]⟩ (by show (g.pre ++ sImg).size + 1 ≤ _; rw [ByteArray.size_append]; show g.pre.size + 4 + 1 ≤ _; omega)
  have Hd := Lib.hid H.drew
  have HG := Lib.hid hg
  have HI := Lib.hid hi
  clear H hg hi
  unfold ptr
  go_enter Tryz.func27, Tryz.ntmps27
  go_wp2_with fail
  go_region_held3 (fun w' => w'.cell? ⟨lb, 0, none⟩ = some (.pointer (some ⟨b, 0, none⟩))) (first | exact hS5 | go_keep)
    (first
      | (go_at_call 52; refine (imageName_any Hd.out HG.out).mono ?_; rintro e w4 ⟨rfl, rfl⟩)
      | (go_at_call 53; refine (removes_lit Hd.out.up2 rfl HI.out hn (sh (imgN g.pre))).mono ?_; rintro e w5 ⟨rfl, H5⟩; have hS5 : w5.cell? ⟨lb, 0, none⟩ = some (.pointer (some ⟨b, 0, none⟩)) := led_ptr H5.up2))
  all_goals
    have HF := Lib.hid H5.up2
    clear H5 hS5
    go_wp2
    go_ret
    exact ⟨rfl, HF.out⟩
theorem image_put {rb : Nat} {q : List UInt8} {bad : Bool} {v5 vB : Value} {n5 : Nat} {xs5 : List Value} {N : Nat} {B : List UInt8}
    (H : Hold W0 ((Row 5 1 vB B.length (u8s B)).sep ((Rd rb q bad).sep ((Row 5 1 v5 n5 xs5).sep ((LedgA lb b g).sep ((DiskA b d).sep R))))) w) :
    (∃ u2 u3, w.cell? ⟨lb, 2, none⟩ = some u2 ∧ w.cell? ⟨lb, 3, none⟩ = some u3) ∧ w.frozen? ⟨lb, 2, none⟩ = false ∧ w.frozen? ⟨lb, 3, none⟩ = false ∧
    Hold W0 ((Rd rb q bad).sep ((LedgA lb b { g with base := N, data := B }).sep ((DiskA b d).sep R))) ((w.setCell ⟨lb, 2, none⟩ (.int .i64 N)).setCell ⟨lb, 3, none⟩ vB) := by
  obtain ⟨dv, ev, vs, H1⟩ := led_open (R := ((Row 5 1 vB B.length (u8s B)).sep ((Rd rb q bad).sep ((Row 5 1 v5 n5 xs5).sep ((DiskA b d).sep R))))) (H.perm (by ac_rfl))
  have h := (H1.setB 2 (.int .i64 N)).setB 3 vB
  refine ⟨⟨_, _, blk_cell H1.blk 2, blk_cell H1.blk 3⟩, blk_free H1.blk 2, blk_free H1.blk 3, ?_⟩
  have h2 : Hold W0 ((Row 5 1 dv g.data.length (u8s g.data)).sep ((Row 5 1 v5 n5 xs5).sep ((Blk lb #[ptr b, .string g.pre, .int .i64 N, vB, ev, .bool g.dead] 71).sep ((Row 5 1 vB B.length (u8s B)).sep ((Row 22 1 ev g.ents.length vs).sep ((Inner vs g.ents).sep ((Rd rb q bad).sep ((DiskA b d).sep R)))))))) _ := h.perm (by ac_rfl)
  have h3 := led_shut (g := { g with base := N, data := B }) h2.drop1.drop1
  exact h3.perm (by ac_rfl)
set_option maxRecDepth 100000 in
set_option maxHeartbeats 1600000 in
theorem image_any (H : Hold W0 ((LedgA lb b g).sep ((DiskA b d).sep R)) w) (hg : GOk g) (hi : DInv d n) :
    Calls Tryz.prog 28 #[ptr lb] w (RetL W0 R lb b (d, (image d g).1, (image d g).2)) := by
  have k0 := led_ptr H
  have m0 := World.new_ne w _ k0
  have Hd := Lib.hid H.drew
  have HG := Lib.hid hg
  have HFit : Hid (∀ f ∈ d.fs, f.data.length ≤ 1073741824) := Lib.hid fun f hf => (hi.fit f hf).2
  have HLn := Lib.hid (load_len d (imgN g.pre))
  obtain ⟨m, hm⟩ : ∃ m, m = (Kp.load d (imgN g.pre)).2 := ⟨_, rfl⟩
  obtain ⟨p, hp⟩ : ∃ p, p = (Kp.load d (imgN g.pre)).1 := ⟨_, rfl⟩
  have hpl : p.length ≤ 1048576 := by rw [hp]; exact HLn.out
  have HIm : Hid (image d g = if m = 7 then (g, 0) else if m = 0 then ({ g with base := recN p, data := recB p }, if recW p ∧ recN p ≤ 1099511627776 then 0 else 3) else (g, m)) := Lib.hid (by rw [image, hm, hp])
  have Hm := Lib.hid hm
  have Hp := Lib.hid hp
  clear H hg hi hm hp
  unfold ptr
  go_enter Tryz.func28, Tryz.ntmps28
  go_wp2_with fail
  go_upto_region 1 with fail
  go_cut [3, 4] (fun s3 s4 wc => ∃ v5 : Value, v5 = s3 ∧ s4 = .int .i64 m ∧ Hold W0 ((Row 5 1 v5 p.length (u8s p)).sep ((LedgA lb b g).sep ((DiskA b d).sep R))) wc)
  case first =>
    go_region_held3 (fun w' => w'.cell? ⟨lb, 0, none⟩ = some (.pointer (some ⟨b, 0, none⟩))) (first | exact hS5 | go_keep)
      (first
        | (go_at_call 52; refine (imageName_any Hd.out HG.out).mono ?_; rintro e w4 ⟨rfl, rfl⟩)
        | (go_at_call 55; refine (load_any Hd.out.up2 (imgN g.pre) HFit.out).mono ?_; rintro e w5 ⟨v5, rfl, ho5, hb5⟩; rw [← Hm.out]; rw [← Hp.out] at ho5; have H5 := Hd.out.addRow hb5 ho5; have hS5 : w5.cell? ⟨lb, 0, none⟩ = some (.pointer (some ⟨b, 0, none⟩)) := led_ptr H5.up2))
    all_goals
      have HF := Lib.hid H5
      clear H5 hS5 ho5 hb5
      go_wp2_with fail
      go_meet
      exact ⟨v5, rfl, rfl, HF.out⟩
  case rest =>
    obtain ⟨v5, rfl, rfl, h5⟩ := hcut
    have H5 := Lib.hid h5
    clear h5 Hd HLn Hm Hp k0 m0
    by_cases h7 : m = 7
    · subst h7
      have he : Hid (image d g = (g, 0)) := Lib.hid (by rw [HIm.out, if_pos rfl])
      have HF := Lib.hid H5.out.drop1
      go_wp2
      go_ret
      rw [he.out]
      exact ⟨rfl, HF.out⟩
    · have q7 : ((m : Int) == 7) = false := by rw [beq_eq_false_iff_ne]; omega
      by_cases h0 : m = 0
      · subst h0
        have he : Hid (image d g = ({ g with base := recN p, data := recB p }, if recW p ∧ recN p ≤ 1099511627776 then 0 else 3)) := Lib.hid (by rw [HIm.out, if_neg h7, if_pos rfl])
        clear h7
        go_wp2_with fail
        refine (newReader_any H5.out v5 p H5.out.sl (by omega)).mono ?_
        rintro e w6 ⟨_, rfl, rb, rfl, h6⟩
        have H6 := Lib.hid h6
        clear h6 H5
        go_wp2_with fail
        refine (num_any H6.out (by omega)).mono ?_
        rintro e w7 ⟨rfl, h7⟩
        have H7 := Lib.hid h7
        have hll := recL_len p
        clear h7 H6
        go_wp2_with fail
        refine (rbytes_any H7.out (by omega)).mono ?_
        rintro e w8 ⟨vB, rfl, h8⟩
        obtain ⟨⟨u2, u3, k2, k3⟩, f2, f3, h9⟩ := image_put (N := recN p) h8
        obtain ⟨ao8, cap8, rfl⟩ := (show Own w8 0 5 1 vB (recB p).length (u8s (recB p)) from h8.own).shape
        have H9 := Lib.hid h9
        have hRN : recN p = got 0 (dec 0 0 p) := rfl
        rw [← hRN]
        obtain ⟨N, hN⟩ : ∃ N, N = recN p := ⟨_, rfl⟩
        have hrw : Hid ((!((false || (dec 0 0 p).isNone) || (decRow (left (dec 0 0 p))).isNone) && (left (decRow (left (dec 0 0 p)))).isEmpty) = recW p) := Lib.hid (by simp [recW])
        rw [← hN] at H9 he ⊢
        have hN2 : N ≤ 4611686018427387904 := by rw [hN]; exact recN_le p
        clear h8 H7 h9 hRN hN hll
        go_wp2_with fail
        refine (whole_any H9.out).mono ?_
        rintro e w9 ⟨rfl, rfl⟩
        rw [hrw.out]
        have HF := Lib.hid H9.out.drop1
        clear H9 hrw
        cases hW : recW p with
        | false =>
          have he2 := Lib.hid (he.out.trans (by rw [hW]; rfl : _ = ({ g with base := N, data := recB p }, 3)))
          go_wp2
          go_ret
          rw [he2.out]
          exact ⟨rfl, HF.out⟩
        | true =>
          by_cases hbig : N ≤ 1099511627776
          · have he2 := Lib.hid (he.out.trans (by rw [if_pos ⟨hW, hbig⟩] : _ = ({ g with base := N, data := recB p }, 0)))
            have g1 : decide ((1099511627776 : Int) < (N : Int)) = false := by simp; omega
            clear hbig
            go_wp2
            go_ret
            rw [he2.out]
            exact ⟨rfl, HF.out⟩
          · have he2 := Lib.hid (he.out.trans (by rw [if_neg (fun h => hbig h.2)] : _ = ({ g with base := N, data := recB p }, 3)))
            have g1 : decide ((1099511627776 : Int) < (N : Int)) = true := by simp; omega
            clear hbig
            go_wp2
            go_ret
            rw [he2.out]
            exact ⟨rfl, HF.out⟩
      · have he : Hid (image d g = (g, m)) := Lib.hid (by rw [HIm.out, if_neg h7, if_neg h0])
        have q0 : ((m : Int) == 0) = false := by rw [beq_eq_false_iff_ne]; omega
        have q1 : ((m : Int) != 0) = true := by simp; omega
        have HF := Lib.hid H5.out.drop1
        clear h7 h0
        go_wp2
        go_ret
        rw [he.out]
        exact ⟨rfl, HF.out⟩
end
end Go.Proofs.YtkbfjgmgckbogaaGreat.Ld
