/-
  Texts that the proofs of this seat stand on, one behind the other: contracts of functions and plain lemmas. Conditions: those that each theorem states.
-/
import Derived.Test.YtkbfjgmgckbogaaF12
import Derived.Deep.RegionHeld3
import Derived.Deep.QuietTactic
import Derived.BigQuiet
/-
  has and removes of chapter 5.
-/

namespace Go.Proofs.Ytkbfjgmgckbogaa.Ld
open Go.RowKit L Oct Dsk Fr Kp
section
variable {W0 w : World} {R : Asrt} {b n : Nat} {d : D}
theorem has_names (fs : List AF) (s : ByteArray) : hasN (sortN (fs.map AF.name)) s = (getF fs s).isSome := by
  have hm : ∀ x, x ∈ sortN (fs.map AF.name) ↔ x ∈ fs.map AF.name := fun x => (sortN_perm _).mem_iff
  cases hg : getF fs s with
  | none =>
    refine hasN_no fun h => ?_
    obtain ⟨f, hf, hn⟩ := List.mem_map.1 ((hm s).1 h)
    exact getF_none hg f hf hn
  | some f =>
    obtain ⟨h1, h2⟩ := getF_name hg
    exact hasN_yes ((hm s).2 (List.mem_map.2 ⟨f, h1, h2⟩))
def RetHasD (W0 : World) (R : Asrt) (b : Nat) (d : D) (x : Bool) (e : Ending) (w' : World) : Prop := e = .returned (.bool x) ∧ Hold W0 ((DiskA b d).sep R) w'
theorem has_any (H : Hold W0 ((DiskA b d).sep R) w) (hi : DInv d n) (hn : n ≤ 4096) (s : ByteArray) :
    Calls Try.prog 43 #[ptr b, .string s] w (RetHasD W0 R b d (getF d.fs s).isSome) := by
  have hl := list_any H (Nat.le_trans hi.len hn) (fun f hf => Nat.le_trans (hi.names f hf) (by omega))
  obtain ⟨names, hnm⟩ : ∃ names, names = sortN (d.fs.map AF.name) := ⟨_, rfl⟩
  have hnl : names.length = d.fs.length := by rw [hnm, (sortN_perm _).length_eq, List.length_map]
  have hh : Hid (hasN names s = (getF d.fs s).isSome) := Lib.hid (by rw [hnm, has_names])
  unfold RetList at hl
  rw [← hnm, ← hnl] at hl
  have HL := Lib.hid hl
  clear hl hnm hnl H hi hn
  unfold ptr at HL ⊢
  go_enter Try.func43, Try.ntmps43
  go_wp2_with fail
  refine HL.out.mono ?_
  rintro e w2 ⟨v, rfl, h2⟩
  have H2 := Lib.hid h2
  clear h2 HL
  go_wp2_with fail
  refine (contains_any v names s _ H2.out.sl).mono ?_
  rintro e w3 ⟨rfl, hb3⟩
  have H3 := Lib.hid (H2.out.keeps hb3).drop1
  clear hb3 H2
  go_wp2
  go_ret
  rw [hh.out]
  exact ⟨rfl, H3.out⟩
def RmRel (W0 : World) (R : Asrt) (b n : Nat) (names : List ByteArray) (d : D) (i : Value) (wr : World) : Prop :=
  ∃ (k : Nat) (d' : D), k ≤ names.length ∧ i = .int .i64 k ∧ removes d' (names.drop k) = removes d names ∧ DInv d' n ∧ Hold W0 ((DiskA b d').sep R) wr
set_option maxRecDepth 100000 in
set_option maxHeartbeats 1600000 in
theorem removes_any (H : Hold W0 ((DiskA b d).sep R) w) (hi : DInv d n) (hn : n ≤ 4096) (v : Value) (names : List ByteArray) (hv : Reads W0 R 1 v names.length (strs names)) :
    Calls Try.prog 35 #[ptr b, v] w (RetApp W0 R b (removes d names)) := by
  have hlen := (hv.at H.drop1).run_len Try.underlying50
  have hmx := (hv.at H.drop1).le'
  have HV := Lib.hid hv
  have HR : Hid (RmRel W0 R b n names d (.int .i64 0) w) := Lib.hid ⟨0, d, Nat.zero_le _, rfl, by simp, hi, H⟩
  clear H hi hv
  unfold ptr
  go_enter Try.func35, Try.ntmps35
  go_wp2
  go_loopw [10] (fun i wr => RmRel W0 R b n names d i wr) (fun i _ => names.length - (intOf i).toNat)
  case atStart => exact HR.out
  case round =>
    clear HR
    obtain ⟨k, d', hk, rfl, heq, hi', hH⟩ := hrel
    have Heq := Lib.hid heq
    have HI := Lib.hid hi'
    have HW := Lib.hid hH
    clear heq hi' hH
    by_cases hlt : k < names.length
    · obtain ⟨A, u, hA, hblk, hc, Hu⟩ := (HV.out.at HW.out.drop1).at1 (P := Try.prog) Try.underlying50 Try.size9 k hlt
      rw [Hu.out, strs_get names k hlt] at hc
      obtain ⟨s, hs⟩ : ∃ s, s = names.getD k ByteArray.empty := ⟨_, rfl⟩
      rw [← hs] at hc
      have hdrop : Hid (removes d' (names.drop k) = if (getF d'.fs s).isNone then removes d' (names.drop (k + 1)) else if (d'.remove [s]).2 = 0 then removes (d'.remove [s]).1 (names.drop (k + 1)) else d'.remove [s]) := Lib.hid (by
        rw [List.drop_eq_getElem_cons hlt, removes, show names[k] = s from by rw [hs]; simp [List.getD, hlt]])
      clear hs hblk Hu
      cases hg : getF d'.fs s with
      | none =>
        have he := Lib.hid (hdrop.out.trans (if_pos (by rw [hg]; rfl)))
        have Hg : Hid ((getF d'.fs s).isSome = false) := Lib.hid (by rw [hg]; rfl)
        clear hg
        go_wp2_with fail
        refine (has_any HW.out HI.out hn s).mono ?_
        rintro e w3 ⟨rfl, h3⟩
        rw [Hg.out]
        have H3 := Lib.hid h3
        clear h3 HW
        go_wp2
        go_roundw
        case rel => exact ⟨k + 1, d', by omega, by go_num, by rw [← he.out, Heq.out], HI.out, H3.out⟩
        case measure => simp [intOf]; omega
      | some f =>
        have h1 := hdrop.out.trans (if_neg (by rw [hg]; simp))
        have Hg : Hid ((getF d'.fs s).isSome = true) := Lib.hid (by rw [hg]; rfl)
        clear hg
        by_cases h3 : (d'.remove [s]).2 = 0
        · have he := Lib.hid (h1.trans (if_pos h3))
          have H3h := Lib.hid h3
          clear h1 h3
          go_wp2_with fail
          refine (has_any HW.out HI.out hn s).mono ?_
          rintro e w3 ⟨rfl, h3⟩
          rw [Hg.out]
          have H3 := Lib.hid h3
          clear h3 HW
          go_wp2_with fail
          refine (remove_lit H3.out rfl HI.out.ok.left s).mono ?_
          rintro e w5 ⟨rfl, H5⟩
          rw [H3h.out]
          have H5h := Lib.hid H5
          clear H3 H5
          go_wp2
          go_roundw
          case rel => exact ⟨k + 1, (d'.remove [s]).1, by omega, by go_num, by rw [← he.out, Heq.out], HI.out.remove s, H5h.out⟩
          case measure => simp [intOf]; omega
        · have he := Lib.hid (h1.trans (if_neg h3))
          obtain ⟨m, hm⟩ : ∃ m : Nat, m = (d'.remove [s]).2 := ⟨_, rfl⟩
          have hm0 : ((m : Int) == 0) = false := by rw [beq_eq_false_iff_ne]; omega
          have hm1 : ((m : Int) != 0) = true := by simp; omega
          have Hm := Lib.hid hm
          clear h1 h3 hm
          go_wp2_with fail
          refine (has_any HW.out HI.out hn s).mono ?_
          rintro e w3 ⟨rfl, h3⟩
          rw [Hg.out]
          have H3 := Lib.hid h3
          clear h3 HW
          go_wp2_with fail
          refine (remove_lit H3.out rfl HI.out.ok.left s).mono ?_
          rintro e w5 ⟨rfl, H5⟩
          rw [← Hm.out]
          have H5h := Lib.hid H5
          clear H3 H5
          go_wp2
          go_ret
          rw [← Heq.out, he.out]
          exact ⟨ret_int (by rw [Hm.out]), H5h.out⟩
    · have hend : Hid (removes d names = (d', 0)) := Lib.hid (by rw [← Heq.out, List.drop_eq_nil_of_le (by omega)]; rfl)
      go_wp2
      go_ret
      rw [hend.out]
      exact ⟨rfl, HW.out⟩
theorem removes_inv : ∀ (l : List ByteArray) {d : D}, DInv d n → DInv (removes d l).1 n
  | [], _, h => h
  | s :: l, d, h => by
    unfold removes
    split
    · exact removes_inv l h
    · split
      · exact removes_inv l (h.remove s)
      · exact h.remove s
end
end Go.Proofs.Ytkbfjgmgckbogaa.Ld

/-
  The small functions of a ledger (chapter 5): its files' names, Last, Base, At, dies.
-/




namespace Go.Proofs.Ytkbfjgmgckbogaa.Ld
open Go.RowKit L Oct Dsk Fr Kp
theorem cell_on {w w' : World} {p : Addr} {v : Value} (hb : Below w.heap.size w w') (h : w.cell? p = some v) : w'.cell? p = some v := (hb.cell (World.block_lt_of_cell? w _ h)).trans h
section
variable {W0 w : World} {R : Asrt} {lb b : Nat} {g : Lg}
theorem imageName_any (H : Hold W0 ((LedgA lb b g).sep R) w) (hg : GOk g) :
    Calls Try.prog 34 #[ptr lb] w fun e w' => e = .returned (.string (imgN g.pre)) ∧ w = w' := by
  obtain ⟨dv, ev, vs, H1⟩ := led_open H
  have k1 := blk_cell H1.blk 1
  have hp := hg.pre
  have hrun := fun w' : World => run_string_add_sum (P := Try.prog) (w := w') g.pre sImg (by show g.pre.size + 4 ≤ _; omega)
  unfold sImg at hrun
  clear H H1 hg hp
  unfold ptr imgN sImg
  go_enter Try.func34, Try.ntmps34
  go_wp2
  go_ret
  exact ⟨rfl, rfl⟩
theorem logName_any (H : Hold W0 ((LedgA lb b g).sep R) w) (hg : GOk g) :
    Calls Try.prog 29 #[ptr lb] w fun e w' => e = .returned (.string (logN g.pre)) ∧ w = w' := by
  obtain ⟨dv, ev, vs, H1⟩ := led_open H
  have k1 := blk_cell H1.blk 1
  have hp := hg.pre
  have hrun := fun w' : World => run_string_add_sum (P := Try.prog) (w := w') g.pre sLog (by show g.pre.size + 4 ≤ _; omega)
  unfold sLog at hrun
  clear H H1 hg hp
  unfold ptr logN sLog
  go_enter Try.func29, Try.ntmps29
  go_wp2
  go_ret
  exact ⟨rfl, rfl⟩
def RetDrew (w : World) (v : Value) (e : Ending) (w' : World) : Prop := e = .returned v ∧ ∃ n, w' = w.drewN n
theorem last_any (H : Hold W0 ((LedgA lb b g).sep R) w) (hg : GOk g) :
    Calls Try.prog 14 #[ptr lb] w (RetDrew w (.int .i64 (g.last : Nat))) := by
  obtain ⟨dv, ev, vs, H1⟩ := led_open H
  have k2 := blk_cell H1.blk 2
  have k4 := blk_cell H1.blk 4
  have hlen := H1.up3.sl.run_len Try.underlying45
  have hb := hg.base
  have hn := hg.len
  have a1 : IntKind.i64.wrap ((g.base : Int) + (g.ents.length : Int)) = (g.base : Int) + (g.ents.length : Int) := IntWalk.i64_in _ (by omega)
  have e1 : Hid (((g.last : Nat) : Int) = (g.base : Int) + (g.ents.length : Int)) := Lib.hid (by unfold Lg.last; omega)
  clear H H1 hb hn hg
  unfold ptr
  go_enter Try.func14, Try.ntmps14
  go_wp2_with fail
  go_quiet (fail)
  go_wp2
  go_ret
  rw [e1.out]
  exact ⟨rfl, _, rfl⟩
def RetBase (w : World) (g : Lg) (e : Ending) (w' : World) : Prop := ∃ v, e = .returned (.tuple #[.int .i64 g.base, v]) ∧ Own w' w.heap.size 5 1 v g.data.length (u8s g.data) ∧ Below w.heap.size w w'
set_option maxHeartbeats 800000 in
theorem base_any (H : Hold W0 ((LedgA lb b g).sep R) w) (hg : GOk g) : Calls Try.prog 18 #[ptr lb] w (RetBase w g) := by
  obtain ⟨dv, ev, vs, H1⟩ := led_open H
  have k2 := blk_cell H1.blk 2
  have k3 := blk_cell H1.blk 3
  have hd := hg.data
  have HS := Lib.hid H1.up2.sl
  clear H H1 hg
  unfold ptr
  go_enter Try.func18, Try.ntmps18
  go_wp2_with fail
  go_region_held3 (fun w' => w'.cell? ⟨lb, 2, none⟩ = some (.int .i64 g.base) ∧ w'.cell? ⟨lb, 3, none⟩ = some dv) (first | exact hS5 | go_keep)
    (first | (go_at_call 32; refine (clone_any dv g.data _ (HS.out.below' (Below.refl _ _).drew) (by omega)).mono ?_; rintro e w5 ⟨v5, rfl, ho5, hb5⟩; have hS5 : w5.cell? ⟨lb, 2, none⟩ = some (.int .i64 g.base) ∧ w5.cell? ⟨lb, 3, none⟩ = some dv := ⟨cell_on hb5 k2, cell_on hb5 k3⟩))
  all_goals
    have HF : Hid (Own w5 w.heap.size 5 1 v5 g.data.length (u8s g.data) ∧ Below w.heap.size w w5) := Lib.hid ⟨ho5, (Below.refl _ _).drew.trans hb5⟩
    clear ho5 hb5 hS5
    go_wp2
    go_ret2
    exact ⟨_, rfl, HF.out.1, HF.out.2⟩
def RetAt (w : World) (o : Option (List UInt8)) (e : Ending) (w' : World) : Prop :=
  (o = none ∧ e = .returned (.tuple #[.slice none 0 0, .int .i64 7]) ∧ Below w.heap.size w w') ∨ ∃ l v, o = some l ∧ e = .returned (.tuple #[v, .int .i64 0]) ∧ Own w' w.heap.size 5 1 v l.length (u8s l) ∧ Below w.heap.size w w'
def Lg.at (g : Lg) (i : Int) : Option (List UInt8) := if i ≤ g.base ∨ (g.last : Int) < i then none else some (g.ents.getD (i.toNat - g.base - 1) [])
set_option maxHeartbeats 1600000 in
theorem at_any (H : Hold W0 ((LedgA lb b g).sep R) w) (hg : GOk g) (i : Int) (hi1 : -9223372036854775808 ≤ i) (hi2 : i ≤ 9223372036854775807) : Calls Try.prog 17 #[ptr lb, .int .i64 i] w (RetAt w (g.at i)) := by
  obtain ⟨dv, ev, vs, H1⟩ := led_open H
  have k2 := blk_cell H1.blk 2
  have k4 := blk_cell H1.blk 4
  have HL := Lib.hid (last_any H hg)
  have HR := Lib.hid (H1.drop1.drop1.rowsAt rfl)
  have hn := hg.len
  have hbs := hg.base
  have hent := Lib.hid hg.ent
  clear H1
  by_cases h1 : i ≤ g.base
  · have Hr : Hid (g.at i = none) := Lib.hid (by rw [Lg.at, if_pos (.inl h1)])
    have g1 : decide (i ≤ (g.base : Int)) = true := by simpa using h1
    clear H hg h1
    unfold ptr at HL ⊢
    go_enter Try.func17, Try.ntmps17
    go_wp2_with (go_at_call 14; refine HL.out.mono ?_; rintro e w5 ⟨rfl, n5, rfl⟩)
    go_ret2
    rw [Hr.out]
    exact .inl ⟨rfl, rfl, Below.refl _ _⟩
  · have g1 : decide (i ≤ (g.base : Int)) = false := by simpa using h1
    by_cases h2 : (g.last : Int) < i
    · have Hr : Hid (g.at i = none) := Lib.hid (by rw [Lg.at, if_pos (.inr h2)])
      have g2 : decide ((g.last : Int) < i) = true := by simpa using h2
      clear H hg h1 h2
      unfold ptr at HL ⊢
      go_enter Try.func17, Try.ntmps17
      go_wp2_with (go_at_call 14; refine HL.out.mono ?_; rintro e w5 ⟨rfl, n5, rfl⟩)
      go_ret2
      rw [Hr.out]
      exact .inl ⟨rfl, rfl, below_drewN (Below.refl _ _) _⟩
    · have g2 : decide ((g.last : Int) < i) = false := by simpa using h2
      obtain ⟨j, hj⟩ : ∃ j : Nat, j = i.toNat - g.base - 1 := ⟨_, rfl⟩
      have hlast : g.last = g.base + g.ents.length := rfl
      have hji : i = (g.base : Int) + (j : Int) + 1 := by omega
      have hjl : j < g.ents.length := by omega
      have Hr : Hid (g.at i = some (g.ents.getD j [])) := Lib.hid (by rw [Lg.at, if_neg (by omega), hj])
      obtain ⟨A, v4, x, hA, _, c4, Hx, hs4⟩ := HR.out.at (P := Try.prog) Try.underlying45 Try.size33 j hjl
      have e0 : i - (g.base : Int) - 1 = (j : Int) := by omega
      rw [← e0] at hA
      have a1 : IntKind.i64.wrap (i - (g.base : Int)) = i - (g.base : Int) := IntWalk.i64_in _ (by omega)
      have a2 : IntKind.i64.wrap (i - (g.base : Int) - 1) = i - (g.base : Int) - 1 := IntWalk.i64_in _ (by omega)
      have hxl : x.length ≤ 1073741824 := by rw [Hx.out]; exact hent.out _ (by simp [List.getD, hjl])
      rw [← Hx.out] at Hr
      have HS := Lib.hid hs4
      clear H hg h1 h2 hj hlast hji hjl e0 Hx hs4 hn hbs
      unfold ptr at HL ⊢
      go_enter Try.func17, Try.ntmps17
      go_wp2_with (go_at_call 14; refine HL.out.mono ?_; rintro e w5 ⟨rfl, n5, rfl⟩)
      go_region_held3 (fun w' => w'.cell? ⟨lb, 2, none⟩ = some (.int .i64 g.base) ∧ w'.cell? ⟨lb, 4, none⟩ = some ev ∧ w'.cell? A = some v4) (first | exact hS6 | go_keep)
        (first | (go_at_call 32; refine (clone_any v4 x _ (HS.out.below' ((below_drewN (Below.refl _ _) n5).drew)) (by omega)).mono ?_; rintro e w6 ⟨v6, rfl, ho6, hb6⟩; have hS6 : w6.cell? ⟨lb, 2, none⟩ = some (.int .i64 g.base) ∧ w6.cell? ⟨lb, 4, none⟩ = some ev ∧ w6.cell? A = some v4 := ⟨cell_on hb6 k2, cell_on hb6 k4, cell_on hb6 c4⟩))
      all_goals
        have HF : Hid (Own w6 w.heap.size 5 1 v6 x.length (u8s x) ∧ Below w.heap.size w w6) := Lib.hid ⟨ho6, (below_drewN (Below.refl _ _) n5).drew.trans hb6⟩
        clear ho6 hb6 hS6 a1 a2
        go_wp2
        go_ret2
        rw [Hr.out]
        exact .inr ⟨_, _, rfl, rfl, HF.out.1, HF.out.2⟩
theorem dies_any (H : Hold W0 ((LedgA lb b g).sep R) w) (m : Nat) :
    Calls Try.prog 31 #[ptr lb, .int .i64 m] w fun e w' => e = .returned (.int .i64 m) ∧ Hold W0 ((LedgA lb b { g with dead := g.dead || !decide (m = 0) }).sep R) w' := by
  obtain ⟨dv, ev, vs, H1⟩ := led_open H
  have k5 := blk_cell H1.blk 5
  have f5 := blk_free H1.blk 5
  have HH := fun x : Bool => led_shut (g := { g with dead := x }) (H1.setB 5 (.bool x))
  have H2 := Lib.hid HH
  clear H H1 HH
  unfold ptr
  cases hd : g.dead with
  | true =>
    rw [hd] at k5
    go_enter Try.func31, Try.ntmps31
    go_wp2
    go_ret
    exact ⟨rfl, H2.out true⟩
  | false =>
    rw [hd] at k5
    by_cases hm : m = 0
    · subst hm
      go_enter Try.func31, Try.ntmps31
      go_wp2
      go_ret
      exact ⟨rfl, H2.out false⟩
    · have e1 : (!decide (m = 0)) = true := by simpa using hm
      have hm1 : ((m : Int) != 0) = true := by simp; omega
      have e2 := Lib.hid e1
      clear hm e1
      go_enter Try.func31, Try.ntmps31
      go_wp2
      go_ret
      rw [e2.out]
      exact ⟨rfl, H2.out true⟩
end
end Go.Proofs.Ytkbfjgmgckbogaa.Ld
