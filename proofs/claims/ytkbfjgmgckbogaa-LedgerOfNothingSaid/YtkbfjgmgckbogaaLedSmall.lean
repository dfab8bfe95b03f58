/-
  The small functions of a ledger (chapter 5): its files' names, Last, Base, At, dies.
-/
import Derived.Test.YtkbfjgmgckbogaaF10
import Derived.Deep.RegionHeld3
import Derived.Deep.QuietTactic
import Derived.BigQuiet
namespace Go.Proofs.Ytkbfjgmgckbogaa.Ld
open Go.RowKit L Oct Dsk Fr Kp
theorem cell_on {w w' : World} {p : Addr} {v : Value} (hb : Below w.heap.size w w') (h : w.cell? p = some v) : w'.cell? p = some v := (hb.cell (World.block_lt_of_cell? w _ h)).trans h
section
variable {W0 w : World} {R : Asrt} {lb b : Nat} {g : Lg}
theorem imageName_any (H : Hold W0 ((LedgA lb b g).sep R) w) (hg : GOk g) :
    Calls Try.prog 34 #[ptr lb] w fun e w' => e = .returned (.string (imgN g.pre)) ∧ w = w' := by
  obtain ⟨dv, ev, vs, H1⟩ := led_open H
  have k1 := blk_cell H1.blk 1
  have hp := hg.pre
  have hrun := fun w' : World => run_string_add_sum (P := Try.prog) (w := w') g.pre sImg (by show g.pre.size + 4 ≤ _; omega)
  unfold sImg at hrun
  clear H H1 hg hp
  unfold ptr imgN sImg
  go_enter Try.func34, Try.ntmps34
  go_wp2
  go_ret
  exact ⟨rfl, rfl⟩
theorem logName_any (H : Hold W0 ((LedgA lb b g).sep R) w) (hg : GOk g) :
    Calls Try.prog 29 #[ptr lb] w fun e w' => e = .returned (.string (logN g.pre)) ∧ w = w' := by
  obtain ⟨dv, ev, vs, H1⟩ := led_open H
  have k1 := blk_cell H1.blk 1
  have hp := hg.pre
  have hrun := fun w' : World => run_string_add_sum (P := Try.prog) (w := w') g.pre sLog (by show g.pre.size + 4 ≤ _; omega)
  unfold sLog at hrun
  clear H H1 hg hp
  unfold ptr logN sLog
  go_enter Try.func29, Try.ntmps29
  go_wp2
  go_ret
  exact ⟨rfl, rfl⟩
def RetDrew (w : World) (v : Value) (e : Ending) (w' : World) : Prop := e = .returned v ∧ ∃ n, w' = w.drewN n
theorem last_any (H : Hold W0 ((LedgA lb b g).sep R) w) (hg : GOk g) :
    Calls Try.prog 14 #[ptr lb] w (RetDrew w (.int .i64 (g.last : Nat))) := by
  obtain ⟨dv, ev, vs, H1⟩ := led_open H
  have k2 := blk_cell H1.blk 2
  have k4 := blk_cell H1.blk 4
  have hlen := H1.up3.sl.run_len Try.underlying45
  have hb := hg.base
  have hn := hg.len
  have a1 : IntKind.i64.wrap ((g.base : Int) + (g.ents.length : Int)) = (g.base : Int) + (g.ents.length : Int) := IntWalk.i64_in _ (by omega)
  have e1 : Hid (((g.last : Nat) : Int) = (g.base : Int) + (g.ents.length : Int)) := Lib.hid (by unfold Lg.last; omega)
  clear H H1 hb hn hg
  unfold ptr
  go_enter Try.func14, Try.ntmps14
  go_wp2_with fail
  go_quiet (fail)
  go_wp2
  go_ret
  rw [e1.out]
  exact ⟨rfl, _, rfl⟩
def RetBase (w : World) (g : Lg) (e : Ending) (w' : World) : Prop := ∃ v, e = .returned (.tuple #[.int .i64 g.base, v]) ∧ Own w' w.heap.size 5 1 v g.data.length (u8s g.data) ∧ Below w.heap.size w w'
set_option maxHeartbeats 800000 in
theorem base_any (H : Hold W0 ((LedgA lb b g).sep R) w) (hg : GOk g) : Calls Try.prog 18 #[ptr lb] w (RetBase w g) := by
  obtain ⟨dv, ev, vs, H1⟩ := led_open H
  have k2 := blk_cell H1.blk 2
  have k3 := blk_cell H1.blk 3
  have hd := hg.data
  have HS := Lib.hid H1.up2.sl
  clear H H1 hg
  unfold ptr
  go_enter Try.func18, Try.ntmps18
  go_wp2_with fail
  go_region_held3 (fun w' => w'.cell? ⟨lb, 2, none⟩ = some (.int .i64 g.base) ∧ w'.cell? ⟨lb, 3, none⟩ = some dv) (first | exact hS5 | go_keep)
    (first | (go_at_call 32; refine (clone_any dv g.data _ (HS.out.below' (Below.refl _ _).drew) (by omega)).mono ?_; rintro e w5 ⟨v5, rfl, ho5, hb5⟩; have hS5 : w5.cell? ⟨lb, 2, none⟩ = some (.int .i64 g.base) ∧ w5.cell? ⟨lb, 3, none⟩ = some dv := ⟨cell_on hb5 k2, cell_on hb5 k3⟩))
  all_goals
    have HF : Hid (Own w5 w.heap.size 5 1 v5 g.data.length (u8s g.data) ∧ Below w.heap.size w w5) := Lib.hid ⟨ho5, (Below.refl _ _).drew.trans hb5⟩
    clear ho5 hb5 hS5
    go_wp2
    go_ret2
    exact ⟨_, rfl, HF.out.1, HF.out.2⟩
def RetAt (w : World) (o : Option (List UInt8)) (e : Ending) (w' : World) : Prop :=
  (o = none ∧ e = .returned (.tuple #[.slice none 0 0, .int .i64 7]) ∧ Below w.heap.size w w') ∨ ∃ l v, o = some l ∧ e = .returned (.tuple #[v, .int .i64 0]) ∧ Own w' w.heap.size 5 1 v l.length (u8s l) ∧ Below w.heap.size w w'
def Lg.at (g : Lg) (i : Int) : Option (List UInt8) := if i ≤ g.base ∨ (g.last : Int) < i then none else some (g.ents.getD (i.toNat - g.base - 1) [])
set_option maxHeartbeats 1600000 in
theorem at_any (H : Hold W0 ((LedgA lb b g).sep R) w) (hg : GOk g) (i : Int) (hi1 : -9223372036854775808 ≤ i) (hi2 : i ≤ 9223372036854775807) : Calls Try.prog 17 #[ptr lb, .int .i64 i] w (RetAt w (g.at i)) := by
  obtain ⟨dv, ev, vs, H1⟩ := led_open H
  have k2 := blk_cell H1.blk 2
  have k4 := blk_cell H1.blk 4
  have HL := Lib.hid (last_any H hg)
  have HR := Lib.hid (H1.drop1.drop1.rowsAt rfl)
  have hn := hg.len
  have hbs := hg.base
  have hent := Lib.hid hg.ent
  clear H1
  by_cases h1 : i ≤ g.base
  · have Hr : Hid (g.at i = none) := Lib.hid (by rw [Lg.at, if_pos (.inl h1)])
    have g1 : decide (i ≤ (g.base : Int)) = true := by simpa using h1
    clear H hg h1
    unfold ptr at HL ⊢
    go_enter Try.func17, Try.ntmps17
    go_wp2_with (go_at_call 14; refine HL.out.mono ?_; rintro e w5 ⟨rfl, n5, rfl⟩)
    go_ret2
    rw [Hr.out]
    exact .inl ⟨rfl, rfl, Below.refl _ _⟩
  · have g1 : decide (i ≤ (g.base : Int)) = false := by simpa using h1
    by_cases h2 : (g.last : Int) < i
    · have Hr : Hid (g.at i = none) := Lib.hid (by rw [Lg.at, if_pos (.inr h2)])
      have g2 : decide ((g.last : Int) < i) = true := by simpa using h2
      clear H hg h1 h2
      unfold ptr at HL ⊢
      go_enter Try.func17, Try.ntmps17
      go_wp2_with (go_at_call 14; refine HL.out.mono ?_; rintro e w5 ⟨rfl, n5, rfl⟩)
      go_ret2
      rw [Hr.out]
      exact .inl ⟨rfl, rfl, below_drewN (Below.refl _ _) _⟩
    · have g2 : decide ((g.last : Int) < i) = false := by simpa using h2
      obtain ⟨j, hj⟩ : ∃ j : Nat, j = i.toNat - g.base - 1 := ⟨_, rfl⟩
      have hlast : g.last = g.base + g.ents.length := rfl
      have hji : i = (g.base : Int) + (j : Int) + 1 := by omega
      have hjl : j < g.ents.length := by omega
      have Hr : Hid (g.at i = some (g.ents.getD j [])) := Lib.hid (by rw [Lg.at, if_neg (by omega), hj])
      obtain ⟨A, v4, x, hA, _, c4, Hx, hs4⟩ := HR.out.at (P := Try.prog) Try.underlying45 Try.size33 j hjl
      have e0 : i - (g.base : Int) - 1 = (j : Int) := by omega
      rw [← e0] at hA
      have a1 : IntKind.i64.wrap (i - (g.base : Int)) = i - (g.base : Int) := IntWalk.i64_in _ (by omega)
      have a2 : IntKind.i64.wrap (i - (g.base : Int) - 1) = i - (g.base : Int) - 1 := IntWalk.i64_in _ (by omega)
      have hxl : x.length ≤ 1073741824 := by rw [Hx.out]; exact hent.out _ (by simp [List.getD, hjl])
      rw [← Hx.out] at Hr
      have HS := Lib.hid hs4
      clear H hg h1 h2 hj hlast hji hjl e0 Hx hs4 hn hbs
      unfold ptr at HL ⊢
      go_enter Try.func17, Try.ntmps17
      go_wp2_with (go_at_call 14; refine HL.out.mono ?_; rintro e w5 ⟨rfl, n5, rfl⟩)
      go_region_held3 (fun w' => w'.cell? ⟨lb, 2, none⟩ = some (.int .i64 g.base) ∧ w'.cell? ⟨lb, 4, none⟩ = some ev ∧ w'.cell? A = some v4) (first | exact hS6 | go_keep)
        (first | (go_at_call 32; refine (clone_any v4 x _ (HS.out.below' ((below_drewN (Below.refl _ _) n5).drew)) (by omega)).mono ?_; rintro e w6 ⟨v6, rfl, ho6, hb6⟩; have hS6 : w6.cell? ⟨lb, 2, none⟩ = some (.int .i64 g.base) ∧ w6.cell? ⟨lb, 4, none⟩ = some ev ∧ w6.cell? A = some v4 := ⟨cell_on hb6 k2, cell_on hb6 k4, cell_on hb6 c4⟩))
      all_goals
        have HF : Hid (Own w6 w.heap.size 5 1 v6 x.length (u8s x) ∧ Below w.heap.size w w6) := Lib.hid ⟨ho6, (below_drewN (Below.refl _ _) n5).drew.trans hb6⟩
        clear ho6 hb6 hS6 a1 a2
        go_wp2
        go_ret2
        rw [Hr.out]
        exact .inr ⟨_, _, rfl, rfl, HF.out.1, HF.out.2⟩
theorem dies_any (H : Hold W0 ((LedgA lb b g).sep R) w) (m : Nat) :
    Calls Try.prog 31 #[ptr lb, .int .i64 m] w fun e w' => e = .returned (.int .i64 m) ∧ Hold W0 ((LedgA lb b { g with dead := g.dead || !decide (m = 0) }).sep R) w' := by
  obtain ⟨dv, ev, vs, H1⟩ := led_open H
  have k5 := blk_cell H1.blk 5
  have f5 := blk_free H1.blk 5
  have HH := fun x : Bool => led_shut (g := { g with dead := x }) (H1.setB 5 (.bool x))
  have H2 := Lib.hid HH
  clear H H1 HH
  unfold ptr
  cases hd : g.dead with
  | true =>
    rw [hd] at k5
    go_enter Try.func31, Try.ntmps31
    go_wp2
    go_ret
    exact ⟨rfl, H2.out true⟩
  | false =>
    rw [hd] at k5
    by_cases hm : m = 0
    · subst hm
      go_enter Try.func31, Try.ntmps31
      go_wp2
      go_ret
      exact ⟨rfl, H2.out false⟩
    · have e1 : (!decide (m = 0)) = true := by simpa using hm
      have hm1 : ((m : Int) != 0) = true := by simp; omega
      have e2 := Lib.hid e1
      clear hm e1
      go_enter Try.func31, Try.ntmps31
      go_wp2
      go_ret
      rw [e2.out]
      exact ⟨rfl, H2.out true⟩
end
end Go.Proofs.Ytkbfjgmgckbogaa.Ld
