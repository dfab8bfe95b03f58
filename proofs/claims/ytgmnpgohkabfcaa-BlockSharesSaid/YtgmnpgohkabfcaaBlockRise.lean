/-
  Why cells may not stand one behind the other: chapter 7's 'rises', the reference's 'Rise'.
-/
import Derived.Test.YtgmnpgohkabfcaaBlockSmall
import Derived.Test.YtgmnpgohkabfcaaGrow
import Derived.Deep.RegionWith
import Derived.Deep.QuietTactic
import Derived.BigQuiet
import Derived.WalkSmall
namespace Go.Proofs.Ytgmnpgohkabfcaa.Bl
open Go.RowKit L
/-- do cells rise? -/
def risesB : List Cl → Bool
  | a :: b :: r => lessC a b && risesB (b :: r)
  | _ => true
/-- the error: 0, 1, 11 -/
def riseN (l : List Cl) : Nat := if l.all isC then (if risesB l then 0 else 11) else 1
theorem risesB_at : ∀ (l : List Cl) (k : Nat), k + 1 < l.length → lessC (l.getD k default) (l.getD (k + 1) default) = false → risesB l = false
  | a :: b :: r, 0, _, h => by
    have : lessC a b = false := h
    simp [risesB, this]
  | a :: b :: r, k + 1, hk, h => by
    have := risesB_at (b :: r) k (by simpa using hk) (by simpa using h)
    simp [risesB, this]
  | [a], k, hk, _ => by simp at hk
  | [], k, hk, _ => by simp at hk
theorem risesB_all : ∀ (l : List Cl), (∀ k, k + 1 < l.length → lessC (l.getD k default) (l.getD (k + 1) default) = true) → risesB l = true
  | [], _ => rfl
  | [a], _ => rfl
  | a :: b :: r, h => by
    have h0 : lessC a b = true := h 0 (by simp)
    have := risesB_all (b :: r) fun k hk => by simpa using h (k + 1) (by simpa using hk)
    simp [risesB, h0, this]
theorem getD_get {l : List Cl} {k : Nat} (h : k < l.length) : l.getD k default = l[k] := by simp [List.getD, h]
theorem all_at {l : List Cl} {k : Nat} (hk : k < l.length) (h : isC (l.getD k default) = false) : l.all isC = false := by
  rw [Bool.eq_false_iff]
  intro ha
  rw [List.all_eq_true] at ha
  have := ha _ (List.getElem_mem hk)
  rw [getD_get hk] at h
  rw [h] at this
  cases this
theorem all_all {l : List Cl} (h : ∀ k, k < l.length → isC (l.getD k default) = true) : l.all isC = true := by
  rw [List.all_eq_true]
  intro x hx
  obtain ⟨i, hi, rfl⟩ := List.getElem_of_mem hx
  have := h i hi
  rwa [getD_get hi] at this
set_option maxHeartbeats 1600000 in
theorem rises_any (v : Value) (l : List Cl) (w : World) (h : Sl w 4 v l.length (cls l)) : Calls Try.prog 26 #[v] w fun e w' => e = .returned (.int .i64 (riseN l)) ∧ Below w.heap.size w w' := by
  have hlen := h.run_len Try.underlying22
  have hmx := h.le'
  go_enter Try.func26, Try.ntmps26
  go_wp2
  go_loopw [8] (fun i wr => ∃ k : Nat, k ≤ l.length ∧ i = .int .i64 k ∧ (∀ j, j < k → isC (l.getD j default) = true) ∧ Below w.heap.size w wr) (fun i _ => l.length - (intOf i).toNat)
  case atStart => exact ⟨0, Nat.zero_le _, rfl, fun j hj => by omega, Below.refl _ _⟩
  case round =>
    obtain ⟨k, hk, rfl, hall, hbr⟩ := hrel
    have Hall := Lib.hid hall
    clear hall
    by_cases hlt : k < l.length
    · obtain ⟨A, c, hA, _, hcells, Hc⟩ := (h.below' hbr).atCl (P := Try.prog) Try.underlying22 Try.size36 k _ rfl hlt
      obtain ⟨c0, c1, c2, c3⟩ := hcells
      go_wp2_with fail
      refine (is_any c _).mono ?_
      rintro e w1 ⟨rfl, hb1⟩
      have Hb := Lib.hid ((hbr.alloc hbr.size _).trans (hb1.mono (hbr.alloc hbr.size _).size))
      clear hb1 c0 c1 c2 c3 hbr
      cases hi : isC c with
      | true =>
        have Hn : Hid (∀ j, j < k + 1 → isC (l.getD j default) = true) := Lib.hid fun j hj => by
          by_cases e : j = k
          · subst e; rw [← Hc.out]; exact hi
          · exact Hall.out j (by omega)
        clear hi
        go_wp2
        go_roundw
        case rel => exact ⟨k + 1, by omega, by go_num, Hn.out, Hb.out⟩
        case measure => simp [intOf]; omega
      | false =>
        have Hn : Hid (riseN l = 1) := Lib.hid (by rw [riseN, all_at hlt (by rw [← Hc.out]; exact hi)]; rfl)
        clear hi
        go_wp2
        go_ret
        exact ⟨ret_int (by rw [Hn.out]; rfl), Hb.out⟩
    · have Hn : Hid (l.all isC = true) := Lib.hid (all_all fun j hj => Hall.out j (by omega))
      clear Hall
      go_wp2
      obtain ⟨wo, hwo⟩ : ∃ wo : World, wo = wr := ⟨_, rfl⟩
      rw [← hwo] at hbr ⊢
      clear hwo
      go_loopw [5] (fun i wr => ∃ j : Nat, (j < l.length ∨ j = 0) ∧ i = .int .i64 ((j : Int) + 1) ∧ (∀ i, i < j → lessC (l.getD i default) (l.getD (i + 1) default) = true) ∧ Below w.heap.size w wr) (fun i _ => l.length - (intOf i).toNat)
      case atStart => exact ⟨0, .inr rfl, rfl, fun j hj => by omega, hbr⟩
      case round =>
        clear hbr
        obtain ⟨j, hj, rfl, hall, hbr⟩ := hrel
        have Hall := Lib.hid hall
        clear hall
        by_cases hlt2 : j + 1 < l.length
        · obtain ⟨A, c, hA, _, hcells, Hc⟩ := (h.below' hbr).atCl (P := Try.prog) Try.underlying22 Try.size36 j _ rfl (by omega)
          obtain ⟨A', c', hA', _, hcells', Hc'⟩ := (h.below' hbr).atCl (P := Try.prog) Try.underlying22 Try.size36 (j + 1) ((j : Int) + 1) (by omega) (by omega)
          have Hcs := Lib.hid (And.intro hcells hcells')
          clear hcells hcells'
          have Hbd := Lib.hid (below_drewN hbr 1)
          obtain ⟨c0, c1, c2, c3⟩ := Hcs.out.1
          obtain ⟨d0, d1, d2, d3⟩ := Hcs.out.2
          have hwr : IntKind.i64.wrap (j : Int) = (j : Int) := IntWalk.i64_in _ (by omega)
          have c0' : wr.drew.cell? A = some (.string c.key) := c0
          have c1' : wr.drew.cell? ⟨A.block, A.off + 1, none⟩ = some (.string c.val) := c1
          have c2' : wr.drew.cell? ⟨A.block, A.off + 2, none⟩ = some (.bool c.del) := c2
          have c3' : wr.drew.cell? ⟨A.block, A.off + 3, none⟩ = some (.int .i64 c.seq) := c3
          have d0' : wr.drew.cell? A' = some (.string c'.key) := d0
          have d1' : wr.drew.cell? ⟨A'.block, A'.off + 1, none⟩ = some (.string c'.val) := d1
          have d2' : wr.drew.cell? ⟨A'.block, A'.off + 2, none⟩ = some (.bool c'.del) := d2
          have d3' : wr.drew.cell? ⟨A'.block, A'.off + 3, none⟩ = some (.int .i64 c'.seq) := d3
          go_wp2_with fail
          go_region_with (first
            | (go_at_call 20; refine (less_any c c' _).mono ?_; rintro e w1 ⟨rfl, hb1⟩; have Hb := Lib.hid ((below_drewN hbr 1).trans (hb1.mono (below_drewN hbr 1).size)); clear hb1))
          all_goals
            clear hwr c0 c1 c2 c3 d0 d1 d2 d3 c0' c1' c2' c3' d0' d1' d2' d3'
            cases hi : lessC c c' with
            | true =>
              have Hn2 : Hid (∀ i, i < j + 1 → lessC (l.getD i default) (l.getD (i + 1) default) = true) := Lib.hid fun i hi' => by
                by_cases e : i = j
                · subst e; rw [← Hc.out, ← Hc'.out]; exact hi
                · exact Hall.out i (by omega)
              clear hi
              go_wp2
              go_roundw
              case rel => exact ⟨j + 1, by omega, by go_num, Hn2.out, Hb.out⟩
              case measure => simp [intOf]; omega
            | false =>
              have Hn2 : Hid (riseN l = 11) := Lib.hid (by rw [riseN, Hn.out, risesB_at l j hlt2 (by rw [← Hc.out, ← Hc'.out]; exact hi)]; rfl)
              clear hi
              go_wp2
              go_ret
              exact ⟨ret_int (by rw [Hn2.out]; rfl), Hb.out⟩
        · have Hn2 : Hid (riseN l = 0) := Lib.hid (by rw [riseN, Hn.out, risesB_all l fun i hi => Hall.out i (by omega)]; rfl)
          go_wp2
          go_ret
          exact ⟨ret_int (by rw [Hn2.out]; rfl), hbr⟩
set_option maxHeartbeats 1600000 in
theorem xrise_any (v : Value) (l : List Cl) (w : World) (h : Sl w 4 v l.length (cls l)) : Calls Try.prog 19 #[v] w fun e w' => e = .returned (.int .i64 (riseN l)) ∧ Below w.heap.size w w' := by
  have hlen := h.run_len Try.underlying22
  have hmx := h.le'
  go_enter Try.func19, Try.ntmps19
  go_wp2
  go_loopw [3] (fun i wr => ∃ k : Nat, k ≤ l.length ∧ i = .int .i64 k ∧ (∀ j, j < k → isC (l.getD j default) = true) ∧ Below w.heap.size w wr) (fun i _ => l.length - (intOf i).toNat)
  case atStart => exact ⟨0, Nat.zero_le _, rfl, fun j hj => by omega, Below.refl _ _⟩
  case round =>
    obtain ⟨k, hk, rfl, hall, hbr⟩ := hrel
    have Hall := Lib.hid hall
    clear hall
    by_cases hlt : k < l.length
    · obtain ⟨A, c, hA, _, hcells, Hc⟩ := (h.below' hbr).atCl (P := Try.prog) Try.underlying22 Try.size36 k _ rfl hlt
      obtain ⟨c0, c1, c2, c3⟩ := hcells
      go_wp2_with fail
      refine (xis_any c _).mono ?_
      rintro e w1 ⟨rfl, hb1⟩
      have Hb := Lib.hid (hbr.trans (hb1.mono hbr.size))
      clear hb1 c0 c1 c2 c3 hbr
      cases hi : isC c with
      | true =>
        have Hn : Hid (∀ j, j < k + 1 → isC (l.getD j default) = true) := Lib.hid fun j hj => by
          by_cases e : j = k
          · subst e; rw [← Hc.out]; exact hi
          · exact Hall.out j (by omega)
        clear hi
        go_wp2
        go_roundw
        case rel => exact ⟨k + 1, by omega, by go_num, Hn.out, Hb.out⟩
        case measure => simp [intOf]; omega
      | false =>
        have Hn : Hid (riseN l = 1) := Lib.hid (by rw [riseN, all_at hlt (by rw [← Hc.out]; exact hi)]; rfl)
        clear hi
        go_wp2
        go_ret
        exact ⟨ret_int (by rw [Hn.out]; rfl), Hb.out⟩
    · have Hn : Hid (l.all isC = true) := Lib.hid (all_all fun j hj => Hall.out j (by omega))
      clear Hall
      go_wp2
      obtain ⟨wo, hwo⟩ : ∃ wo : World, wo = wr := ⟨_, rfl⟩
      rw [← hwo] at hbr ⊢
      clear hwo
      go_loopw [4] (fun i wr => ∃ j : Nat, (j < l.length ∨ j = 0) ∧ i = .int .i64 ((j : Int) + 1) ∧ (∀ i, i < j → lessC (l.getD i default) (l.getD (i + 1) default) = true) ∧ Below w.heap.size w wr) (fun i _ => l.length - (intOf i).toNat)
      case atStart => exact ⟨0, .inr rfl, rfl, fun j hj => by omega, hbr⟩
      case round =>
        clear hbr
        obtain ⟨j, hj, rfl, hall, hbr⟩ := hrel
        have Hall := Lib.hid hall
        clear hall
        by_cases hlt2 : j + 1 < l.length
        · obtain ⟨A, c, hA, _, hcells, Hc⟩ := (h.below' hbr).atCl (P := Try.prog) Try.underlying22 Try.size36 j _ rfl (by omega)
          obtain ⟨A', c', hA', _, hcells', Hc'⟩ := (h.below' hbr).atCl (P := Try.prog) Try.underlying22 Try.size36 (j + 1) ((j : Int) + 1) (by omega) (by omega)
          have Hcs := Lib.hid (And.intro hcells hcells')
          clear hcells hcells'
          have Hbd := Lib.hid (below_drewN hbr 1)
          obtain ⟨c0, c1, c2, c3⟩ := Hcs.out.1
          obtain ⟨d0, d1, d2, d3⟩ := Hcs.out.2
          have hwr : IntKind.i64.wrap (j : Int) = (j : Int) := IntWalk.i64_in _ (by omega)
          have c0' : wr.drew.cell? A = some (.string c.key) := c0
          have c1' : wr.drew.cell? ⟨A.block, A.off + 1, none⟩ = some (.string c.val) := c1
          have c2' : wr.drew.cell? ⟨A.block, A.off + 2, none⟩ = some (.bool c.del) := c2
          have c3' : wr.drew.cell? ⟨A.block, A.off + 3, none⟩ = some (.int .i64 c.seq) := c3
          have d0' : wr.drew.cell? A' = some (.string c'.key) := d0
          have d1' : wr.drew.cell? ⟨A'.block, A'.off + 1, none⟩ = some (.string c'.val) := d1
          have d2' : wr.drew.cell? ⟨A'.block, A'.off + 2, none⟩ = some (.bool c'.del) := d2
          have d3' : wr.drew.cell? ⟨A'.block, A'.off + 3, none⟩ = some (.int .i64 c'.seq) := d3
          go_wp2_with fail
          go_region_with (first
            | (go_at_call 21; refine (xless_any c c' _).mono ?_; rintro e w1 ⟨rfl, hb1⟩; have Hb := Lib.hid ((below_drewN hbr 1).trans (hb1.mono (below_drewN hbr 1).size)); clear hb1))
          all_goals
            clear hwr c0 c1 c2 c3 d0 d1 d2 d3 c0' c1' c2' c3' d0' d1' d2' d3'
            cases hi : lessC c c' with
            | true =>
              have Hn2 : Hid (∀ i, i < j + 1 → lessC (l.getD i default) (l.getD (i + 1) default) = true) := Lib.hid fun i hi' => by
                by_cases e : i = j
                · subst e; rw [← Hc.out, ← Hc'.out]; exact hi
                · exact Hall.out i (by omega)
              clear hi
              go_wp2
              go_roundw
              case rel => exact ⟨j + 1, by omega, by go_num, Hn2.out, Hb.out⟩
              case measure => simp [intOf]; omega
            | false =>
              have Hn2 : Hid (riseN l = 11) := Lib.hid (by rw [riseN, Hn.out, risesB_at l j hlt2 (by rw [← Hc.out, ← Hc'.out]; exact hi)]; rfl)
              clear hi
              go_wp2
              go_ret
              exact ⟨ret_int (by rw [Hn2.out]; rfl), Hb.out⟩
        · have Hn2 : Hid (riseN l = 0) := Lib.hid (by rw [riseN, Hn.out, risesB_all l fun i hi => Hall.out i (by omega)]; rfl)
          go_wp2
          go_ret
          exact ⟨ret_int (by rw [Hn2.out]; rfl), hbr⟩
end Go.Proofs.Ytgmnpgohkabfcaa.Bl
