/-
  'heavy' of the laws of chapter 3: no step is greater than is looked at.
-/
import Derived.Test.YtnaggipeliifgaaArgSteps
import Derived.Test.YtnaggipeliifgaaFetch
import Derived.Deep.QuietTactic
import Derived.BigQuiet
import Derived.WalkSmall
namespace Go.Proofs.Ytnaggipeliifgaa.Dsk
open Go.RowKit L
/-- a step of a row, read -/
theorem _root_.Go.Proofs.Ytnaggipeliifgaa.L.Sl.atS {w : World} {v : Value} {l : List Stp} (h : Sl w 5 v l.length (stps l)) (k : Nat) (hk : k < l.length) :
    ∃ (A : Addr) (c : Stp), (∀ w' : World, (Instr.indexAt 44 v (.int .i64 (k : Int))).run Try.prog w' = .ok (.pointer (some A)) w') ∧ (w.cell? A = some (.int .i64 c.kind) ∧ w.cell? ⟨A.block, A.off + 1, none⟩ = some (.int .i64 c.num) ∧ w.cell? ⟨A.block, A.off + 2, none⟩ = some (.string c.a) ∧
      w.cell? ⟨A.block, A.off + 3, none⟩ = some (.string c.to_) ∧ w.cell? ⟨A.block, A.off + 4, none⟩ = some c.bv) ∧ Hid (c = l.getD k default) := by
  obtain ⟨A, hA, hblk, hcell⟩ := run_indexAt_sl (P := Try.prog) h Try.underlying44 Try.size50 .i64 (k : Int) (by omega) (by omega)
  have h0 := hcell 0 (by omega)
  have h1 := hcell 1 (by omega)
  have h2 := hcell 2 (by omega)
  have h3 := hcell 3 (by omega)
  have h4 := hcell 4 (by omega)
  simp only [Int.toNat_natCast] at h0 h1 h2 h3 h4
  rw [stps_get l k _ hk (by omega)] at h0 h1 h2 h3 h4
  exact ⟨A, _, hA, ⟨h0, h1, h2, h3, h4⟩, Lib.hid rfl⟩
def DrewS (w w' : World) : Prop := ∃ n, w' = w.drewN n
theorem DrewS.drewN {w w' : World} (h : DrewS w w') (n : Nat) : DrewS w (w'.drewN n) := by
  obtain ⟨m, rfl⟩ := h
  exact ⟨m + n, World.drewN_drewN ..⟩
theorem DrewS.below {w w' : World} (h : DrewS w w') : Below w.heap.size w w' := by
  obtain ⟨m, rfl⟩ := h
  exact below_drewN (Below.refl _ _) m
def szS (c : Stp) : Nat := c.a.size + c.to_.size + c.b.length
def HvRel (w : World) (l : List Stp) (n i : Value) (wr : World) : Prop := ∃ k m : Nat, k ≤ l.length ∧ k ≤ 120 ∧ i = .int .i64 k ∧ n = .int .i64 m ∧ m ≤ 8000 ∧ (∀ j, j < k → szS (l.getD j default) ≤ 8000) ∧ DrewS w wr
def RetHv (w : World) (l : List Stp) (e : Ending) (w' : World) : Prop := ∃ b, e = .returned (.bool b) ∧ (b = false → ∀ j, j < l.length → j < 120 → szS (l.getD j default) ≤ 8000) ∧ Below w.heap.size w w'
set_option maxRecDepth 100000 in
set_option maxHeartbeats 1600000 in
theorem heavyS_any (v : Value) (l : List Stp) (w : World) (h : Sl w 5 v l.length (stps l)) (hs : ∀ c ∈ l, StpIn w c) : Calls Try.prog 23 #[v] w (RetHv w l) := by
  have hlen := h.run_len Try.underlying44
  have hmx := h.le'
  have Hs := Lib.hid hs
  clear hs
  go_enter Try.func23, Try.ntmps23
  go_wp2
  go_loopw [3, 4] (fun n i wr => HvRel w l n i wr) (fun _ i _ => l.length - (intOf i).toNat)
  case atStart => exact ⟨0, 0, Nat.zero_le _, Nat.zero_le _, rfl, rfl, Nat.zero_le _, fun j hj => by omega, 0, rfl⟩
  case round =>
    obtain ⟨k, m, hk, hk2, rfl, rfl, hm, hall, hd⟩ := hrel
    have Hall := Lib.hid hall
    clear hall
    by_cases hlt : k < l.length
    · by_cases h120 : k < 120
      · have hS := h.below' hd.below
        obtain ⟨A, c, hA, ⟨c0, c1, c2, c3, c4⟩, Hc⟩ := hS.atS k hlt
        obtain ⟨_, _, i1, i2, i3, i4⟩ := Hs.out c (by rw [Hc.out]; simp [List.getD, hlt])
        have hlb := i4.run_len Try.underlying23
        have a1 : IntKind.i64.wrap ((m : Int) + (c.a.size : Int)) = (m : Int) + (c.a.size : Int) := IntWalk.i64_in _ (by omega)
        have a2 : IntKind.i64.wrap ((m : Int) + (c.a.size : Int) + (c.to_.size : Int)) = (m : Int) + (c.a.size : Int) + (c.to_.size : Int) := IntWalk.i64_in _ (by omega)
        have a3 : IntKind.i64.wrap ((m : Int) + (c.a.size : Int) + (c.to_.size : Int) + (c.b.length : Int)) = (m : Int) + (c.a.size : Int) + (c.to_.size : Int) + (c.b.length : Int) := IntWalk.i64_in _ (by omega)
        have h01 : (0 : Int) ≤ (k : Int) := by omega
        have h02 : (k : Int) < (l.length : Int) := by omega
        clear hS i4 hk2
        go_wp2_with fail
        go_quiet (fail)
        clear a1 a2 a3
        by_cases hb : 8000 < m + c.a.size + c.to_.size + c.b.length
        · have g1 : decide ((8000 : Int) < (m : Int) + (c.a.size : Int) + (c.to_.size : Int) + (c.b.length : Int)) = true := by simp; omega
          go_wp2
          go_ret
          exact ⟨_, rfl, fun h => by simp at h, (hd.drewN _).below⟩
        · have g1 : decide ((8000 : Int) < (m : Int) + (c.a.size : Int) + (c.to_.size : Int) + (c.b.length : Int)) = false := by simp; omega
          have hN : Hid (∀ j, j < k + 1 → szS (l.getD j default) ≤ 8000) := Lib.hid fun j hj => by
            by_cases e : j = k
            · subst e; rw [← Hc.out]; unfold szS; omega
            · exact Hall.out j (by omega)
          go_wp2
          go_roundw
          case rel => exact ⟨k + 1, m + c.a.size + c.to_.size + c.b.length, by omega, by omega, by go_num, by go_num, by omega, hN.out, hd.drewN _⟩
          case measure => simp [intOf]; omega
      · have e : k = 120 := by omega
        have He := Lib.hid e
        clear e hk2
        go_wp2
        go_ret
        exact ⟨_, rfl, fun _ j _ hj => Hall.out j (by omega), hd.below⟩
    · have He : Hid (l.length ≤ k) := Lib.hid (by omega)
      go_wp2
      go_ret
      exact ⟨_, rfl, fun _ j hj _ => Hall.out j (by have := He.out; omega), hd.below⟩
end Go.Proofs.Ytnaggipeliifgaa.Dsk
