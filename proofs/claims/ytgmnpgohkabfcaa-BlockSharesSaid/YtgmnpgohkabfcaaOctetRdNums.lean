/-
  Reader.Nums of chapter 1: numbers are taken, and stored where the pointers say.
-/
import Derived.Test.YtgmnpgohkabfcaaOctetNum
import Derived.Test.YtgmnpgohkabfcaaFetch
namespace Go.Proofs.Ytgmnpgohkabfcaa.Oct
open Go.RowKit L
theorem _root_.Go.Proofs.Ytgmnpgohkabfcaa.L.Hold.setBlk {W0 w : World} {R : Asrt} {b : Nat} {cs : Array Value} {t : TypeId} (h : Hold W0 ((Blk b cs t).sep R) w) (j : Nat) (v : Value) : Hold W0 ((Blk b (cs.setIfInBounds j v) t).sep R) (w.setCell ⟨b, j, none⟩ v) := by
  obtain ⟨F, ⟨hb, hF⟩, hge, hup⟩ := h.take
  exact hup _ (Blk b (cs.setIfInBounds j v) t) F ((Keeps.refl F w).setCell (fun _ => (hF b).2 rfl) _) ⟨blk_set hb j v, hF⟩ (fun k hk => .inl hk)
/-- what is left when n numbers were taken, and whether it erred -/
def takes (l : List UInt8) (bad : Bool) : Nat → List UInt8 × Bool
  | 0 => (l, bad)
  | n + 1 => (left (dec 0 0 (takes l bad n).1), (takes l bad n).2 || (dec 0 0 (takes l bad n).1).isNone)
/-- the number taken behind n others -/
def takesAt (l : List UInt8) (bad : Bool) (n : Nat) : Nat := got 0 (dec 0 0 (takes l bad n).1)
theorem left_dec (l : List UInt8) : (left (dec 0 0 l)).length ≤ l.length := by
  cases hd : dec 0 0 l with
  | none => simp [left]
  | some p =>
    obtain ⟨n, r⟩ := p
    have := dec_length l 0 0 n r hd
    simp [left]; omega
theorem takes_length (l : List UInt8) (bad : Bool) : ∀ n, (takes l bad n).1.length ≤ l.length
  | 0 => Nat.le_refl _
  | n + 1 => Nat.le_trans (left_dec _) (takes_length l bad n)
set_option maxRecDepth 100000 in
set_option maxHeartbeats 800000 in
theorem rnumsTo_any {W0 w : World} {R : Asrt} {b : Nat} {l : List UInt8} {bad : Bool} (T : Nat → Asrt) (ps : List Value) (v : Value) (hT : Hold W0 ((T 0).sep ((Rd b l bad).sep R)) w) (hl : l.length ≤ 140737488355328) (hv : Reads W0 R 1 v ps.length ps)
    (hstep : ∀ k, k < ps.length → ∀ (w : World) (Q : Asrt), Hold W0 ((T k).sep Q) w → (ps.getD k undef = .pointer none ∧ Hold W0 ((T (k + 1)).sep Q) w) ∨ ∃ A old, ps.getD k undef = .pointer (some A) ∧ w.cell? A = some old ∧ w.frozen? A = false ∧ Hold W0 ((T (k + 1)).sep Q) (w.setCell A (.int .i64 (takesAt l bad k)))) :
    Calls Try.prog 45 #[.pointer (some ⟨b, 0, none⟩), v] w fun e w' => e = .returned (.tuple #[]) ∧ Hold W0 ((T ps.length).sep ((Rd b (takes l bad ps.length).1 (takes l bad ps.length).2).sep R)) w' := by
  have h1 := hv w hT.drop1.drop1
  have hlen := h1.run_len Try.underlying80
  have hmx := h1.le'
  have Hv := Lib.hid hv
  have Hstep := Lib.hid hstep
  clear h1 hv hstep
  go_enter Try.func45, Try.ntmps45
  go_wp2
  go_loopw [9] (fun i wr => ∃ k : Nat, k ≤ ps.length ∧ i = .int .i64 k ∧ Hold W0 ((T k).sep ((Rd b (takes l bad k).1 (takes l bad k).2).sep R)) wr) (fun i _ => ps.length - (intOf i).toNat)
  case atStart => exact ⟨0, Nat.zero_le _, rfl, hT⟩
  case round =>
    clear hT
    obtain ⟨k, hk, rfl, H⟩ := hrel
    by_cases hlt : k < ps.length
    · obtain ⟨A, u, hA, hblk, hc, Hu⟩ := (Hv.out _ H.drop1.drop1).at1 (P := Try.prog) Try.underlying80 Try.size79 k hlt
      have hlk := takes_length l bad k
      obtain ⟨l', hl'⟩ : ∃ l', l' = (takes l bad k).1 := ⟨_, rfl⟩
      obtain ⟨bad', hbad'⟩ : ∃ bad', bad' = (takes l bad k).2 := ⟨_, rfl⟩
      rw [← hl'] at hlk
      rw [← hl', ← hbad'] at H
      have Hl := Lib.hid hl'
      have Hb := Lib.hid hbad'
      clear hl' hbad' hblk
      go_wp2_with fail
      refine (num_any H.up2 (by omega)).mono ?_
      rintro e w1 ⟨rfl, H1⟩
      have H2 := Hstep.out k hlt w1 _ H1.up2
      have ez : takesAt l bad k = got 0 (dec 0 0 l') := by unfold takesAt; rw [← Hl.out]
      rw [← Hu.out, ez] at H2
      clear H H1 ez
      rcases H2 with ⟨rfl, H3⟩ | ⟨A2, old, rfl, hc2, hf2, H3⟩
      · have H4 := Lib.hid H3
        clear H3
        go_wp2
        go_roundw
        case rel => exact ⟨k + 1, by omega, by go_num, by show Hold _ (Asrt.sep _ ((Rd b (left (dec 0 0 (takes l bad k).1)) ((takes l bad k).2 || (dec 0 0 (takes l bad k).1).isNone)).sep R)) _; rw [← Hl.out, ← Hb.out]; exact H4.out⟩
        case measure => simp [intOf]; omega
      · have H4 := Lib.hid H3
        clear H3
        go_wp2
        go_roundw
        case rel => exact ⟨k + 1, by omega, by go_num, by show Hold _ (Asrt.sep _ ((Rd b (left (dec 0 0 (takes l bad k).1)) ((takes l bad k).2 || (dec 0 0 (takes l bad k).1).isNone)).sep R)) _; rw [← Hl.out, ← Hb.out]; exact H4.out⟩
        case measure => simp [intOf]; omega
    · obtain rfl : k = ps.length := by omega
      have H4 := Lib.hid H
      clear H
      go_wp2
      go_end0
      exact ⟨rfl, H4.out⟩
end Go.Proofs.Ytgmnpgohkabfcaa.Oct
