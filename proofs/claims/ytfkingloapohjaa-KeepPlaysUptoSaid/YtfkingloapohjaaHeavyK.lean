/-
  'heavy' of the laws of chapter 4.
-/
import Derived.Test.YtfkingloapohjaaArgStepsK
import Derived.Test.YtfkingloapohjaaRefBase
import Derived.Deep.QuietTactic
import Derived.BigQuiet
import Derived.WalkSmall
namespace Go.Proofs.Ytfkingloapohjaa.Kp
open Go.RowKit L
/-- a step of a row, read -/
theorem _root_.Go.Proofs.Ytfkingloapohjaa.L.Sl.atK {w : World} {v : Value} {l : List Stp} (h : Sl w 6 v l.length (stps l)) (k : Nat) (hk : k < l.length) :
    ∃ (A : Addr) (c : Stp), (∀ w' : World, (Instr.indexAt 41 v (.int .i64 (k : Int))).run Try.prog w' = .ok (.pointer (some A)) w') ∧ (w.cell? A = some (.int .i64 c.kind) ∧ w.cell? ⟨A.block, A.off + 1, none⟩ = some (.int .i64 c.num) ∧ w.cell? ⟨A.block, A.off + 2, none⟩ = some (.string c.name) ∧
      w.cell? ⟨A.block, A.off + 3, none⟩ = some c.av ∧ w.cell? ⟨A.block, A.off + 4, none⟩ = some c.bv ∧ w.cell? ⟨A.block, A.off + 5, none⟩ = some c.sv) ∧ Hid (c = l.getD k default) := by
  obtain ⟨A, hA, hblk, hcell⟩ := run_indexAt_sl (P := Try.prog) h Try.underlying41 Try.size47 .i64 (k : Int) (by omega) (by omega)
  have h0 := hcell 0 (by omega)
  have h1 := hcell 1 (by omega)
  have h2 := hcell 2 (by omega)
  have h3 := hcell 3 (by omega)
  have h4 := hcell 4 (by omega)
  have h5 := hcell 5 (by omega)
  simp only [Int.toNat_natCast] at h0 h1 h2 h3 h4 h5
  rw [stps_get l k _ hk (by omega)] at h0 h1 h2 h3 h4 h5
  exact ⟨A, _, hA, ⟨h0, h1, h2, h3, h4, h5⟩, Lib.hid rfl⟩
def DrewK (w w' : World) : Prop := ∃ n, w' = w.drewN n
theorem DrewK.drewN {w w' : World} (h : DrewK w w') (n : Nat) : DrewK w (w'.drewN n) := by
  obtain ⟨m, rfl⟩ := h
  exact ⟨m + n, World.drewN_drewN ..⟩
theorem DrewK.below {w w' : World} (h : DrewK w w') : Below w.heap.size w w' := by
  obtain ⟨m, rfl⟩ := h
  exact below_drewN (Below.refl _ _) m
theorem stW_take {l : List ByteArray} {j : Nat} (hj : j < l.length) : stW (l.take (j + 1)) = stW (l.take j) + (l.getD j ByteArray.empty).size + 1 := by
  unfold stW
  rw [List.take_succ_eq_append_getElem hj, List.map_append, List.sum_append]
  simp [List.getD, hj]; omega
theorem stW_le (l : List ByteArray) (j : Nat) : stW (l.take j) ≤ stW l := by
  unfold stW
  conv => rhs; rw [← List.take_append_drop j l]
  rw [List.map_append, List.sum_append]; omega
def HkRel (w : World) (l : List Stp) (n i : Value) (wr : World) : Prop := ∃ k m : Nat, k ≤ l.length ∧ k ≤ 80 ∧ i = .int .i64 k ∧ n = .int .i64 m ∧ m ≤ 5000 ∧ DrewK w wr
def HkIn (w : World) (stay : List ByteArray) (M : Nat) (n j : Value) (wr : World) : Prop := ∃ a m : Nat, a ≤ stay.length ∧ j = .int .i64 a ∧ n = .int .i64 m ∧ m ≤ M + 2 * stW (stay.take a) ∧ DrewK w wr
def RetHk (w : World) (e : Ending) (w' : World) : Prop := ∃ b, e = .returned (.bool b) ∧ Below w.heap.size w w'
set_option maxRecDepth 100000 in
set_option maxHeartbeats 1600000 in
theorem heavyK_any (v : Value) (l : List Stp) (w : World) (h : Sl w 6 v l.length (stps l)) (hs : ∀ c ∈ l, StpIn w c) : Calls Try.prog 17 #[v] w (RetHk w) := by
  have hlen := h.run_len Try.underlying41
  have hmx := h.le'
  have Hs := Lib.hid hs
  clear hs
  go_enter Try.func17, Try.ntmps17
  go_wp2
  go_loopw [3, 4] (fun n i wr => HkRel w l n i wr) (fun _ i _ => l.length - (intOf i).toNat)
  case atStart => exact ⟨0, 0, Nat.zero_le _, Nat.zero_le _, rfl, rfl, Nat.zero_le _, 0, rfl⟩
  case round =>
    obtain ⟨k, m, hk, hk2, rfl, rfl, hm, hd⟩ := hrel
    by_cases hlt : k < l.length
    · by_cases h80 : k < 80
      · have hS := h.below' hd.below
        obtain ⟨A, c, hA, ⟨c0, c1, c2, c3, c4, c5⟩, Hc⟩ := hS.atK k hlt
        obtain ⟨_, _, i1, ⟨_, i3⟩, ⟨_, i4⟩, i5, i6⟩ := Hs.out c (by rw [Hc.out]; simp [List.getD, hlt])
        have hla := i3.run_len Try.underlying23
        have hlb := i4.run_len Try.underlying23
        have hls := i5.run_len Try.underlying38
        have hsm := i5.le'
        have a0 : IntKind.i64.wrap ((m : Int) + 5) = (m : Int) + 5 := IntWalk.i64_in _ (by omega)
        have a1 : IntKind.i64.wrap ((m : Int) + 5 + (c.a.length : Int)) = (m : Int) + 5 + (c.a.length : Int) := IntWalk.i64_in _ (by omega)
        have a2 : IntKind.i64.wrap ((m : Int) + 5 + (c.a.length : Int) + (c.b.length : Int)) = (m : Int) + 5 + (c.a.length : Int) + (c.b.length : Int) := IntWalk.i64_in _ (by omega)
        have a3 : IntKind.i64.wrap ((m : Int) + 5 + (c.a.length : Int) + (c.b.length : Int) + (c.name.size : Int)) = (m : Int) + 5 + (c.a.length : Int) + (c.b.length : Int) + (c.name.size : Int) := IntWalk.i64_in _ (by omega)
        have h01 : (0 : Int) ≤ (k : Int) := by omega
        have h02 : (k : Int) < (l.length : Int) := by omega
        have H5 := Lib.hid i5
        have H6 : Hid (stW c.stay ≤ 1048576) := Lib.hid (by omega)
        have HM : Hid (m + 5 + c.a.length + c.b.length + c.name.size ≤ 2000000) := Lib.hid (by omega)
        clear hS i3 i4 i5 hk2
        go_wp2_with fail
        go_quiet (fail)
        clear a0 a1 a2 a3
        obtain ⟨M, hM⟩ : ∃ M, M = m + 5 + c.a.length + c.b.length + c.name.size := ⟨_, rfl⟩
        have eM : (m : Int) + 5 + (c.a.length : Int) + (c.b.length : Int) + (c.name.size : Int) = (M : Int) := by omega
        rw [eM]
        rw [← hM] at HM
        have HH := fun N => hd.drewN N
        have HD := Lib.hid HH
        clear hM eM HH hd c0 c1 c2 c3 c4 c5 hA hla hlb hls
        go_wp2_with fail
        go_loopw [3, 5] (fun n j wi => HkIn w c.stay M n j wi) (fun _ j _ => c.stay.length - (intOf j).toNat)
        case atStart => exact ⟨0, M, Nat.zero_le _, rfl, rfl, by omega, HD.out _⟩
        case round =>
          obtain ⟨a, m2, ha, rfl, rfl, hm2, hd2⟩ := hrel
          have hS2 := h.below' hd2.below
          obtain ⟨A, c', hA, ⟨c0, c1, c2, c3, c4, c5⟩, Hc'⟩ := hS2.atK k hlt
          obtain rfl : c' = c := by rw [Hc'.out, Hc.out]
          have hls := H5.out.run_len Try.underlying38
          have hle := stW_le c'.stay a
          have h6 := H6.out
          have hMM := HM.out
          have hm3 : m2 ≤ 8000000 := by omega
          have Hm2 := Lib.hid hm2
          clear hle h6 hMM hm2
          by_cases hal : a < c'.stay.length
          · have ht := stW_take hal
            have hle2 := stW_le c'.stay (a + 1)
            obtain ⟨A2, u, hA2, _, cu, Hu⟩ := (H5.out.below' hd2.below).at1 (P := Try.prog) Try.underlying38 Try.size9 a hal
            rw [Hu.out, strs_get c'.stay a hal] at cu
            obtain ⟨t, htt⟩ : ∃ t, t = c'.stay.getD a ByteArray.empty := ⟨_, rfl⟩
            rw [← htt] at cu ht
            have htz : t.size ≤ 2000000 := by have := H6.out; omega
            have HT : Hid (m2 + 2 + t.size ≤ M + 2 * stW (c'.stay.take (a + 1))) := Lib.hid (by have := Hm2.out; omega)
            have a0 : IntKind.i64.wrap ((m2 : Int) + 2) = (m2 : Int) + 2 := IntWalk.i64_in _ (by omega)
            have a1 : IntKind.i64.wrap ((m2 : Int) + 2 + (t.size : Int)) = (m2 : Int) + 2 + (t.size : Int) := IntWalk.i64_in _ (by omega)
            have b01 : (0 : Int) ≤ (a : Int) := by omega
            have b02 : (a : Int) < (c'.stay.length : Int) := by omega
            clear hS2 ht hle2 htt Hu
            go_wp2
            go_roundw
            case rel => exact ⟨a + 1, m2 + 2 + t.size, by omega, by go_num, by go_num, HT.out, hd2⟩
            case measure => simp [intOf]; omega
          · by_cases hb : 5000 < m2
            · have g1 : decide ((5000 : Int) < (m2 : Int)) = true := by simp; omega
              go_wp2
              go_ret
              exact ⟨_, rfl, hd2.below⟩
            · have g1 : decide ((5000 : Int) < (m2 : Int)) = false := by simp; omega
              go_wp2
              go_roundw
              case rel => exact ⟨k + 1, m2, by omega, by omega, by go_num, rfl, by omega, hd2⟩
              case measure => simp [intOf]; omega
      · have e : k = 80 := by omega
        have He := Lib.hid e
        clear e hk2
        go_wp2
        go_ret
        exact ⟨_, rfl, hd.below⟩
    · have He : Hid (l.length ≤ k) := Lib.hid (by omega)
      go_wp2
      go_ret
      exact ⟨_, rfl, hd.below⟩
end Go.Proofs.Ytfkingloapohjaa.Kp
