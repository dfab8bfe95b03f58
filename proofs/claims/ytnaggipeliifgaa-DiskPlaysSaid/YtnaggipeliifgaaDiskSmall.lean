/-
  New, may, done, Used, Fuse of chapter 3.
-/
import Derived.Test.YtnaggipeliifgaaDiskBase
import Derived.Maps.RangeWalk
namespace Go.Proofs.Ytnaggipeliifgaa.Dsk
open Go.RowKit L Oct
set_option maxHeartbeats 800000 in
theorem new_ok {W0 w : World} {R : Asrt} (H : Hold W0 R w) (room : Nat) (hr : room ≤ 1073741824) :
    Calls Try.prog 11 #[.int .i64 room] w (RetV fun v w' => ∃ b, v = .tuple #[ptr b, .int .i64 0] ∧ Hold W0 ((DiskA b ⟨room, [], false, 0⟩).sep R) w') := by
  have H1 := H.addMap.addBlk (cs := #[.int .i64 room, .map (some w.heap.size), .bool false, .int .i64 0]) (t := 60) (b := w.heap.size + 1) (by simp)
  have H2 : Hold W0 ((DiskA (w.heap.size + 1) ⟨room, [], false, 0⟩).sep R) _ := disk_shut (d := ⟨room, [], false, 0⟩) (mb := w.heap.size) (l := []) rfl (H1.perm (by rw [show FilesA [] = Asrt.emp from rfl, emp_sep]; rfl))
  have HH := Lib.hid H2
  clear H1 H2 H
  have hmk := fun w' : World => run_makeMap (P := Try.prog) 58 w'
  have g1 : decide ((room : Int) < 0) = false := by simp
  have g2 : decide ((1073741824 : Int) < (room : Int)) = false := by simp; omega
  go_enter Try.func11, Try.ntmps11
  go_wp2
  go_ret2
  exact ⟨_, rfl, _, rfl, HH.out⟩
theorem new_no (w : World) (room : Int) (hr : room < 0 ∨ 1073741824 < room) :
    Calls Try.prog 11 #[.int .i64 room] w fun e w' => e = .returned (.tuple #[.pointer none, .int .i64 1]) ∧ w = w' := by
  rcases hr with hr | hr
  · go_enter Try.func11, Try.ntmps11
    go_wp2
    go_ret2
    exact ⟨rfl, rfl⟩
  · have h0 : ¬ room < 0 := by omega
    go_enter Try.func11, Try.ntmps11
    go_wp2
    go_ret2
    exact ⟨rfl, rfl⟩
theorem all_take {l : List ByteArray} {f : ByteArray → Bool} (h : ∀ j, j < l.length → f (l.getD j ByteArray.empty) = true) : l.all f = true := by
  rw [List.all_eq_true]
  intro x hx
  obtain ⟨i, hi, rfl⟩ := List.getElem_of_mem hx
  have := h i hi
  simpa [List.getD, hi] using this
theorem not_all {l : List ByteArray} {f : ByteArray → Bool} {k : Nat} (hk : k < l.length) (h : f (l.getD k ByteArray.empty) = false) : l.all f = false := by
  rw [Bool.eq_false_iff]
  intro ha
  rw [List.all_eq_true] at ha
  have := ha _ (List.getElem_mem hk)
  simp only [List.getD, List.getElem?_eq_getElem hk, Option.getD_some] at h
  rw [h] at this; cases this
set_option maxHeartbeats 800000 in
theorem may_any {W0 w : World} {R : Asrt} {b : Nat} {d : D} (H : Hold W0 ((DiskA b d).sep R) w) (v : Value) (names : List ByteArray) (hv : Sl w 1 v names.length (strs names)) :
    Calls Try.prog 30 #[ptr b, v] w fun e w' => e = .returned (.int .i64 (d.may names)) ∧ w = w' := by
  obtain ⟨mb, l, hl, H1⟩ := disk_open H
  have k2 := blk_cell H1.blk 2
  have k3 := blk_cell H1.blk 3
  have hlen := hv.run_len Try.underlying38
  have hmx := hv.le'
  obtain ⟨room, fs, fused, left⟩ := d
  clear H1 hl H
  by_cases hf : fused = true ∧ left = 0
  · obtain ⟨rfl, rfl⟩ := hf
    have hm : Hid (D.may ⟨room, fs, true, 0⟩ names = 9) := Lib.hid rfl
    show Calls Try.prog 30 #[.pointer (some ⟨b, 0, none⟩), v] w _
    go_enter Try.func30, Try.ntmps30
    go_wp2
    go_ret
    exact ⟨ret_int (by rw [hm.out]; rfl), rfl⟩
  · have hm : Hid (D.may ⟨room, fs, fused, left⟩ names = if names.all nameOk then 0 else 1) := Lib.hid (by
      have : (fused && decide (left = 0)) = false := by
        rw [Bool.eq_false_iff]; intro h; exact hf (by simpa using h)
      simp [D.may, this])
    have hcase : Hid ((fused = false) ∨ (fused = true ∧ ((left : Int) == 0) = false)) := Lib.hid (by
      cases fused with
      | false => exact .inl rfl
      | true => exact .inr ⟨rfl, by simpa using hf⟩)
    clear hf
    show Calls Try.prog 30 #[.pointer (some ⟨b, 0, none⟩), v] w _
    go_enter Try.func30, Try.ntmps30
    rcases hcase.out with rfl | ⟨rfl, hl0⟩
    all_goals
      clear hcase
      go_wp2
      go_loop [24] (fun i => ∃ k : Nat, k ≤ names.length ∧ i = .int .i64 k ∧ ∀ j, j < k → nameOk (names.getD j ByteArray.empty) = true) (fun i => names.length - (intOf i).toNat)
      case atStart => exact ⟨0, Nat.zero_le _, rfl, fun j hj => by omega⟩
      case round =>
        obtain ⟨k, hk, rfl, hall⟩ := hrel
        have Hall := Lib.hid hall
        clear hall
        by_cases hlt : k < names.length
        · obtain ⟨A, u, hA, hblk, hc, Hu⟩ := hv.at1 (P := Try.prog) Try.underlying38 Try.size9 k hlt
          rw [Hu.out, strs_get names k hlt] at hc
          obtain ⟨s, hs⟩ : ∃ s, s = names.getD k ByteArray.empty := ⟨_, rfl⟩
          rw [← hs] at hc
          have Hs := Lib.hid hs
          clear hs hblk Hu
          by_cases h1 : s.size < 1
          · have g1 : decide ((s.size : Int) < 1) = true := by simp; omega
            have hno : Hid (names.all nameOk = false) := Lib.hid (not_all hlt (by rw [← Hs.out]; simp [nameOk]; omega))
            clear h1
            go_wp2
            go_ret
            exact ⟨ret_int (by rw [hm.out, hno.out]; rfl), rfl⟩
          · have g1 : decide ((s.size : Int) < 1) = false := by simp; omega
            by_cases h2 : 64 < s.size
            · have g2 : decide ((64 : Int) < (s.size : Int)) = true := by simp; omega
              have hno : Hid (names.all nameOk = false) := Lib.hid (not_all hlt (by rw [← Hs.out]; simp [nameOk]; omega))
              clear h1 h2
              go_wp2
              go_ret
              exact ⟨ret_int (by rw [hm.out, hno.out]; rfl), rfl⟩
            · have g2 : decide ((64 : Int) < (s.size : Int)) = false := by simp; omega
              have hok : Hid (∀ j, j < k + 1 → nameOk (names.getD j ByteArray.empty) = true) := Lib.hid fun j hj => by
                by_cases e : j = k
                · subst e; rw [← Hs.out]; simp [nameOk]; omega
                · exact Hall.out j (by omega)
              clear h1 h2
              go_wp2
              go_round
              case rel => exact ⟨k + 1, by omega, by go_num, hok.out⟩
              case measure => simp [intOf]; omega
        · have hyes : Hid (names.all nameOk = true) := Lib.hid (all_take fun j hj => Hall.out j (by omega))
          go_wp2
          go_ret
          exact ⟨ret_int (by rw [hm.out, hyes.out]; rfl), rfl⟩
end Go.Proofs.Ytnaggipeliifgaa.Dsk
