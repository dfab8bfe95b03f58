/-
  New, Fuse, may, did, spot, Used of the reference's disk (chapter 3).
-/
import Derived.Test.YtkbfjgmgckbogaaGreatF7
import Derived.Test.YtkbfjgmgckbogaaGreatF6
import Derived.Deep.QuietTactic
import Derived.BigQuiet
namespace Go.Proofs.YtkbfjgmgckbogaaGreat.Dsk
open Go.RowKit L Oct
def RD.may (r : RD) (names : List ByteArray) : Nat := if r.left = 0 then 9 else if names.all nameOk then 0 else 1
def RD.did (r : RD) : RD := if 0 < r.left then { r with left := r.left - 1 } else r
theorem xnew_ok {W0 w : World} {R : Asrt} (H : Hold W0 R w) (room : Nat) (hr : room ≤ 1073741824) :
    Calls Tryz.prog 5 #[.int .i64 room] w (RetV fun v w' => ∃ b, v = .tuple #[ptr b, .int .i64 0] ∧ Hold W0 ((RefA b ⟨room, [], -1⟩).sep R) w') := by
  have H1 := ((inB_nil H).addNil 56 3).addBlk (cs := #[.int .i64 room, .slice none 0 0, .int .i64 (-1)]) (t := 43) (b := w.heap.size) rfl
  have HH := Lib.hid (ref_shut (r := ⟨room, [], -1⟩) (l := []) rfl H1)
  clear H1 H
  have g1 : decide ((room : Int) < 0) = false := by simp
  have g2 : decide ((1073741824 : Int) < (room : Int)) = false := by simp; omega
  go_enter Tryz.func5, Tryz.ntmps5
  go_wp2
  go_ret2
  exact ⟨_, rfl, _, rfl, HH.out⟩
theorem xnew_no (w : World) (room : Int) (hr : room < 0 ∨ 1073741824 < room) :
    Calls Tryz.prog 5 #[.int .i64 room] w fun e w' => e = .returned (.tuple #[.pointer none, .int .i64 1]) ∧ w = w' := by
  rcases hr with hr | hr
  · go_enter Tryz.func5, Tryz.ntmps5
    go_wp2
    go_ret2
    exact ⟨rfl, rfl⟩
  · have h0 : ¬ room < 0 := by omega
    go_enter Tryz.func5, Tryz.ntmps5
    go_wp2
    go_ret2
    exact ⟨rfl, rfl⟩
section
variable {W0 w : World} {R : Asrt} {b : Nat} {r : RD}
theorem xdid_any (H : Hold W0 ((RefA b r).sep R) w) (hm : -1 ≤ r.left ∧ r.left ≤ 9223372036854775807) :
    Calls Tryz.prog 17 #[ptr b] w fun e w' => e = .returned (.int .i64 0) ∧ Hold W0 ((RefA b r.did).sep R) w' := by
  obtain ⟨v, l, hl, H1⟩ := ref_open H
  have k2 := blk_cell H1.blk 2
  have f2 := blk_free H1.blk 2
  obtain ⟨room, fs, left⟩ := r
  obtain ⟨hm1, hm2⟩ := hm
  show Calls Tryz.prog 17 #[.pointer (some ⟨b, 0, none⟩)] w _
  by_cases h0 : 0 < left
  · have h0' : (0 : Int) < left := h0
    have hl1 : -1 ≤ left := hm1
    have hl2 : left ≤ 9223372036854775807 := hm2
    have e : RD.did ⟨room, fs, left⟩ = ⟨room, fs, left - 1⟩ := by unfold RD.did; rw [if_pos h0]
    have HH : Hid (Hold W0 ((RefA b (RD.did ⟨room, fs, left⟩)).sep R) (w.setCell ⟨b, 2, none⟩ (.int .i64 (left - 1)))) := Lib.hid (by rw [e]; exact ref_shut (r := ⟨room, fs, left - 1⟩) hl (H1.setB 2 (.int .i64 (left - 1))))
    clear H H1 hl e
    go_enter Tryz.func17, Tryz.ntmps17
    go_wp2
    go_ret
    exact ⟨rfl, HH.out⟩
  · have h0' : ¬ (0 : Int) < left := h0
    have e : RD.did ⟨room, fs, left⟩ = ⟨room, fs, left⟩ := by unfold RD.did; rw [if_neg h0]
    have HH : Hid (Hold W0 ((RefA b (RD.did ⟨room, fs, left⟩)).sep R) w) := Lib.hid (by rw [e]; exact H)
    clear H H1 hl e
    go_enter Tryz.func17, Tryz.ntmps17
    go_wp2
    go_ret
    exact ⟨rfl, HH.out⟩
set_option maxHeartbeats 800000 in
theorem xmay_any (H : Hold W0 ((RefA b r).sep R) w) (v : Value) (names : List ByteArray) (hv : Sl w 1 v names.length (strs names)) :
    Calls Tryz.prog 14 #[ptr b, v] w fun e w' => e = .returned (.int .i64 (r.may names)) ∧ w = w' := by
  obtain ⟨vv, l, hl, H1⟩ := ref_open H
  have k2 := blk_cell H1.blk 2
  have hlen := hv.run_len Tryz.underlying68
  have hmx := hv.le'
  obtain ⟨room, fs, left⟩ := r
  clear H1 hl H
  show Calls Tryz.prog 14 #[.pointer (some ⟨b, 0, none⟩), v] w _
  by_cases hf : left = 0
  · subst hf
    have hm : Hid (RD.may ⟨room, fs, 0⟩ names = 9) := Lib.hid rfl
    go_enter Tryz.func14, Tryz.ntmps14
    go_wp2
    go_ret
    exact ⟨ret_int (by rw [hm.out]; rfl), rfl⟩
  · have hm : Hid (RD.may ⟨room, fs, left⟩ names = if names.all nameOk then 0 else 1) := Lib.hid (by simp [RD.may, hf])
    have g0 : (left == 0) = false := by simpa using hf
    clear hf
    go_enter Tryz.func14, Tryz.ntmps14
    go_wp2
    go_loop [5] (fun i => ∃ k : Nat, k ≤ names.length ∧ i = .int .i64 k ∧ ∀ j, j < k → nameOk (names.getD j ByteArray.empty) = true) (fun i => names.length - (intOf i).toNat)
    case atStart => exact ⟨0, Nat.zero_le _, rfl, fun j hj => by omega⟩
    case round =>
      obtain ⟨k, hk, rfl, hall⟩ := hrel
      have Hall := Lib.hid hall
      clear hall
      by_cases hlt : k < names.length
      · obtain ⟨A, u, hA, hblk, hc, Hu⟩ := hv.at1 (P := Tryz.prog) Tryz.underlying68 Tryz.size9 k hlt
        rw [Hu.out, strs_get names k hlt] at hc
        obtain ⟨s, hs⟩ : ∃ s, s = names.getD k ByteArray.empty := ⟨_, rfl⟩
        rw [← hs] at hc
        have Hs := Lib.hid hs
        clear hs hblk Hu
        by_cases h1 : s.size < 1
        · have g1 : decide ((s.size : Int) < 1) = true := by simp; omega
          have hno : Hid (names.all nameOk = false) := Lib.hid (not_all hlt (by rw [← Hs.out]; simp [nameOk]; omega))
          clear h1
          go_wp2
          go_ret
          exact ⟨ret_int (by rw [hm.out, hno.out]; rfl), rfl⟩
        · have g1 : decide ((s.size : Int) < 1) = false := by simp; omega
          by_cases h2 : 64 < s.size
          · have g2 : decide ((64 : Int) < (s.size : Int)) = true := by simp; omega
            have hno : Hid (names.all nameOk = false) := Lib.hid (not_all hlt (by rw [← Hs.out]; simp [nameOk]; omega))
            clear h1 h2
            go_wp2
            go_ret
            exact ⟨ret_int (by rw [hm.out, hno.out]; rfl), rfl⟩
          · have g2 : decide ((64 : Int) < (s.size : Int)) = false := by simp; omega
            have hN : Hid (∀ j, j < k + 1 → nameOk (names.getD j ByteArray.empty) = true) := Lib.hid fun j hj => by
              by_cases e : j = k
              · subst e; rw [← Hs.out]; simp [nameOk]; omega
              · exact Hall.out j (by omega)
            clear h1 h2
            go_wp2
            go_round
            case rel => exact ⟨k + 1, by omega, by go_num, hN.out⟩
            case measure => simp [intOf]; omega
      · have hyes : Hid (names.all nameOk = true) := Lib.hid (all_take fun j hj => Hall.out j (by omega))
        go_wp2
        go_ret
        exact ⟨ret_int (by rw [hm.out, hyes.out]; rfl), rfl⟩
/-- how many files stand ahead of a name -/
def spotN (fs : List AF) (s : ByteArray) : Nat := (fs.takeWhile fun f => Op.bytesLess f.name.toList s.toList).length
def isAt (fs : List AF) (s : ByteArray) : Bool := decide (spotN fs s < fs.length) && ((fs.getD (spotN fs s) default).name.toList == s.toList)
theorem spotN_le (fs : List AF) (s : ByteArray) : spotN fs s ≤ fs.length := (List.takeWhile_prefix _).sublist.length_le
theorem spotN_at {fs : List AF} {s : ByteArray} {k : Nat} (hk : k ≤ fs.length) (h1 : ∀ j, j < k → Op.bytesLess (fs.getD j default).name.toList s.toList = true) (h2 : k < fs.length → Op.bytesLess (fs.getD k default).name.toList s.toList = false) : spotN fs s = k := by
  induction fs generalizing k with
  | nil => simp at hk; simp [spotN, hk]
  | cons f t ih =>
    cases k with
    | zero =>
      have := h2 (by simp)
      have h' : Op.bytesLess f.name.toList s.toList = false := this
      simp [spotN, h']
    | succ k =>
      have h' : Op.bytesLess f.name.toList s.toList = true := h1 0 (by omega)
      have := ih (k := k) (by simpa using hk) (fun j hj => by simpa using h1 (j + 1) (by omega)) (fun hk2 => by simpa using h2 (by simpa using hk2))
      simp only [spotN, List.takeWhile_cons, h', if_true, List.length_cons] at this ⊢
      omega
def SpotRel (fs : List AF) (s : ByteArray) (i : Value) : Prop := ∃ k : Nat, i = .int .i64 k ∧ k ≤ fs.length ∧ ∀ j, j < k → Op.bytesLess (fs.getD j default).name.toList s.toList = true
theorem fst_get {l : List (AF × Value)} {fs : List AF} (h : l.map Prod.fst = fs) (k : Nat) (hk : k < l.length) : (l.getD k default).1 = fs.getD k default := by
  subst h
  simp [List.getD, hk]
set_option maxHeartbeats 1600000 in
theorem xspot_any (H : Hold W0 ((RefA b r).sep R) w) (s : ByteArray) :
    Calls Tryz.prog 15 #[ptr b, .string s] w fun e w' => e = .returned (.tuple #[.int .i64 (spotN r.fs s : Nat), .bool (isAt r.fs s)]) ∧ ∃ n, w' = w.drewN n := by
  obtain ⟨v, l, hl, H1⟩ := ref_open H
  have k1 := blk_cell H1.blk 1
  have hs := H1.up2.sl
  have hlen := hs.run_len Tryz.underlying41
  have hmx := hs.le'
  obtain ⟨fs, hfs⟩ : ∃ fs, fs = r.fs := ⟨_, rfl⟩
  have hll : l.length = fs.length := by rw [hfs, ← hl]; simp
  have HL : Hid (l.map Prod.fst = fs) := Lib.hid (by rw [hl, hfs])
  rw [← hfs]
  have HLL := Lib.hid hll
  clear H1 hl H hfs hll
  show Calls Tryz.prog 15 #[.pointer (some ⟨b, 0, none⟩), .string s] w _
  go_enter Tryz.func15, Tryz.ntmps15
  go_wp2
  go_loop [6] (fun i => SpotRel fs s i) (fun i => l.length - (intOf i).toNat)
  case atStart => exact ⟨0, rfl, Nat.zero_le _, fun j hj => by omega⟩
  case round =>
    obtain ⟨k, rfl, hk, hall⟩ := hrel
    have Hall := Lib.hid hall
    rw [← HLL.out] at hk
    clear hall
    by_cases hlt : k < l.length
    · obtain ⟨A, p, hA, c0, c1, c2, Hp⟩ := hs.atF k _ rfl hlt
      have Hn : Hid (p.1 = fs.getD k default) := Lib.hid (by rw [Hp.out]; exact fst_get HL.out k hlt)
      cases hb : Op.bytesLess p.1.name.toList s.toList with
      | true =>
        have hN : Hid (∀ j, j < k + 1 → Op.bytesLess (fs.getD j default).name.toList s.toList = true) := Lib.hid fun j hj => by
          by_cases e : j = k
          · subst e; rw [← Hn.out]; exact hb
          · exact Hall.out j (by omega)
        go_wp2
        go_round
        case rel => exact ⟨k + 1, by go_num, by rw [← HLL.out]; omega, hN.out⟩
        case measure => simp [intOf]; omega
      | false =>
        have hS : Hid (spotN fs s = k) := Lib.hid (spotN_at (by rw [← HLL.out]; omega) Hall.out fun _ => by rw [← Hn.out]; exact hb)
        have hI : Hid (isAt fs s = (p.1.name.toList == s.toList)) := Lib.hid (by
          unfold isAt
          rw [hS.out, ← Hn.out]
          have : k < fs.length := by rw [← HLL.out]; exact hlt
          simp [this])
        have hd : decide ((k : Int) < (l.length : Int)) = true := by simp; omega
        have hd' : decide (k < l.length) = true := by simp; omega
        go_wp2
        go_quiet (fail)
        go_wp2
        go_ret2
        exact ⟨by rw [hS.out, hI.out]; rfl, _, rfl⟩
    · obtain rfl : k = l.length := by omega
      have hS : Hid (spotN fs s = l.length) := Lib.hid (spotN_at (by rw [← HLL.out]; omega) Hall.out fun h => by rw [← HLL.out] at h; omega)
      have hI : Hid (isAt fs s = false) := Lib.hid (by
        unfold isAt
        rw [hS.out, HLL.out]
        simp)
      have hd : decide ((l.length : Int) < (l.length : Int)) = false := by simp
      have hd' : decide (l.length < l.length) = false := by simp
      go_wp2
      go_quiet (fail)
      go_wp2
      go_ret2
      exact ⟨by rw [hS.out, hI.out]; rfl, _, rfl⟩
def XUsedRel (fs : List AF) (n i : Value) : Prop := ∃ k : Nat, i = .int .i64 k ∧ k ≤ fs.length ∧ n = .int .i64 (used (fs.take k) : Nat)
theorem used_take {fs : List AF} {k : Nat} (hk : k < fs.length) : used (fs.take (k + 1)) = used (fs.take k) + (fs.getD k default).data.length := by
  rw [List.take_succ_eq_append_getElem hk, used_append]
  simp [used, List.getD, hk]
theorem used_take_le (fs : List AF) (k : Nat) : used (fs.take k) ≤ used fs := by
  conv => rhs; rw [← List.take_append_drop k fs]
  rw [used_append]; omega
set_option maxHeartbeats 1600000 in
theorem xused_any (H : Hold W0 ((RefA b r).sep R) w) (hu : used r.fs ≤ 4611686018427387904) :
    Calls Tryz.prog 16 #[ptr b] w fun e w' => e = .returned (.int .i64 (used r.fs : Nat)) ∧ w = w' := by
  obtain ⟨v, l, hl, H1⟩ := ref_open H
  have k1 := blk_cell H1.blk 1
  have hs := H1.up2.sl
  have hin := Lib.hid (H1.up3.inB)
  have hlen := hs.run_len Tryz.underlying41
  have hmx := hs.le'
  obtain ⟨fs, hfs⟩ : ∃ fs, fs = r.fs := ⟨_, rfl⟩
  have hll : l.length = fs.length := by rw [hfs, ← hl]; simp
  have HL : Hid (l.map Prod.fst = fs) := Lib.hid (by rw [hl, hfs])
  rw [← hfs] at hu ⊢
  have HLL := Lib.hid hll
  clear H1 hl H hfs hll
  show Calls Tryz.prog 16 #[.pointer (some ⟨b, 0, none⟩)] w _
  go_enter Tryz.func16, Tryz.ntmps16
  go_wp2
  go_loop [3, 4] (fun n i => XUsedRel fs n i) (fun _ i => l.length - (intOf i).toNat)
  case atStart => exact ⟨0, rfl, Nat.zero_le _, rfl⟩
  case round =>
    obtain ⟨k, rfl, hk, rfl⟩ := hrel
    rw [← HLL.out] at hk
    by_cases hlt : k < l.length
    · obtain ⟨A, p, hA, c0, c1, c2, Hp⟩ := hs.atF k _ rfl hlt
      have hp : p ∈ l := by rw [Hp.out]; simp [List.getD, hlt]
      have hlp := (hin.out p hp).run_len Tryz.underlying22
      have hut := used_take (fs := fs) (k := k) (by rw [← HLL.out]; exact hlt)
      have hle := used_take_le fs (k + 1)
      rw [← fst_get HL.out k hlt, ← Hp.out] at hut
      obtain ⟨m, hm⟩ : ∃ m, m = used (fs.take k) := ⟨_, rfl⟩
      rw [← hm] at hut ⊢
      rw [hut] at hle
      have HU := Lib.hid hut
      clear hut hm hp
      go_wp2
      go_round
      case rel => exact ⟨k + 1, by go_num, by rw [← HLL.out]; omega, by rw [HU.out]; go_num⟩
      case measure => simp [intOf]; omega
    · obtain rfl : k = l.length := by omega
      go_wp2
      go_ret
      exact ⟨ret_int (by rw [List.take_of_length_le (by rw [HLL.out]; omega)]), rfl⟩
end
end Go.Proofs.YtkbfjgmgckbogaaGreat.Dsk
