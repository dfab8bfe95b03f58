/-
  Texts that the proofs of this seat stand on, one behind the other: contracts of functions and plain lemmas. Conditions: those that each theorem states.
-/
import Derived.Test.YtkbfjgmgckbogaaGreatFacts
import Derived.Test.YtkbfjgmgckbogaaGreatF4
import Derived.Test.YtkbfjgmgckbogaaGreatF2
import Derived.Test.YtkbfjgmgckbogaaGreatF5
import Derived.Maps.RangeWalk
/-
  A disk (chapter 3) in memory: its own cells, a map from names to files, and the files.
-/




namespace Go.Proofs.YtkbfjgmgckbogaaGreat.Dsk
open Go.RowKit L Oct
/-- a file: its name, its bytes, how many of them last -/
structure AF where
  name : ByteArray
  data : List UInt8
  lasts : Nat
/-- a disk -/
structure D where
  room : Nat
  fs : List AF
  fused : Bool
  left : Nat
/-- a file and the block where it lies -/
structure Fl where
  f : AF
  blk : Nat
def ptr (b : Nat) : Value := .pointer (some ⟨b, 0, none⟩)
def ents (l : List Fl) : List (ByteArray × Value) := l.map fun x => (x.f.name, ptr x.blk)
def FileA (x : Fl) : Asrt := ExA fun v => (Blk x.blk #[v, .int .i64 x.f.lasts] 50).sep (Row 5 1 v x.f.data.length (u8s x.f.data))
def FilesA : List Fl → Asrt
  | [] => Asrt.emp
  | x :: r => (FileA x).sep (FilesA r)
def DiskA (b : Nat) (d : D) : Asrt := ExA fun y : Nat × { l : List Fl // l.map Fl.f = d.fs } =>
  (Blk b #[.int .i64 d.room, .map (some y.1), .bool d.fused, .int .i64 d.left] 40).sep ((MapA y.1 (ents y.2.1)).sep (FilesA y.2.1))
theorem files_split : ∀ (a : List Fl) (x : Fl) (c : List Fl), FilesA (a ++ x :: c) = (FileA x).sep (FilesA (a ++ c))
  | [], _, _ => rfl
  | y :: a, x, c => by
    show (FileA y).sep (FilesA (a ++ x :: c)) = (FileA x).sep ((FileA y).sep (FilesA (a ++ c)))
    rw [files_split a x c]
    ac_rfl
section
variable {W0 w : World} {R : Asrt} {b : Nat} {d : D}
theorem disk_open (h : Hold W0 ((DiskA b d).sep R) w) : ∃ mb l, l.map Fl.f = d.fs ∧
    Hold W0 ((Blk b #[.int .i64 d.room, .map (some mb), .bool d.fused, .int .i64 d.left] 40).sep ((MapA mb (ents l)).sep ((FilesA l).sep R))) w := by
  obtain ⟨⟨mb, l, hl⟩, h⟩ := h.unex
  exact ⟨mb, l, hl, h.perm (by ac_rfl)⟩
theorem disk_shut {mb : Nat} {l : List Fl} (hl : l.map Fl.f = d.fs) (h : Hold W0 ((Blk b #[.int .i64 d.room, .map (some mb), .bool d.fused, .int .i64 d.left] 40).sep ((MapA mb (ents l)).sep ((FilesA l).sep R))) w) : Hold W0 ((DiskA b d).sep R) w :=
  Hold.toex (f := fun y : Nat × { l : List Fl // l.map Fl.f = d.fs } => (Blk b #[.int .i64 d.room, .map (some y.1), .bool d.fused, .int .i64 d.left] 40).sep ((MapA y.1 (ents y.2.1)).sep (FilesA y.2.1))) (mb, ⟨l, hl⟩) (h.perm (by ac_rfl))
theorem file_open {x : Fl} (h : Hold W0 ((FileA x).sep R) w) : ∃ v, Hold W0 ((Blk x.blk #[v, .int .i64 x.f.lasts] 50).sep ((Row 5 1 v x.f.data.length (u8s x.f.data)).sep R)) w := by
  obtain ⟨v, h⟩ := h.unex
  exact ⟨v, h.perm (by ac_rfl)⟩
theorem file_shut {x : Fl} {v : Value} (h : Hold W0 ((Blk x.blk #[v, .int .i64 x.f.lasts] 50).sep ((Row 5 1 v x.f.data.length (u8s x.f.data)).sep R)) w) : Hold W0 ((FileA x).sep R) w :=
  Hold.toex (f := fun v => (Blk x.blk #[v, .int .i64 x.f.lasts] 50).sep (Row 5 1 v x.f.data.length (u8s x.f.data))) v (h.perm (by ac_rfl))
end
/-! ### plain -/
/-- the file of a name -/
def getF (l : List AF) (s : ByteArray) : Option AF := l.find? fun f => decide (f.name = s)
def updF (l : List AF) (s : ByteArray) (g : AF → AF) : List AF := l.map fun f => if f.name = s then g f else f
def used (l : List AF) : Nat := (l.map fun f => f.data.length).sum
def D.used (d : D) : Nat := Dsk.used d.fs
def nameOk (s : ByteArray) : Bool := decide (1 ≤ s.size) && decide (s.size ≤ 64)
/-- may a thing be done with files of some names? -/
def D.may (d : D) (names : List ByteArray) : Nat := if d.fused && decide (d.left = 0) then 9 else if names.all nameOk then 0 else 1
/-- a thing was done -/
def D.done (d : D) : D := if d.fused then { d with left := d.left - 1 } else d
theorem ents_get (l : List Fl) (s : ByteArray) : mget (ents l) s = (l.find? fun x => decide (x.f.name = s)).map fun x => ptr x.blk := by
  unfold mget ents
  induction l with
  | nil => rfl
  | cons x r ih =>
    simp only [List.map_cons, List.find?_cons]
    cases h : decide (x.f.name = s)
    · simpa using ih
    · simp
theorem ents_names (l : List Fl) : (ents l).map (·.1) = l.map fun x => x.f.name := by simp [ents]
theorem get_split {l : List Fl} {s : ByteArray} {x : Fl} (hn : (l.map fun x => x.f.name).Nodup) (h : l.find? (fun x => decide (x.f.name = s)) = some x) :
    ∃ a c, l = a ++ x :: c ∧ x.f.name = s ∧ (∀ y ∈ a, y.f.name ≠ s) ∧ ∀ y ∈ c, y.f.name ≠ s := by
  obtain ⟨hx, a, c, rfl, ha⟩ := List.find?_eq_some_iff_append.1 h
  have hx' : x.f.name = s := by simpa using hx
  refine ⟨a, c, rfl, hx', fun y hy => by simpa using ha y hy, fun y hy e => ?_⟩
  rw [List.map_append, List.map_cons, List.nodup_append] at hn
  have := (List.nodup_cons.1 hn.2.1).1
  exact this (List.mem_map.2 ⟨y, hy, by rw [e, hx']⟩)
theorem get_map (l : List Fl) (s : ByteArray) : getF (l.map Fl.f) s = (l.find? fun x => decide (x.f.name = s)).map Fl.f := by
  unfold getF
  induction l with
  | nil => rfl
  | cons x r ih =>
    simp only [List.map_cons, List.find?_cons]
    cases h : decide (x.f.name = s)
    · simpa using ih
    · simp
theorem upd_split {a c : List Fl} {x : Fl} {s : ByteArray} (g : AF → AF) (hx : x.f.name = s) (ha : ∀ y ∈ a, y.f.name ≠ s) (hc : ∀ y ∈ c, y.f.name ≠ s) : updF ((a ++ x :: c).map Fl.f) s g = (a ++ ⟨g x.f, x.blk⟩ :: c).map Fl.f := by
  have h1 : ∀ l : List Fl, (∀ y ∈ l, y.f.name ≠ s) → (l.map Fl.f).map (fun f => if f.name = s then g f else f) = l.map Fl.f := by
    intro l hl
    rw [List.map_map]
    refine List.map_congr_left fun y hy => ?_
    simp [hl y hy]
  simp only [updF, List.map_append, List.map_cons]
  rw [h1 a ha, h1 c hc, if_pos hx]
theorem used_append (a b : List AF) : used (a ++ b) = used a + used b := by simp [used]
theorem used_cons (x : AF) (b : List AF) : used (x :: b) = x.data.length + used b := by simp [used]
end Go.Proofs.YtkbfjgmgckbogaaGreat.Dsk

/-
  New, may, done, Used, Fuse of chapter 3.
-/


namespace Go.Proofs.YtkbfjgmgckbogaaGreat.Dsk
open Go.RowKit L Oct
set_option maxHeartbeats 800000 in
theorem new_ok {W0 w : World} {R : Asrt} (H : Hold W0 R w) (room : Nat) (hr : room ≤ 1073741824) :
    Calls Tryz.prog 4 #[.int .i64 room] w (RetV fun v w' => ∃ b, v = .tuple #[ptr b, .int .i64 0] ∧ Hold W0 ((DiskA b ⟨room, [], false, 0⟩).sep R) w') := by
  have H1 := H.addMap.addBlk (cs := #[.int .i64 room, .map (some w.heap.size), .bool false, .int .i64 0]) (t := 40) (b := w.heap.size + 1) (by simp)
  have H2 : Hold W0 ((DiskA (w.heap.size + 1) ⟨room, [], false, 0⟩).sep R) _ := disk_shut (d := ⟨room, [], false, 0⟩) (mb := w.heap.size) (l := []) rfl (H1.perm (by rw [show FilesA [] = Asrt.emp from rfl, emp_sep]; rfl))
  have HH := Lib.hid H2
  clear H1 H2 H
  have hmk := fun w' : World => run_makeMap (P := Tryz.prog) 38 w'
  have g1 : decide ((room : Int) < 0) = false := by simp
  have g2 : decide ((1073741824 : Int) < (room : Int)) = false := by simp; omega
  go_enter Tryz.func4, Tryz.ntmps4
  go_wp2
  go_ret2
  exact ⟨_, rfl, _, rfl, HH.out⟩
theorem new_no (w : World) (room : Int) (hr : room < 0 ∨ 1073741824 < room) :
    Calls Tryz.prog 4 #[.int .i64 room] w fun e w' => e = .returned (.tuple #[.pointer none, .int .i64 1]) ∧ w = w' := by
  rcases hr with hr | hr
  · go_enter Tryz.func4, Tryz.ntmps4
    go_wp2
    go_ret2
    exact ⟨rfl, rfl⟩
  · have h0 : ¬ room < 0 := by omega
    go_enter Tryz.func4, Tryz.ntmps4
    go_wp2
    go_ret2
    exact ⟨rfl, rfl⟩
theorem all_take {l : List ByteArray} {f : ByteArray → Bool} (h : ∀ j, j < l.length → f (l.getD j ByteArray.empty) = true) : l.all f = true := by
  rw [List.all_eq_true]
  intro x hx
  obtain ⟨i, hi, rfl⟩ := List.getElem_of_mem hx
  have := h i hi
  simpa [List.getD, hi] using this
theorem not_all {l : List ByteArray} {f : ByteArray → Bool} {k : Nat} (hk : k < l.length) (h : f (l.getD k ByteArray.empty) = false) : l.all f = false := by
  rw [Bool.eq_false_iff]
  intro ha
  rw [List.all_eq_true] at ha
  have := ha _ (List.getElem_mem hk)
  simp only [List.getD, List.getElem?_eq_getElem hk, Option.getD_some] at h
  rw [h] at this; cases this
set_option maxHeartbeats 800000 in
theorem may_any {W0 w : World} {R : Asrt} {b : Nat} {d : D} (H : Hold W0 ((DiskA b d).sep R) w) (v : Value) (names : List ByteArray) (hv : Sl w 1 v names.length (strs names)) :
    Calls Tryz.prog 10 #[ptr b, v] w fun e w' => e = .returned (.int .i64 (d.may names)) ∧ w = w' := by
  obtain ⟨mb, l, hl, H1⟩ := disk_open H
  have k2 := blk_cell H1.blk 2
  have k3 := blk_cell H1.blk 3
  have hlen := hv.run_len Tryz.underlying68
  have hmx := hv.le'
  obtain ⟨room, fs, fused, left⟩ := d
  clear H1 hl H
  by_cases hf : fused = true ∧ left = 0
  · obtain ⟨rfl, rfl⟩ := hf
    have hm : Hid (D.may ⟨room, fs, true, 0⟩ names = 9) := Lib.hid rfl
    show Calls Tryz.prog 10 #[.pointer (some ⟨b, 0, none⟩), v] w _
    go_enter Tryz.func10, Tryz.ntmps10
    go_wp2
    go_ret
    exact ⟨ret_int (by rw [hm.out]; rfl), rfl⟩
  · have hm : Hid (D.may ⟨room, fs, fused, left⟩ names = if names.all nameOk then 0 else 1) := Lib.hid (by
      have : (fused && decide (left = 0)) = false := by
        rw [Bool.eq_false_iff]; intro h; exact hf (by simpa using h)
      simp [D.may, this])
    have hcase : Hid ((fused = false) ∨ (fused = true ∧ ((left : Int) == 0) = false)) := Lib.hid (by
      cases fused with
      | false => exact .inl rfl
      | true => exact .inr ⟨rfl, by simpa using hf⟩)
    clear hf
    show Calls Tryz.prog 10 #[.pointer (some ⟨b, 0, none⟩), v] w _
    go_enter Tryz.func10, Tryz.ntmps10
    rcases hcase.out with rfl | ⟨rfl, hl0⟩
    all_goals
      clear hcase
      go_wp2
      go_loop [24] (fun i => ∃ k : Nat, k ≤ names.length ∧ i = .int .i64 k ∧ ∀ j, j < k → nameOk (names.getD j ByteArray.empty) = true) (fun i => names.length - (intOf i).toNat)
      case atStart => exact ⟨0, Nat.zero_le _, rfl, fun j hj => by omega⟩
      case round =>
        obtain ⟨k, hk, rfl, hall⟩ := hrel
        have Hall := Lib.hid hall
        clear hall
        by_cases hlt : k < names.length
        · obtain ⟨A, u, hA, hblk, hc, Hu⟩ := hv.at1 (P := Tryz.prog) Tryz.underlying68 Tryz.size9 k hlt
          rw [Hu.out, strs_get names k hlt] at hc
          obtain ⟨s, hs⟩ : ∃ s, s = names.getD k ByteArray.empty := ⟨_, rfl⟩
          rw [← hs] at hc
          have Hs := Lib.hid hs
          clear hs hblk Hu
          by_cases h1 : s.size < 1
          · have g1 : decide ((s.size : Int) < 1) = true := by simp; omega
            have hno : Hid (names.all nameOk = false) := Lib.hid (not_all hlt (by rw [← Hs.out]; simp [nameOk]; omega))
            clear h1
            go_wp2
            go_ret
            exact ⟨ret_int (by rw [hm.out, hno.out]; rfl), rfl⟩
          · have g1 : decide ((s.size : Int) < 1) = false := by simp; omega
            by_cases h2 : 64 < s.size
            · have g2 : decide ((64 : Int) < (s.size : Int)) = true := by simp; omega
              have hno : Hid (names.all nameOk = false) := Lib.hid (not_all hlt (by rw [← Hs.out]; simp [nameOk]; omega))
              clear h1 h2
              go_wp2
              go_ret
              exact ⟨ret_int (by rw [hm.out, hno.out]; rfl), rfl⟩
            · have g2 : decide ((64 : Int) < (s.size : Int)) = false := by simp; omega
              have hok : Hid (∀ j, j < k + 1 → nameOk (names.getD j ByteArray.empty) = true) := Lib.hid fun j hj => by
                by_cases e : j = k
                · subst e; rw [← Hs.out]; simp [nameOk]; omega
                · exact Hall.out j (by omega)
              clear h1 h2
              go_wp2
              go_round
              case rel => exact ⟨k + 1, by omega, by go_num, hok.out⟩
              case measure => simp [intOf]; omega
        · have hyes : Hid (names.all nameOk = true) := Lib.hid (all_take fun j hj => Hall.out j (by omega))
          go_wp2
          go_ret
          exact ⟨ret_int (by rw [hm.out, hyes.out]; rfl), rfl⟩
end Go.Proofs.YtkbfjgmgckbogaaGreat.Dsk
