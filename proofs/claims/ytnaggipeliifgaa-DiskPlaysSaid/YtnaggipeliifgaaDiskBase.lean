/-
  A disk (chapter 3) in memory: its own cells, a map from names to files, and the files.
-/
import Derived.Test.YtnaggipeliifgaaFacts
import Derived.Test.YtnaggipeliifgaaMapR
import Derived.Test.YtnaggipeliifgaaF2
import Derived.Test.YtnaggipeliifgaaF4
namespace Go.Proofs.Ytnaggipeliifgaa.Dsk
open Go.RowKit L Oct
/-- a file: its name, its bytes, how many of them last -/
structure AF where
  name : ByteArray
  data : List UInt8
  lasts : Nat
/-- a disk -/
structure D where
  room : Nat
  fs : List AF
  fused : Bool
  left : Nat
/-- a file and the block where it lies -/
structure Fl where
  f : AF
  blk : Nat
def ptr (b : Nat) : Value := .pointer (some ⟨b, 0, none⟩)
def ents (l : List Fl) : List (ByteArray × Value) := l.map fun x => (x.f.name, ptr x.blk)
def FileA (x : Fl) : Asrt := ExA fun v => (Blk x.blk #[v, .int .i64 x.f.lasts] 64).sep (Row 5 1 v x.f.data.length (u8s x.f.data))
def FilesA : List Fl → Asrt
  | [] => Asrt.emp
  | x :: r => (FileA x).sep (FilesA r)
def DiskA (b : Nat) (d : D) : Asrt := ExA fun y : Nat × { l : List Fl // l.map Fl.f = d.fs } =>
  (Blk b #[.int .i64 d.room, .map (some y.1), .bool d.fused, .int .i64 d.left] 60).sep ((MapA y.1 (ents y.2.1)).sep (FilesA y.2.1))
theorem files_split : ∀ (a : List Fl) (x : Fl) (c : List Fl), FilesA (a ++ x :: c) = (FileA x).sep (FilesA (a ++ c))
  | [], _, _ => rfl
  | y :: a, x, c => by
    show (FileA y).sep (FilesA (a ++ x :: c)) = (FileA x).sep ((FileA y).sep (FilesA (a ++ c)))
    rw [files_split a x c]
    ac_rfl
section
variable {W0 w : World} {R : Asrt} {b : Nat} {d : D}
theorem disk_open (h : Hold W0 ((DiskA b d).sep R) w) : ∃ mb l, l.map Fl.f = d.fs ∧
    Hold W0 ((Blk b #[.int .i64 d.room, .map (some mb), .bool d.fused, .int .i64 d.left] 60).sep ((MapA mb (ents l)).sep ((FilesA l).sep R))) w := by
  obtain ⟨⟨mb, l, hl⟩, h⟩ := h.unex
  exact ⟨mb, l, hl, h.perm (by ac_rfl)⟩
theorem disk_shut {mb : Nat} {l : List Fl} (hl : l.map Fl.f = d.fs) (h : Hold W0 ((Blk b #[.int .i64 d.room, .map (some mb), .bool d.fused, .int .i64 d.left] 60).sep ((MapA mb (ents l)).sep ((FilesA l).sep R))) w) : Hold W0 ((DiskA b d).sep R) w :=
  Hold.toex (f := fun y : Nat × { l : List Fl // l.map Fl.f = d.fs } => (Blk b #[.int .i64 d.room, .map (some y.1), .bool d.fused, .int .i64 d.left] 60).sep ((MapA y.1 (ents y.2.1)).sep (FilesA y.2.1))) (mb, ⟨l, hl⟩) (h.perm (by ac_rfl))
theorem file_open {x : Fl} (h : Hold W0 ((FileA x).sep R) w) : ∃ v, Hold W0 ((Blk x.blk #[v, .int .i64 x.f.lasts] 64).sep ((Row 5 1 v x.f.data.length (u8s x.f.data)).sep R)) w := by
  obtain ⟨v, h⟩ := h.unex
  exact ⟨v, h.perm (by ac_rfl)⟩
theorem file_shut {x : Fl} {v : Value} (h : Hold W0 ((Blk x.blk #[v, .int .i64 x.f.lasts] 64).sep ((Row 5 1 v x.f.data.length (u8s x.f.data)).sep R)) w) : Hold W0 ((FileA x).sep R) w :=
  Hold.toex (f := fun v => (Blk x.blk #[v, .int .i64 x.f.lasts] 64).sep (Row 5 1 v x.f.data.length (u8s x.f.data))) v (h.perm (by ac_rfl))
end
/-! ### plain -/
/-- the file of a name -/
def getF (l : List AF) (s : ByteArray) : Option AF := l.find? fun f => decide (f.name = s)
def updF (l : List AF) (s : ByteArray) (g : AF → AF) : List AF := l.map fun f => if f.name = s then g f else f
def used (l : List AF) : Nat := (l.map fun f => f.data.length).sum
def D.used (d : D) : Nat := Dsk.used d.fs
def nameOk (s : ByteArray) : Bool := decide (1 ≤ s.size) && decide (s.size ≤ 64)
/-- may a thing be done with files of some names? -/
def D.may (d : D) (names : List ByteArray) : Nat := if d.fused && decide (d.left = 0) then 9 else if names.all nameOk then 0 else 1
/-- a thing was done -/
def D.done (d : D) : D := if d.fused then { d with left := d.left - 1 } else d
theorem ents_get (l : List Fl) (s : ByteArray) : mget (ents l) s = (l.find? fun x => decide (x.f.name = s)).map fun x => ptr x.blk := by
  unfold mget ents
  induction l with
  | nil => rfl
  | cons x r ih =>
    simp only [List.map_cons, List.find?_cons]
    cases h : decide (x.f.name = s)
    · simpa using ih
    · simp
theorem ents_names (l : List Fl) : (ents l).map (·.1) = l.map fun x => x.f.name := by simp [ents]
theorem get_split {l : List Fl} {s : ByteArray} {x : Fl} (hn : (l.map fun x => x.f.name).Nodup) (h : l.find? (fun x => decide (x.f.name = s)) = some x) :
    ∃ a c, l = a ++ x :: c ∧ x.f.name = s ∧ (∀ y ∈ a, y.f.name ≠ s) ∧ ∀ y ∈ c, y.f.name ≠ s := by
  obtain ⟨hx, a, c, rfl, ha⟩ := List.find?_eq_some_iff_append.1 h
  have hx' : x.f.name = s := by simpa using hx
  refine ⟨a, c, rfl, hx', fun y hy => by simpa using ha y hy, fun y hy e => ?_⟩
  rw [List.map_append, List.map_cons, List.nodup_append] at hn
  have := (List.nodup_cons.1 hn.2.1).1
  exact this (List.mem_map.2 ⟨y, hy, by rw [e, hx']⟩)
theorem get_map (l : List Fl) (s : ByteArray) : getF (l.map Fl.f) s = (l.find? fun x => decide (x.f.name = s)).map Fl.f := by
  unfold getF
  induction l with
  | nil => rfl
  | cons x r ih =>
    simp only [List.map_cons, List.find?_cons]
    cases h : decide (x.f.name = s)
    · simpa using ih
    · simp
theorem upd_split {a c : List Fl} {x : Fl} {s : ByteArray} (g : AF → AF) (hx : x.f.name = s) (ha : ∀ y ∈ a, y.f.name ≠ s) (hc : ∀ y ∈ c, y.f.name ≠ s) : updF ((a ++ x :: c).map Fl.f) s g = (a ++ ⟨g x.f, x.blk⟩ :: c).map Fl.f := by
  have h1 : ∀ l : List Fl, (∀ y ∈ l, y.f.name ≠ s) → (l.map Fl.f).map (fun f => if f.name = s then g f else f) = l.map Fl.f := by
    intro l hl
    rw [List.map_map]
    refine List.map_congr_left fun y hy => ?_
    simp [hl y hy]
  simp only [updF, List.map_append, List.map_cons]
  rw [h1 a ha, h1 c hc, if_pos hx]
theorem used_append (a b : List AF) : used (a ++ b) = used a + used b := by simp [used]
theorem used_cons (x : AF) (b : List AF) : used (x :: b) = x.data.length + used b := by simp [used]
end Go.Proofs.Ytnaggipeliifgaa.Dsk
