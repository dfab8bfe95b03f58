/-
  Crash of chapter 3.
-/
import Derived.Test.YtkbfjgmgckbogaaGreatF7
import Derived.Test.YtkbfjgmgckbogaaGreatF3
import Derived.Deep.RegionHeld3
import Derived.Deep.DeepCutAuto
namespace Go.Proofs.YtkbfjgmgckbogaaGreat.Dsk
open Go.RowKit L Oct
/-- how many bytes of a file stay -/
def stays (k : Nat) (f : AF) : Nat := f.lasts + k % (f.data.length - f.lasts + 1)
def crashF (k : Nat) (f : AF) : AF := ⟨f.name, f.data.take (stays k f), stays k f⟩
def D.crash (d : D) (k : Nat) : D := { d with fs := d.fs.map (crashF k), fused := false }
def crashX (k : Nat) (x : Fl) : Fl := ⟨crashF k x.f, x.blk⟩
def inN (lr : List Fl) (s : ByteArray) : Bool := lr.any fun z => decide (z.f.name = s)
theorem inN_iff {lr : List Fl} {s : ByteArray} : inN lr s = true ↔ s ∈ names lr := by
  simp only [inN, List.any_eq_true, names, List.mem_map, decide_eq_true_eq]
/-- files of which those of lr are still to come -/
def crashL (k : Nat) (lr l : List Fl) : List Fl := l.map fun y : Fl => if inN lr y.f.name then y else crashX k y
theorem crashL_all (k : Nat) (l : List Fl) : crashL k l l = l := by
  unfold crashL
  conv => rhs; rw [← List.map_id l]
  refine List.map_congr_left fun y hy => ?_
  rw [if_pos (inN_iff.2 (List.mem_map.2 ⟨y, hy, rfl⟩))]; rfl
theorem crashL_nil (k : Nat) (l : List Fl) : crashL k [] l = l.map (crashX k) := by
  unfold crashL
  refine List.map_congr_left fun y hy => ?_
  rw [if_neg (by simp [inN])]
theorem ents_crashL (k : Nat) (lr l : List Fl) : ents (crashL k lr l) = ents l := by
  unfold crashL ents
  rw [List.map_map]
  refine List.map_congr_left fun y hy => ?_
  simp only [Function.comp]
  split <;> rfl
theorem u8s_take (l : List UInt8) (n : Nat) : (u8s l).take n = u8s (l.take n) := by simp [u8s]
theorem names_strike {lr : List Fl} {s t : ByteArray} : t ∈ names (strike lr s) ↔ t ∈ names lr ∧ t ≠ s := by
  simp only [names, strike, List.mem_map, List.mem_filter]
  constructor
  · rintro ⟨x, ⟨h1, h2⟩, rfl⟩
    exact ⟨⟨x, h1, rfl⟩, by simpa using h2⟩
  · rintro ⟨⟨x, h1, rfl⟩, h2⟩
    exact ⟨x, ⟨h1, by simpa using h2⟩, rfl⟩
theorem crashL_split {k : Nat} {lr a c : List Fl} {x : Fl} (hx : x ∈ lr) : crashL k lr (a ++ x :: c) = crashL k lr a ++ x :: crashL k lr c := by
  have : inN lr x.f.name = true := inN_iff.2 (List.mem_map.2 ⟨x, hx, rfl⟩)
  simp [crashL, this]
theorem crashL_strike {k : Nat} {lr a c : List Fl} {x : Fl} (ha : ∀ y ∈ a, y.f.name ≠ x.f.name) (hc : ∀ y ∈ c, y.f.name ≠ x.f.name) :
    crashL k (strike lr x.f.name) (a ++ x :: c) = crashL k lr a ++ crashX k x :: crashL k lr c := by
  have h0 : ∀ l : List Fl, (∀ y ∈ l, y.f.name ≠ x.f.name) → crashL k (strike lr x.f.name) l = crashL k lr l := by
    intro l hl
    refine List.map_congr_left fun y hy => ?_
    have : inN (strike lr x.f.name) y.f.name = inN lr y.f.name := by
      rw [Bool.eq_iff_iff, inN_iff, inN_iff, names_strike]; exact ⟨fun h => h.1, fun h => ⟨h, hl y hy⟩⟩
    simp [this]
  have hx : ¬ inN (strike lr x.f.name) x.f.name = true := fun h => (names_strike.1 (inN_iff.1 h)).2 rfl
  have e : crashL k (strike lr x.f.name) (a ++ x :: c) = crashL k (strike lr x.f.name) a ++ crashX k x :: crashL k (strike lr x.f.name) c := by simp [crashL, hx]
  rw [e, h0 a ha, h0 c hc]
theorem nodup_split {l a c : List Fl} {x : Fl} (hn : (names l).Nodup) (h : l = a ++ x :: c) : (∀ y ∈ a, y.f.name ≠ x.f.name) ∧ ∀ y ∈ c, y.f.name ≠ x.f.name := by
  subst h
  simp only [names, List.map_append, List.map_cons] at hn
  rw [List.nodup_append] at hn
  refine ⟨fun y hy e => hn.2.2 _ (List.mem_map.2 ⟨y, hy, rfl⟩) _ (List.mem_cons_self) e, fun y hy e => (List.nodup_cons.1 hn.2.1).1 (List.mem_map.2 ⟨y, hy, e⟩)⟩
def CrashRel (W0 : World) (R : Asrt) (b mb r : Nat) (d : D) (l : List Fl) (k : Nat) (wr : World) : Prop :=
  ∃ (lr : List Fl), (∀ x ∈ lr, x ∈ l) ∧ (names lr).Nodup ∧
    Hold W0 ((RangeA mb r (ents l) (ents lr)).sep ((Blk b #[.int .i64 d.room, .map (some mb), .bool d.fused, .int .i64 d.left] 40).sep ((FilesA (crashL k lr l)).sep R))) wr
end Go.Proofs.YtkbfjgmgckbogaaGreat.Dsk
