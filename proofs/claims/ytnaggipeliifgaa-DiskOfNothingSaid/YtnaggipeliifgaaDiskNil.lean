/-
  A nil disk (chapter 3).
-/
import Derived.Test.YtnaggipeliifgaaDiskLoop
import Derived.Test.YtnaggipeliifgaaDiskTrunc
import Derived.Test.YtnaggipeliifgaaDiskRename
namespace Go.Proofs.Ytnaggipeliifgaa.Dsk
open Go.RowKit L Oct
def nilD : Value := .pointer none
def RetNil (w : World) (k : Nat) (e : Ending) (w' : World) : Prop := e = .returned (.int .i64 k) ∧ Below w.heap.size w w'
theorem may_nil (w : World) (v : Value) : Calls Try.prog 30 #[.pointer none, v] w fun e w' => e = .returned (.int .i64 1) ∧ w = w' := by
  go_enter Try.func30, Try.ntmps30
  go_wp2
  go_ret
  exact ⟨rfl, rfl⟩
theorem each_nil (w : World) (v f : Value) : Calls Try.prog 33 #[.pointer none, v, f] w fun e w' => e = .returned (.int .i64 1) ∧ w = w' := by
  go_enter Try.func33, Try.ntmps33
  go_wp2
  go_ret
  exact ⟨rfl, rfl⟩
theorem append_nil (w : World) (s : ByteArray) (v : Value) : Calls Try.prog 12 #[.pointer none, .string s, v] w (RetNil w 1) := by
  go_enter Try.func12, Try.ntmps12
  go_wp2_with (go_at_call 30; refine (may_nil _ _).mono ?_; rintro e w2 ⟨rfl, rfl⟩)
  go_ret
  exact ⟨rfl, (Below.refl _ _).alloc (Nat.le_refl _) _⟩
theorem sync_nil (w : World) (v : Value) : Calls Try.prog 13 #[.pointer none, v] w (RetNil w 1) := by
  go_enter Try.func13, Try.ntmps13
  go_wp2_with (go_at_call 33; refine (each_nil _ _ _).mono ?_; rintro e w2 ⟨rfl, rfl⟩)
  go_ret
  exact ⟨rfl, Below.refl _ _⟩
theorem remove_nil (w : World) (v : Value) : Calls Try.prog 19 #[.pointer none, v] w (RetNil w 1) := by
  have hmf : ∀ (fn : Fn) (first cap : Array Value) (w : World), (Instr.makeFunc fn first cap).run Try.prog w = .ok (.func fn first cap) w := fun _ _ _ _ => rfl
  go_enter Try.func19, Try.ntmps19
  go_wp2_with (go_at_call 33; refine (each_nil _ _ _).mono ?_; rintro e w2 ⟨rfl, rfl⟩)
  go_ret
  exact ⟨rfl, (Below.refl _ _).alloc (Nat.le_refl _) _⟩
theorem truncate_nil (w : World) (s : ByteArray) (n : Int) : Calls Try.prog 29 #[.pointer none, .string s, .int .i64 n] w (RetNil w 1) := by
  go_enter Try.func29, Try.ntmps29
  go_wp2_with (go_at_call 30; refine (may_nil _ _).mono ?_; rintro e w2 ⟨rfl, rfl⟩)
  go_ret
  exact ⟨rfl, (Below.refl _ _).alloc (Nat.le_refl _) _⟩
theorem rename_nil (w : World) (s s2 : ByteArray) : Calls Try.prog 21 #[.pointer none, .string s, .string s2] w (RetNil w 1) := by
  go_enter Try.func21, Try.ntmps21
  go_wp2_with (go_at_call 30; refine (may_nil _ _).mono ?_; rintro e w2 ⟨rfl, rfl⟩)
  go_ret
  exact ⟨rfl, (Below.refl _ _).alloc (Nat.le_refl _) _⟩
theorem fuse_nil (w : World) (n : Int) : Calls Try.prog 18 #[.pointer none, .int .i64 n] w fun e w' => e = .returned (.tuple #[]) ∧ w = w' := by
  go_enter Try.func18, Try.ntmps18
  go_wp2
  go_end0
  exact ⟨rfl, rfl⟩
theorem crash_nil (w : World) (n : Int) : Calls Try.prog 14 #[.pointer none, .int .i64 n] w fun e w' => e = .returned (.tuple #[]) ∧ w = w' := by
  go_enter Try.func14, Try.ntmps14
  go_wp2
  exact bodyPost_ret (results_none rfl _ _ _) rfl ⟨rfl, rfl⟩
theorem read_nil (w : World) (s : ByteArray) : Calls Try.prog 15 #[.pointer none, .string s] w fun e w' => e = .returned (.tuple #[.slice none 0 0, .int .i64 7]) ∧ w = w' := by
  go_enter Try.func15, Try.ntmps15
  go_wp2
  go_ret2
  exact ⟨rfl, rfl⟩
theorem list_nil (w : World) : Calls Try.prog 20 #[.pointer none] w fun e w' => e = .returned (.slice none 0 0) ∧ w = w' := by
  go_enter Try.func20, Try.ntmps20
  go_wp2
  go_ret
  exact ⟨rfl, rfl⟩
theorem used_nil (w : World) : Calls Try.prog 17 #[.pointer none] w fun e w' => e = .returned (.int .i64 0) ∧ w = w' := by
  go_enter Try.func17, Try.ntmps17
  go_wp2
  go_ret
  exact ⟨rfl, rfl⟩
theorem copy_nil (w : World) : Calls Try.prog 25 #[.pointer none] w fun e w' => e = .returned (.pointer none) ∧ w = w' := by
  go_enter Try.func25, Try.ntmps25
  go_wp2
  go_ret
  exact ⟨rfl, rfl⟩
end Go.Proofs.Ytnaggipeliifgaa.Dsk
