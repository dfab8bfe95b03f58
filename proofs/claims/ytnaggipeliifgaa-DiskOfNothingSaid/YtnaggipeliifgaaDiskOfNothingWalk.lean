/-
  DiskOfNothing: a nil Disk has no file.
-/
import Derived.Test.YtnaggipeliifgaaDiskNil
namespace Go.Proofs.Ytnaggipeliifgaa.diskOfNothing
open Go.RowKit L Oct Dsk
set_option maxRecDepth 1000000 in
set_option maxHeartbeats 3200000 in
theorem walk {w : World} (s0 : ByteArray) (z0 : s0.size ≤ 140737488351232) (v1 : Value) (l1 : List UInt8) (h1 : Sl w 1 v1 l1.length (u8s l1)) (b1 : l1.length ≤ 140737488351232) (a2 : Int) (_w2 : (Lit.int .i64 a2).wf = true) :
    Calls Try.prog 9 #[.string s0, v1, .int .i64 a2] w fun e w' => e = .returned (.bool true) ∧ Below w.heap.size w w' := by
  have hlen := h1.run_len Try.underlying23
  obtain ⟨ao, cap, rfl⟩ : ∃ ao cap, v1 = .slice ao l1.length cap := by
    obtain ⟨_, ao, cap, e, _⟩ := h1
    exact ⟨ao, cap, e⟩
  clear h1
  go_enter Try.func9, Try.ntmps9
  by_cases hbig : 8000 < s0.size + l1.length
  · have g1 : decide ((8000 : Int) < (s0.size : Int) + (l1.length : Int)) = true := by simp; omega
    go_wp2
    go_ret
    exact ⟨rfl, Below.refl _ _⟩
  · have g1 : decide ((8000 : Int) < (s0.size : Int) + (l1.length : Int)) = false := by simp; omega
    go_wp2_with (first
      | (go_at_call 18; refine (fuse_nil _ _).mono ?_; rintro e w2 ⟨rfl, rfl⟩)
      | (go_at_call 14; refine (crash_nil _ _).mono ?_; rintro e w2 ⟨rfl, rfl⟩)
      | (go_at_call 15; refine (read_nil _ _).mono ?_; rintro e w2 ⟨rfl, rfl⟩)
      | (go_at_call 12; refine (append_nil _ _ _).mono ?_; rintro e w3 ⟨rfl, hb3⟩; have B3 := Lib.hid (((Below.refl w.heap.size w).alloc (Nat.le_refl _) _).trans (hb3.mono (by simp))); clear hb3)
      | (go_at_call 13; refine (sync_nil _ _).mono ?_; rintro e w4 ⟨rfl, hb4⟩; have B4 := Lib.hid ((B3.out.alloc B3.out.size _).trans (hb4.mono (by simp; have := B3.out.size; omega))); clear hb4)
      | (go_at_call 29; refine (truncate_nil _ _ _).mono ?_; rintro e w5 ⟨rfl, hb5⟩; have B5 := Lib.hid (B4.out.trans (hb5.mono B4.out.size)); clear hb5)
      | (go_at_call 21; refine (rename_nil _ _ _).mono ?_; rintro e w6 ⟨rfl, hb6⟩; have B6 := Lib.hid (B5.out.trans (hb6.mono B5.out.size)); clear hb6)
      | (go_at_call 19; refine (remove_nil _ _).mono ?_; rintro e w7 ⟨rfl, hb7⟩; have B7 := Lib.hid ((B6.out.alloc B6.out.size _).trans (hb7.mono (by simp; have := B6.out.size; omega))); clear hb7)
      | (go_at_call 20; refine (list_nil _).mono ?_; rintro e w2 ⟨rfl, rfl⟩)
      | (go_at_call 17; refine (used_nil _).mono ?_; rintro e w2 ⟨rfl, rfl⟩)
      | (go_at_call 25; refine (copy_nil _).mono ?_; rintro e w2 ⟨rfl, rfl⟩)
      | (go_at_call 10; refine (known_any _).mono ?_; rintro e w8 ⟨rfl, hb8⟩; have B8 := Lib.hid (B7.out.trans (hb8.mono B7.out.size)); clear hb8))
    go_ret
    exact ⟨rfl, B8.out⟩
end Go.Proofs.Ytnaggipeliifgaa.diskOfNothing
