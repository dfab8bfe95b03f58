/-
  bytes.Clone: new memory with the same bytes.
-/
import Derived.Test.YtkbfjgmgckbogaaGreatFacts
import Derived.Test.YtkbfjgmgckbogaaGreatSep
import Derived.Test.YtkbfjgmgckbogaaGreatBytes
import Derived.WalkLawsBesides
namespace Go.Proofs.YtkbfjgmgckbogaaGreat.Oct
open Go.RowKit L
theorem u8s_one (l : List UInt8) : ∀ u ∈ u8s l, u.oneCell' = true := by
  intro u hu
  obtain ⟨c, _, rfl⟩ := List.mem_map.1 hu
  rfl
theorem u8s_append (a b : List UInt8) : u8s (a ++ b) = u8s a ++ u8s b := by simp [u8s]
theorem u8s_length (l : List UInt8) : (u8s l).length = l.length := by simp [u8s]
set_option maxHeartbeats 400000 in
theorem clone_any (v : Value) (l : List UInt8) (w : World) (hv : Sl w 1 v l.length (u8s l)) (hn : l.length ≤ 140737488355328) :
    Calls Tryz.prog 50 #[v] w (RetV fun v' w' => Own w' w.heap.size 5 1 v' l.length (u8s l) ∧ Below w.heap.size w w') := by
  obtain ⟨i5, hi, hz0, hz1, hz2⟩ := info_parts Tryz.info5
  obtain ⟨hl, ao, cap, rfl, hc, hm, hnone, hcell⟩ := hv
  cases ao with
  | none =>
    obtain rfl : cap = 0 := hnone rfl
    have hl0 : l.length = 0 := by omega
    obtain rfl : l = [] := List.eq_nil_of_length_eq_zero hl0
    simp only [List.length_nil]
    have hne : ∀ w' : World, (binOp .eql 22 (.slice none 0 0) (.slice none 0 0)).run Tryz.prog w' = .ok (.bool true) w' := fun w' => by kernel_rfl
    go_enter Tryz.func50, Tryz.ntmps50
    go_wp2
    go_ret
    exact ⟨_, rfl, Own.nil _ _ _ _, Below.refl _ _⟩
  | some a =>
    have hne : ∀ w' : World, (binOp .eql 22 (.slice (some a) l.length cap) (.slice none 0 0)).run Tryz.prog w' = .ok (.bool false) w' := fun w' => by kernel_rfl
    have hsl : Sl w 1 (.slice (some a) l.length cap) l.length (u8s l) := ⟨hl, some a, cap, rfl, hc, hm, hnone, hcell⟩
    have h0 : Own (w.alloc (.cells #[] 5)) w.heap.size 5 1 (.slice (some ⟨w.heap.size, 0, none⟩) 0 0) 0 [] := Own.lit w [] 5 (Nat.zero_le _)
    have hb0 : Below w.heap.size w (w.alloc (.cells #[] 5)) := (Below.refl _ _).alloc (Nat.le_refl _) _
    have hs0 := hsl.below' hb0
    clear hcell hnone hl
    go_enter Tryz.func50, Tryz.ntmps50
    go_wp2_with (at_builtin; refine wpList_append_row _ rfl _ _ 22 rfl 5 i5 (.int .u8 0) 1 1 Tryz.underlying22 hi hz0 hz1 hz2 rfl (by decide) _ 0 [] rfl (h0.zero) _ l.length (u8s l) rfl hs0 (u8s_one l) (by unfold maxLen; omega) (by omega) ?_; intro v' w1 hown hk hsub hnil)
    go_wp2
    go_ret
    refine ⟨v', rfl, Own.from (by simpa using hown) fun k hk' => ?_, hb0.trans (hk.below hb0.size fun k hk' => ?_)⟩
    · rcases hsub k hk' with h | h
      · have : w.heap.size = k := Option.some.inj h
        omega
      · have := hb0.size; omega
    · have : w.heap.size = k := Option.some.inj hk'
      omega
end Go.Proofs.YtkbfjgmgckbogaaGreat.Oct
