/-
  The laws' own small functions: heavyRows, roomy, stands.
-/
import Derived.Test.YtnaggipeliifgaaF4
import Derived.Test.YtnaggipeliifgaaF5
import Derived.Test.YtnaggipeliifgaaF3
namespace Go.Proofs.Ytnaggipeliifgaa.Oct
open Go.RowKit L
set_option maxHeartbeats 400000 in
theorem roomy_any (v : Value) (l : List UInt8) (w : World) (hv : Sl w 1 v l.length (u8s l)) (hn : l.length ≤ 100000000000000) :
    Calls Try.prog 39 #[v] w (RetV fun v' w' => Own w' w.heap.size 5 1 v' (l.length + 1) (u8s (l ++ [171])) ∧ Below w.heap.size w w') := by
  have hlen := hv.run_len Try.underlying23
  have H0 := (Hold.start w).addEmpty 5
  have hv0 := hv.below' ((Below.refl _ _).alloc (Nat.le_refl _) (.cells #[] 5))
  go_enter Try.func39, Try.ntmps39
  go_wp2_with (first
    | (at_builtin; refine wpList_app (sx := .tmp 3) el8 H0 rfl _ rfl rfl rfl hv0 (u8s_one _) (by omega) (by omega) ?_; intro v1 xs1 w1 X1 H1)
    | (at_builtin; refine wpList_appLit (sx := .tmp 5) el8 H1 (u8s [171]) rfl _ rfl rfl rfl rfl (u8s_one _) (by simp [u8s]; omega) (by simp [u8s]; omega) ?_; intro v2 xs2 w2 X2 H2)
    | (at_builtin; refine wpList_appLit (sx := .tmp 7) el8 H2 (u8s [171]) rfl _ rfl rfl rfl rfl (u8s_one _) (by simp [u8s]; omega) (by simp [u8s]; omega) ?_; intro v3 xs3 w3 X3 H3; obtain ⟨hown, hb⟩ := H3.fin; obtain ⟨v4, hr4, hown4, _⟩ := run_slice_own (P := Try.prog) hown Try.underlying23 Try.size5 (l.length + 1) (by simp [u8s]) (.int .i64 ((l.length : Int) + 1)) ⟨_, rfl⟩))
  have e4 : xs3.take ((l.length + 1) * 1) = u8s (l ++ [171]) := by
    rw [X3.out, X2.out, X1.out]
    simp [u8s, List.take_append, List.take_of_length_le]
  rw [e4] at hown4
  have H4 := Lib.hid hown4
  clear hown hown4 e4 hr4
  go_ret
  exact ⟨v4, rfl, H4.out, hb⟩
set_option maxHeartbeats 400000 in
theorem stands_any (v vl : Value) (l : List UInt8) (w : World) (hv : Sl w 1 v (l ++ [171]).length (u8s (l ++ [171]))) (hvl : Sl w 1 vl l.length (u8s l)) :
    Calls Try.prog 41 #[v, vl] w fun e w' => e = .returned (.bool true) ∧ Below w.heap.size w w' := by
  have hmx := hv.le'
  have hlen := hv.run_len Try.underlying23
  have hlenl := hvl.run_len Try.underlying23
  simp only [List.length_append, List.length_cons, List.length_nil, Nat.zero_add] at hlen hmx
  obtain ⟨v1, hr1, hs1, _⟩ := sl_prefix hv Try.underlying23 Try.size5 (.int .i64 (l.length : Int)) ⟨_, rfl⟩
  have eq1 : (((l.length + 1 : Nat) : Int) == (l.length : Int) + 1) = true := by simp
  go_enter Try.func41, Try.ntmps41
  go_wp2_with fail
  refine (same_any v1 vl l l _ hs1 hvl).mono ?_
  rintro e w1 ⟨rfl, hb⟩
  have hv1 := hv.below' hb
  obtain ⟨A, x, hA, hblk, hc, Hx, hx⟩ := hv1.at8 (P := Try.prog) Try.underlying23 Try.size5 l.length (by simp)
  have e1 : decide (l = l) = true := by simp
  have e2 : x = 171 := by rw [Hx.out]; simp
  subst e2
  rw [e1]
  clear hr1 hs1 e1 eq1
  go_wp2
  go_ret
  exact ⟨rfl, hb⟩
end Go.Proofs.Ytnaggipeliifgaa.Oct
