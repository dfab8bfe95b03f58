/-
  The walk of frame.One.
-/
import Derived.Test.YtfkingloapohjaaFrameDec
import Derived.Test.YtfkingloapohjaaFramePure2
namespace Go.Proofs.Ytfkingloapohjaa.Fr
open Go.RowKit L Oct
set_option maxRecDepth 100000 in
set_option maxHeartbeats 800000 in
theorem one_any (v : Value) (l : List UInt8) (w : World) (hv : Sl w 1 v l.length (u8s l)) (hl : l.length ≤ 1000000000000) :
    Calls Try.prog 34 #[v] w (RetE (New w (unone l).1) (unone l).2) := by
  have hlen := hv.run_len Try.underlying23
  have hd := decode_any v l w hv hl
  obtain ⟨p, hp⟩ : ∃ p, p = (unrec l).1 := ⟨_, rfl⟩
  obtain ⟨n, hn⟩ : ∃ n, n = (unrec l).2.1 := ⟨_, rfl⟩
  obtain ⟨e, he⟩ : ∃ e, e = (unrec l).2.2 := ⟨_, rfl⟩
  have hu : unone l = if e = 0 ∧ n ≠ l.length then ([], 3) else (p, e) := by unfold unone; rw [hp, hn, he]
  rw [← hp, ← hn, ← he] at hd
  rw [hu]
  have Hd := Lib.hid hd
  clear hd hp hn he hu hv
  by_cases h0 : e = 0
  · subst h0
    by_cases h1 : n = l.length
    · rw [if_neg (by simp [h1])]
      subst h1
      have hq : ((l.length : Int) != (l.length : Int)) = false := by simp
      go_enter Try.func34, Try.ntmps34
      go_wp2_with fail
      refine Hd.out.mono ?_
      rintro ee w1 ⟨v1, rfl, h1⟩
      have H1 := Lib.hid h1
      clear h1
      go_wp2
      go_ret2
      exact ⟨v1, rfl, H1.out⟩
    · rw [if_pos ⟨rfl, h1⟩]
      have hq : ((n : Int) != (l.length : Int)) = true := by simp; omega
      clear h1
      go_enter Try.func34, Try.ntmps34
      go_wp2_with fail
      refine Hd.out.mono ?_
      rintro ee w1 ⟨v1, rfl, h1⟩
      have H1 := Lib.hid h1.2
      clear h1
      go_wp2
      go_ret2
      exact ⟨_, rfl, new_nil _ _ H1.out⟩
  · rw [if_neg (by simp [h0])]
    have hq : ((e : Int) == 0) = false := by simp; omega
    clear h0
    go_enter Try.func34, Try.ntmps34
    go_wp2_with fail
    refine Hd.out.mono ?_
    rintro ee w1 ⟨v1, rfl, h1⟩
    have H1 := Lib.hid h1
    clear h1
    go_wp2
    go_ret2
    exact ⟨v1, rfl, H1.out⟩
end Go.Proofs.Ytfkingloapohjaa.Fr
