/-
  The closures of classed and named that fold and compare (drawn regions).
-/
import Derived.Test.YtindlfiifckdnaaDoorSchCon
import Derived.Deep.RegionHeld3
import Derived.Deep.DeepCutAuto
namespace Go.Proofs.YtindlfiifckdnaaDoor.Sc
open Go.RowKit L
theorem enters_cls2 : ∀ (args : Array Value) (w : World), (callFunc 38 args).run Tryd.prog w = .ok (Next.enter 38 args) w := enters Tryd.func38 (by kernel_rfl) (by kernel_rfl)
theorem enters_named1 : ∀ (args : Array Value) (w : World), (callFunc 40 args).run Tryd.prog w = .ok (Next.enter 40 args) w := enters Tryd.func40 (by kernel_rfl) (by kernel_rfl)
set_option maxHeartbeats 800000 in
theorem cls2_any (t : ByteArray) (ao : Option Addr) (n c : Nat) (b : Nat) (v : Value) (l : List ByteArray) (w : World) (hs : t.size ≤ 140737488351232) (hb : b < w.heap.size) (hc : w.cell? ⟨b, 0, none⟩ = some v) (hv : Sl w 1 v l.length (strs l)) (hl : l.length ≤ 1099511627776) :
    Calls Tryd.prog 38 #[.agg #[.string t, .slice ao n c], .pointer (some ⟨b, 0, none⟩)] w (RetBl w (!hasB l (foldB t))) := by
  have HV := Lib.hid hv
  have HC := Lib.hid hc
  have HB0 := Lib.hid (Below.drew ((Below.refl w.heap.size w).alloc (Nat.le_refl _) (.cells #[.string t, .slice ao n c] 36)))
  have hcA := (bcellS HB0.out).1 b 0 hb
  rw [hc] at hcA
  have hF : ∀ W, Calls Tryd.prog 25 #[.string t] W (RetS W (foldB t)) := fun W => fold_any t W hs
  have HF := Lib.hid hF
  obtain ⟨f, hf⟩ : ∃ f, f = foldB t := ⟨_, rfl⟩
  rw [← hf] at HF ⊢
  clear hv hf hF hc
  go_enter Tryd.func38, Tryd.ntmps38
  go_wp2_with fail
  go_region_with (first
    | (go_at_call 25; refine (HF.out _).mono ?_; rintro e w2 ⟨rfl, hb2⟩; have HB2 := Lib.hid (HB0.out.trans (hb2.mono HB0.out.size)); have hc2 := (bcellS HB2.out).1 b 0 hb; rw [HC.out] at hc2; clear hb2)
    | (go_at_call 39; refine (contains_any v l _ _ (HV.out.below' HB2.out) hl).mono ?_; rintro e w3 ⟨rfl, rfl⟩))
  all_goals go_wp2
  all_goals go_ret
  all_goals exact ⟨rfl, HB2.out⟩
set_option maxHeartbeats 1600000 in
theorem named1_any (s x : ByteArray) (b : Nat) (w : World) (hs : s.size ≤ 140737488351232) (hx : x.size ≤ 140737488351232) (hb : b < w.heap.size) (hc : w.cell? ⟨b, 1, none⟩ = some (.string x)) :
    Calls Tryd.prog 40 #[.string s, .pointer (some ⟨b, 0, none⟩)] w (RetBl w (decide (foldB s = foldB x))) := by
  have HC := Lib.hid hc
  have HB0 := Lib.hid (Below.drew (Below.refl w.heap.size w))
  have hcA := (bcellS HB0.out).1 b 1 hb
  rw [hc] at hcA
  have HF : Hid (∀ t W, t.size ≤ 140737488351232 → Calls Tryd.prog 25 #[.string t] W (RetS W (foldB t))) := Lib.hid fold_any
  obtain ⟨F, hF⟩ : ∃ F, F = foldB := ⟨_, rfl⟩
  rw [← hF] at HF ⊢
  clear hF hc
  by_cases he : F s = F x
  · have e1 := text_yes he
    have Hd : Hid (decide (F s = F x) = true) := Lib.hid (by simpa using he)
    clear he
    go_enter Tryd.func40, Tryd.ntmps40
    go_wp2_with fail
    go_region_with ((go_at_call 25; refine (HF.out _ _ (by first | exact hs | exact hx)).mono ?_; rintro e w2 ⟨rfl, hb2⟩; (first | (have HB3 := Lib.hid (HB2.out.trans (hb2.mono HB2.out.size)); have hc3 := (bcellS HB3.out).1 b 1 hb; rw [HC.out] at hc3; clear hb2) | (have HB2 := Lib.hid (HB0.out.trans (hb2.mono HB0.out.size)); have hc2 := (bcellS HB2.out).1 b 1 hb; rw [HC.out] at hc2; clear hb2))))
    all_goals go_wp2
    all_goals go_ret
    all_goals rw [Hd.out]
    all_goals exact ⟨rfl, HB3.out⟩
  · have e1 := text_no he
    have Hd : Hid (decide (F s = F x) = false) := Lib.hid (by simpa using he)
    clear he
    go_enter Tryd.func40, Tryd.ntmps40
    go_wp2_with fail
    go_region_with ((go_at_call 25; refine (HF.out _ _ (by first | exact hs | exact hx)).mono ?_; rintro e w2 ⟨rfl, hb2⟩; (first | (have HB3 := Lib.hid (HB2.out.trans (hb2.mono HB2.out.size)); have hc3 := (bcellS HB3.out).1 b 1 hb; rw [HC.out] at hc3; clear hb2) | (have HB2 := Lib.hid (HB0.out.trans (hb2.mono HB0.out.size)); have hc2 := (bcellS HB2.out).1 b 1 hb; rw [HC.out] at hc2; clear hb2))))
    all_goals go_wp2
    all_goals go_ret
    all_goals rw [Hd.out]
    all_goals exact ⟨rfl, HB3.out⟩
end Go.Proofs.YtindlfiifckdnaaDoor.Sc
