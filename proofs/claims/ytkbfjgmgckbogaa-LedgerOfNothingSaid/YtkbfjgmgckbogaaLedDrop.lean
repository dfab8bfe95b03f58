/-
  Drop of chapter 5; a ledger that is nil; Open on no disk.
-/
import Derived.Test.YtkbfjgmgckbogaaLedWrite
import Derived.Test.YtkbfjgmgckbogaaLedOpen
import Derived.Deep.RegionHeld3
import Derived.Deep.DeepCutAuto
namespace Go.Proofs.Ytkbfjgmgckbogaa.Ld
open Go.RowKit L Oct Dsk Fr Kp
def dropL (d : D) (g : Lg) : D × Lg × Nat :=
  if g.dead then (d, g, 9) else ((removes d [logN g.pre, imgN g.pre]).1, { g with dead := true }, (removes d [logN g.pre, imgN g.pre]).2)
section
variable {W0 w : World} {R : Asrt} {lb b n : Nat} {g : Lg} {d : D}
theorem removes_lit2 {bk : Nat} (H : Hold W0 ((DiskA b d).sep R) w) (hbk : w.heap.size = bk) (hi : DInv d n) (hn : n ≤ 4096) (s t : ByteArray) :
    Calls Try.prog 35 #[ptr b, .slice (some ⟨bk, 0, none⟩) 2 2] (w.alloc (.cells #[.string s, .string t] 9)) (RetApp W0 R b (removes d [s, t])) := by
  subst hbk
  have H1 := (H.addLits [.string s, .string t] 9 (by simp [maxLen]) (b := w.heap.size) rfl).up2
  refine (removes_any H1 hi hn (.slice (some ⟨w.heap.size, 0, none⟩) 2 2) [s, t] (fun w' hw' => hw'.sl)).mono ?_
  rintro e' w' ⟨h1, h2⟩
  exact ⟨h1, h2.up2.drop1⟩
set_option maxHeartbeats 800000 in
theorem dropL_any (H : Hold W0 ((LedgA lb b g).sep ((DiskA b d).sep R)) w) (hg : GOk g) (hi : DInv d n) (hn : n ≤ 4096) :
    Calls Try.prog 13 #[ptr lb] w (RetL W0 R lb b (dropL d g)) := by
  obtain ⟨dv, ev, vs, h1⟩ := led_open H
  have k5 := blk_cell h1.blk 5
  have f5 := blk_free h1.blk 5
  have h2 := led_shut (g := { g with dead := true }) (h1.setB 5 (.bool true))
  have HH := Lib.hid H
  have HI := Lib.hid hi
  unfold ptr
  cases hd : g.dead with
  | true =>
    have he : Hid (dropL d g = (d, g, 9)) := Lib.hid (by rw [dropL, if_pos hd])
    rw [hd] at k5
    clear hd h1 h2 H hi hg
    go_enter Try.func13, Try.ntmps13
    go_wp2
    go_ret
    rw [he.out]
    exact ⟨rfl, HH.out⟩
  | false =>
    rw [hd] at k5
    have he : Hid (dropL d g = ((removes d [logN g.pre, imgN g.pre]).1, { g with dead := true }, (removes d [logN g.pre, imgN g.pre]).2)) := Lib.hid (by rw [dropL, if_neg (by rw [hd]; simp)])
    have HG : Hid (GOk { g with dead := true }) := Lib.hid ⟨hg.pre, hg.base, hg.len, hg.data, hg.ent⟩
    obtain ⟨w2, hw2⟩ : ∃ w2, w2 = w.setCell ⟨lb, 5, none⟩ (.bool true) := ⟨_, rfl⟩
    rw [← hw2] at h2
    have k0 := led_ptr h2
    have m0 := World.new_ne w2 _ k0
    have Hq := Lib.hid h2.drew
    have HW2 := Lib.hid hw2
    clear hd h1 h2 H hi hg hw2 HH
    go_enter Try.func13, Try.ntmps13
    go_upto_region 6 with fail
    rw [← HW2.out]
    clear k5 f5
    go_region_held3 (fun w' => w'.cell? ⟨lb, 0, none⟩ = some (.pointer (some ⟨b, 0, none⟩))) (first | exact hS5 | go_keep)
      (first
        | (go_at_call 29; refine (logName_any Hq.out HG.out).mono ?_; rintro e w4 ⟨rfl, rfl⟩)
        | (go_at_call 34; refine (imageName_any Hq.out HG.out).mono ?_; rintro e w4 ⟨rfl, rfl⟩)
        | (go_at_call 35; refine (removes_lit2 Hq.out.up2 rfl HI.out hn (logN g.pre) (imgN g.pre)).mono ?_; rintro e w16 ⟨rfl, H5⟩; have hS5 : w16.cell? ⟨lb, 0, none⟩ = some (.pointer (some ⟨b, 0, none⟩)) := led_ptr H5.up2))
    all_goals
      have HF := Lib.hid H5.up2
      clear H5 hS5
      go_wp2
      go_ret
      rw [he.out]
      exact ⟨rfl, HF.out⟩
end
end Go.Proofs.Ytkbfjgmgckbogaa.Ld
