/-
  Texts that the proofs of this seat stand on, one behind the other: contracts of functions and plain lemmas. Conditions: those that each theorem states.
-/
import Derived.Test.YtnaggipeliifgaaDoes
import Derived.Deep.RegionHeld3
/-
  'does' of the laws of chapter 3, at an append.
-/


namespace Go.Proofs.Ytnaggipeliifgaa.Dsk
open Go.RowKit L Oct
section
variable {W0 w : World} {R : Asrt} {b b2 n : Nat} {d : D} {r : RD}
set_option maxRecDepth 100000 in
set_option maxHeartbeats 3200000 in
theorem does_append (H : Hold W0 ((DiskA b d).sep ((RefA b2 r).sep R)) w) (hl : Like d r) (hi : DInv d n) (hn : n ≤ 4000) (num : Int) (a to_ : ByteArray) (ao : Option Addr) (l : List UInt8) (cap : Nat)
    (hb0 : Sl W0 1 (.slice ao l.length cap) l.length (u8s l)) (hlen : l.length ≤ 100000000) :
    Calls Try.prog 27 #[ptr b, ptr b2, .agg #[.int .i64 1, .int .i64 num, .string a, .string to_, .slice ao l.length cap]] w (RetDoes W0 R b b2 n) := by
  have HB := H.addBlk (cs := #[.int .i64 1, .int .i64 num, .string a, .string to_, .slice ao l.length cap]) (t := 50) (b := w.heap.size) rfl
  have x0 := blk_cell HB.blk 0
  have x4 := blk_cell HB.blk 4
  have H1 : Hid (Hold W0 ((DiskA b d).sep ((RefA b2 r).sep ((Blk w.heap.size #[.int .i64 1, .int .i64 num, .string a, .string to_, .slice ao l.length cap] 50).sep R))) (w.alloc (.cells #[.int .i64 1, .int .i64 num, .string a, .string to_, .slice ao l.length cap] 50))) := Lib.hid (HB.perm (by ac_rfl))
  obtain ⟨hq, hl2⟩ := like_append hl a l
  have HI := Lib.hid (And.intro hl2 (hi.append a l))
  have HOk := Lib.hid (hl.ok hi (by omega))
  have HDk := Lib.hid hi.ok
  have HU := Lib.hid (hl.usedr hi)
  have HQ := Lib.hid hq
  have HS := Lib.hid hb0
  have e1 : l.length + 1 = (l ++ [171]).length := by simp
  have HE := Lib.hid e1
  clear H hl hi hn HB hq hl2 hb0 e1
  show Calls Try.prog 27 #[.pointer (some ⟨b, 0, none⟩), .pointer (some ⟨b2, 0, none⟩), _] w _
  go_enter Try.func27, Try.ntmps27
  go_wp2_with fail
  refine (roomy_any _ l _ (HS.out.below' H1.out.old) (by omega)).mono ?_
  rintro e w5 ⟨v5, rfl, ho5, hb5⟩
  rw [HE.out] at ho5
  have H5 := Lib.hid (H1.out.addRow hb5 ho5)
  obtain ⟨aoh, caph, hrun, hhead⟩ := slice_heads H5.out.sl Try.underlying23 Try.size5
  have HH := Lib.hid hhead
  have H6 : Hid (Hold W0 ((DiskA b d).sep ((RefA b2 r).sep ((Blk w.heap.size #[.int .i64 1, .int .i64 num, .string a, .string to_, .slice ao l.length cap] 50).sep ((Row 5 1 v5 (l ++ [171]).length (u8s (l ++ [171]))).sep R)))) w5.drew) := Lib.hid (Hold.drew (H5.out.perm (by ac_rfl)))
  have y2 : w5.cell? ⟨w.heap.size, 2, none⟩ = some (.string a) := blk_cell H6.out.up3.blk 2
  have y4 : w5.cell? ⟨w.heap.size, 4, none⟩ = some (.slice ao l.length cap) := blk_cell H6.out.up3.blk 4
  have m2 := World.new_ne w5 _ y2
  have m4 := World.new_ne w5 _ y4
  clear ho5 hb5 H5 hhead x0 x4 H1
  go_wp2_with fail
  go_region_held3 (fun w' => w'.cell? ⟨w.heap.size, 2, none⟩ = some (.string a) ∧ w'.cell? ⟨w.heap.size, 4, none⟩ = some (.slice ao l.length cap)) (first | exact hS8 | exact hS7 | exact hS6 | go_keep)
    (first
      | (go_at_call 12; refine (append_lit H6.out rfl HDk.out a (.slice aoh l.length caph) l (fun w2 h2 => HH.out w2 h2.drop1.drop1.sl) (by omega)).mono ?_; rintro e w6 ⟨rfl, H7⟩; have hS6 : w6.cell? ⟨w.heap.size, 2, none⟩ = some (.string a) ∧ w6.cell? ⟨w.heap.size, 4, none⟩ = some (.slice ao l.length cap) := ⟨blk_cell H7.up3.blk 2, blk_cell H7.up3.blk 4⟩; rw [HQ.out])
      | (go_at_call 40; refine (xappend_any H7.up2 HOk.out HU.out a _ l (Reads.old HS.out) (by omega)).mono ?_; rintro e w7 ⟨rfl, H8⟩; have hS7 : w7.cell? ⟨w.heap.size, 2, none⟩ = some (.string a) ∧ w7.cell? ⟨w.heap.size, 4, none⟩ = some (.slice ao l.length cap) := ⟨blk_cell H8.up3.blk 2, blk_cell H8.up3.blk 4⟩)
      | (go_at_call 41; refine (stands_any _ _ l _ H8.up4.sl (HS.out.below' H8.old)).mono ?_; rintro e w8 ⟨rfl, hb8⟩; have H9 := H8.keeps hb8; have hS8 : w8.cell? ⟨w.heap.size, 2, none⟩ = some (.string a) ∧ w8.cell? ⟨w.heap.size, 4, none⟩ = some (.slice ao l.length cap) := ⟨blk_cell H9.up3.blk 2, blk_cell H9.up3.blk 4⟩))
  all_goals
    have H10 := Lib.hid H9.up4
    clear H7 H8 H9 hS6 hS7 hS8 hb8 y2 y4 m2 m4 hrun
    go_wp2_with fail
    refine (spoil_any H10.out (by rw [← HE.out]; omega)).mono ?_
    rintro e w11 ⟨rfl, H11⟩
    have HF := Lib.hid (to_end H11.up2)
    clear H10 H11
    go_wp2
    go_ret
    exact ⟨rfl, _, _, HI.out.1, HI.out.2, HF.out⟩
end
end Go.Proofs.Ytnaggipeliifgaa.Dsk

/-
  'does' of the laws of chapter 3, at any step.
-/


namespace Go.Proofs.Ytnaggipeliifgaa.Dsk
open Go.RowKit L Oct
theorem does_any {W0 w : World} {R : Asrt} {b b2 n : Nat} {d : D} {r : RD} (H : Hold W0 ((DiskA b d).sep ((RefA b2 r).sep R)) w) (hl : Like d r) (hi : DInv d n) (hn : n ≤ 4000) (c : Stp) (hin : StpIn W0 c) (hlen : c.b.length ≤ 100000000) :
    Calls Try.prog 27 #[ptr b, ptr b2, .agg #[.int .i64 c.kind, .int .i64 c.num, .string c.a, .string c.to_, c.bv]] w (RetDoes W0 R b b2 n) := by
  obtain ⟨kd, num, a, to_, bv, l⟩ := c
  obtain ⟨_, ⟨_, hnum⟩, _, _, _, hs⟩ := hin
  dsimp only at hnum hs hlen ⊢
  obtain ⟨ao, cap, rfl⟩ : ∃ ao cap, bv = .slice ao l.length cap := by
    obtain ⟨_, ao, cap, e, _⟩ := hs
    exact ⟨ao, cap, e⟩
  by_cases k1 : kd = 1
  · subst k1; exact does_append H hl hi hn num a to_ ao l cap hs hlen
  by_cases k2 : kd = 2
  · subst k2; exact does_sync H hl hi hn num a to_ ao l.length cap
  by_cases k3 : kd = 3
  · subst k3; exact does_trunc H hl hi hn num a to_ ao l.length cap
  by_cases k4 : kd = 4
  · subst k4; exact does_rename H hl hi hn num a to_ ao l.length cap
  by_cases k5 : kd = 5
  · subst k5; exact does_remove H hl hi hn num a to_ ao l.length cap
  by_cases k6 : kd = 6
  · subst k6; exact does_fuse H hl hi num hnum a to_ ao l.length cap
  by_cases k7 : kd = 7
  · subst k7; exact does_crash H hl hi hn num hnum a to_ ao l.length cap
  exact does_read H hl hi kd num (by omega) a to_ ao l.length cap
end Go.Proofs.Ytnaggipeliifgaa.Dsk
