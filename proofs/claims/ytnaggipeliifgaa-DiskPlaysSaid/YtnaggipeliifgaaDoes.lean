/-
  'does' of the laws of chapter 3: a step, in both disks.
-/
import Derived.Test.YtnaggipeliifgaaInvPure
import Derived.Test.YtnaggipeliifgaaF8
import Derived.Test.YtnaggipeliifgaaHeavyS
import Derived.Test.YtnaggipeliifgaaF7
import Derived.Test.YtnaggipeliifgaaRefPut
import Derived.Test.YtnaggipeliifgaaRefGone
import Derived.Test.YtnaggipeliifgaaRefTrunc
import Derived.Test.YtnaggipeliifgaaRefRename
import Derived.Test.YtnaggipeliifgaaRefCrash
import Derived.Test.YtnaggipeliifgaaOctetHelp
import Derived.Test.YtnaggipeliifgaaF4
import Derived.Deep.RegionHeld3
namespace Go.Proofs.Ytnaggipeliifgaa.Dsk
open Go.RowKit L Oct
def Both (W0 : World) (R : Asrt) (b b2 n : Nat) (w' : World) : Prop := ∃ d' r', Like d' r' ∧ DInv d' n ∧ Hold W0 ((DiskA b d').sep ((RefA b2 r').sep R)) w'
def RetDoes (W0 : World) (R : Asrt) (b b2 n : Nat) (e : Ending) (w' : World) : Prop := e = .returned (.bool true) ∧ Both W0 R b b2 (n + 1) w'
section
variable {W0 w : World} {R : Asrt} {b b2 n : Nat} {d : D} {r : RD}
def boxS (k num : Int) (a to_ : ByteArray) (ao : Option Addr) (ln cap : Nat) : Array Value := #[.int .i64 k, .int .i64 num, .string a, .string to_, .slice ao ln cap]
theorem to_end {X : Asrt} (h : Hold W0 ((DiskA b d).sep ((RefA b2 r).sep (X.sep R))) w) : Hold W0 ((DiskA b d).sep ((RefA b2 r).sep R)) w := by
  have h2 : Hold W0 (X.sep ((DiskA b d).sep ((RefA b2 r).sep R))) w := h.perm (by ac_rfl)
  exact h2.drop1
set_option maxRecDepth 100000 in
set_option maxHeartbeats 1600000 in
theorem does_sync (H : Hold W0 ((DiskA b d).sep ((RefA b2 r).sep R)) w) (hl : Like d r) (hi : DInv d n) (hn : n ≤ 4000) (num : Int) (a to_ : ByteArray) (ao : Option Addr) (ln cap : Nat) :
    Calls Try.prog 27 #[ptr b, ptr b2, .agg #[.int .i64 2, .int .i64 num, .string a, .string to_, .slice ao ln cap]] w (RetDoes W0 R b b2 n) := by
  have HB := H.addBlk (cs := #[.int .i64 2, .int .i64 num, .string a, .string to_, .slice ao ln cap]) (t := 50) (b := w.heap.size) rfl
  have x0 := blk_cell HB.blk 0
  have x2 := blk_cell HB.blk 2
  have H1 : Hid (Hold W0 ((DiskA b d).sep ((RefA b2 r).sep ((Blk w.heap.size #[.int .i64 2, .int .i64 num, .string a, .string to_, .slice ao ln cap] 50).sep R))) (w.alloc (.cells #[.int .i64 2, .int .i64 num, .string a, .string to_, .slice ao ln cap] 50)).drew) := Lib.hid (Hold.drew (HB.perm (by ac_rfl)))
  obtain ⟨hq, hl2⟩ := like_sync hl a
  have HI := Lib.hid (And.intro hl2 ((hi.sync a).le (show n ≤ n + 1 by omega)))
  have HOk := Lib.hid (hl.ok hi (by omega))
  have HLe := Lib.hid hi.ok.left
  have HQ := Lib.hid hq
  have m2 := World.new_ne (w.alloc (.cells #[.int .i64 2, .int .i64 num, .string a, .string to_, .slice ao ln cap] 50)) _ x2
  clear H hl hi hn HB hq hl2
  show Calls Try.prog 27 #[.pointer (some ⟨b, 0, none⟩), .pointer (some ⟨b2, 0, none⟩), _] w _
  go_enter Try.func27, Try.ntmps27
  go_wp2_with fail
  go_region_held3 (fun w' => w'.cell? ⟨w.heap.size, 2, none⟩ = some (.string a)) (first | exact hS6 | exact hS5 | go_keep)
    (first
      | (go_at_call 13; refine (sync_lit H1.out (by simp) HLe.out a).mono ?_; rintro e w5 ⟨rfl, H5⟩; have hS5 : w5.cell? ⟨w.heap.size, 2, none⟩ = some (.string a) := blk_cell H5.up3.blk 2; rw [HQ.out])
      | (go_at_call 43; refine (xsync_any H5.up2 HOk.out a).mono ?_; rintro e w6 ⟨rfl, H6⟩; have hS6 : w6.cell? ⟨w.heap.size, 2, none⟩ = some (.string a) := blk_cell H6.up3.blk 2))
  all_goals
    have HF := Lib.hid (to_end H6.up2)
    clear H5 H6 hS5 hS6
    go_wp2
    go_ret
    exact ⟨rfl, _, _, HI.out.1, HI.out.2, HF.out⟩
set_option maxRecDepth 100000 in
set_option maxHeartbeats 1600000 in
theorem does_remove (H : Hold W0 ((DiskA b d).sep ((RefA b2 r).sep R)) w) (hl : Like d r) (hi : DInv d n) (hn : n ≤ 4000) (num : Int) (a to_ : ByteArray) (ao : Option Addr) (ln cap : Nat) :
    Calls Try.prog 27 #[ptr b, ptr b2, .agg #[.int .i64 5, .int .i64 num, .string a, .string to_, .slice ao ln cap]] w (RetDoes W0 R b b2 n) := by
  have HB := H.addBlk (cs := #[.int .i64 5, .int .i64 num, .string a, .string to_, .slice ao ln cap]) (t := 50) (b := w.heap.size) rfl
  have x0 := blk_cell HB.blk 0
  have x2 := blk_cell HB.blk 2
  have H1 : Hid (Hold W0 ((DiskA b d).sep ((RefA b2 r).sep ((Blk w.heap.size #[.int .i64 5, .int .i64 num, .string a, .string to_, .slice ao ln cap] 50).sep R))) (w.alloc (.cells #[.int .i64 5, .int .i64 num, .string a, .string to_, .slice ao ln cap] 50)).drew) := Lib.hid (Hold.drew (HB.perm (by ac_rfl)))
  obtain ⟨hq, hl2⟩ := like_remove hl a
  have HI := Lib.hid (And.intro hl2 ((hi.remove a).le (show n ≤ n + 1 by omega)))
  have HOk := Lib.hid (hl.ok hi (by omega))
  have HLe := Lib.hid hi.ok.left
  have HQ := Lib.hid hq
  have m2 := World.new_ne (w.alloc (.cells #[.int .i64 5, .int .i64 num, .string a, .string to_, .slice ao ln cap] 50)) _ x2
  clear H hl hi hn HB hq hl2
  show Calls Try.prog 27 #[.pointer (some ⟨b, 0, none⟩), .pointer (some ⟨b2, 0, none⟩), _] w _
  go_enter Try.func27, Try.ntmps27
  go_wp2_with fail
  go_region_held3 (fun w' => w'.cell? ⟨w.heap.size, 2, none⟩ = some (.string a)) (first | exact hS6 | exact hS5 | go_keep)
    (first
      | (go_at_call 19; refine (remove_lit H1.out (by simp) HLe.out a).mono ?_; rintro e w5 ⟨rfl, H5⟩; have hS5 : w5.cell? ⟨w.heap.size, 2, none⟩ = some (.string a) := blk_cell H5.up3.blk 2; rw [HQ.out])
      | (go_at_call 46; refine (xRemove_any H5.up2 HOk.out a).mono ?_; rintro e w6 ⟨rfl, H6⟩; have hS6 : w6.cell? ⟨w.heap.size, 2, none⟩ = some (.string a) := blk_cell H6.up3.blk 2))
  all_goals
    have HF := Lib.hid (to_end H6.up2)
    clear H5 H6 hS5 hS6
    go_wp2
    go_ret
    exact ⟨rfl, _, _, HI.out.1, HI.out.2, HF.out⟩
set_option maxRecDepth 100000 in
set_option maxHeartbeats 1600000 in
theorem does_rename (H : Hold W0 ((DiskA b d).sep ((RefA b2 r).sep R)) w) (hl : Like d r) (hi : DInv d n) (hn : n ≤ 4000) (num : Int) (a to_ : ByteArray) (ao : Option Addr) (ln cap : Nat) :
    Calls Try.prog 27 #[ptr b, ptr b2, .agg #[.int .i64 4, .int .i64 num, .string a, .string to_, .slice ao ln cap]] w (RetDoes W0 R b b2 n) := by
  have HB := H.addBlk (cs := #[.int .i64 4, .int .i64 num, .string a, .string to_, .slice ao ln cap]) (t := 50) (b := w.heap.size) rfl
  have x0 := blk_cell HB.blk 0
  have x2 := blk_cell HB.blk 2
  have x3 := blk_cell HB.blk 3
  have H1 : Hid (Hold W0 ((DiskA b d).sep ((RefA b2 r).sep ((Blk w.heap.size #[.int .i64 4, .int .i64 num, .string a, .string to_, .slice ao ln cap] 50).sep R))) (w.alloc (.cells #[.int .i64 4, .int .i64 num, .string a, .string to_, .slice ao ln cap] 50)).drew) := Lib.hid (Hold.drew (HB.perm (by ac_rfl)))
  obtain ⟨hq, hl2⟩ := like_rename hl a to_
  have HI := Lib.hid (And.intro hl2 ((hi.rename a to_).le (show n ≤ n + 1 by omega)))
  have HOk := Lib.hid (hl.ok hi (by omega))
  have HLe := Lib.hid hi.ok.left
  have HQ := Lib.hid hq
  have m2 := World.new_ne (w.alloc (.cells #[.int .i64 4, .int .i64 num, .string a, .string to_, .slice ao ln cap] 50)) _ x2
  have m3 := World.new_ne (w.alloc (.cells #[.int .i64 4, .int .i64 num, .string a, .string to_, .slice ao ln cap] 50)) _ x3
  clear H hl hi hn HB hq hl2
  show Calls Try.prog 27 #[.pointer (some ⟨b, 0, none⟩), .pointer (some ⟨b2, 0, none⟩), _] w _
  go_enter Try.func27, Try.ntmps27
  go_wp2_with fail
  go_region_held3 (fun w' => w'.cell? ⟨w.heap.size, 2, none⟩ = some (.string a) ∧ w'.cell? ⟨w.heap.size, 3, none⟩ = some (.string to_)) (first | exact hS6 | exact hS5 | go_keep)
    (first
      | (go_at_call 21; refine (rename_any H1.out HLe.out a to_).mono ?_; rintro e w5 ⟨rfl, H5⟩; have hS5 : w5.cell? ⟨w.heap.size, 2, none⟩ = some (.string a) ∧ w5.cell? ⟨w.heap.size, 3, none⟩ = some (.string to_) := ⟨blk_cell H5.up3.blk 2, blk_cell H5.up3.blk 3⟩; rw [HQ.out])
      | (go_at_call 45; refine (xrename_any H5.up2 HOk.out a to_).mono ?_; rintro e w6 ⟨rfl, H6⟩; have hS6 : w6.cell? ⟨w.heap.size, 2, none⟩ = some (.string a) ∧ w6.cell? ⟨w.heap.size, 3, none⟩ = some (.string to_) := ⟨blk_cell H6.up3.blk 2, blk_cell H6.up3.blk 3⟩))
  all_goals
    have HF := Lib.hid (to_end H6.up2)
    clear H5 H6 hS5 hS6
    go_wp2
    go_ret
    exact ⟨rfl, _, _, HI.out.1, HI.out.2, HF.out⟩
set_option maxRecDepth 100000 in
set_option maxHeartbeats 1600000 in
theorem does_trunc (H : Hold W0 ((DiskA b d).sep ((RefA b2 r).sep R)) w) (hl : Like d r) (hi : DInv d n) (hn : n ≤ 4000) (num : Int) (a to_ : ByteArray) (ao : Option Addr) (ln cap : Nat) :
    Calls Try.prog 27 #[ptr b, ptr b2, .agg #[.int .i64 3, .int .i64 num, .string a, .string to_, .slice ao ln cap]] w (RetDoes W0 R b b2 n) := by
  have HB := H.addBlk (cs := #[.int .i64 3, .int .i64 num, .string a, .string to_, .slice ao ln cap]) (t := 50) (b := w.heap.size) rfl
  have x0 := blk_cell HB.blk 0
  have x1 := blk_cell HB.blk 1
  have x2 := blk_cell HB.blk 2
  have H1 : Hid (Hold W0 ((DiskA b d).sep ((RefA b2 r).sep ((Blk w.heap.size #[.int .i64 3, .int .i64 num, .string a, .string to_, .slice ao ln cap] 50).sep R))) (w.alloc (.cells #[.int .i64 3, .int .i64 num, .string a, .string to_, .slice ao ln cap] 50)).drew) := Lib.hid (Hold.drew (HB.perm (by ac_rfl)))
  obtain ⟨hq, hl2⟩ := like_truncate hl a num
  have HI := Lib.hid (And.intro hl2 ((hi.truncate a num).le (show n ≤ n + 1 by omega)))
  have HOk := Lib.hid (hl.ok hi (by omega))
  have HLe := Lib.hid hi.ok.left
  have HQ := Lib.hid hq
  have HFit : Hid (∀ f ∈ d.fs, f.data.length ≤ 4611686018427387904 ∧ f.lasts ≤ 4611686018427387904) := Lib.hid fun f hf => by have := hi.fit f hf; omega
  have HU := Lib.hid (hl.usedr hi)
  have HLa : Hid (∀ f ∈ r.fs, f.lasts ≤ f.data.length) := Lib.hid fun f hf => (hl.fitr hi f hf).1
  have m1 := World.new_ne (w.alloc (.cells #[.int .i64 3, .int .i64 num, .string a, .string to_, .slice ao ln cap] 50)) _ x1
  have m2 := World.new_ne (w.alloc (.cells #[.int .i64 3, .int .i64 num, .string a, .string to_, .slice ao ln cap] 50)) _ x2
  clear H hl hi hn HB hq hl2
  show Calls Try.prog 27 #[.pointer (some ⟨b, 0, none⟩), .pointer (some ⟨b2, 0, none⟩), _] w _
  go_enter Try.func27, Try.ntmps27
  go_wp2_with fail
  go_region_held3 (fun w' => w'.cell? ⟨w.heap.size, 1, none⟩ = some (.int .i64 num) ∧ w'.cell? ⟨w.heap.size, 2, none⟩ = some (.string a)) (first | exact hS6 | exact hS5 | go_keep)
    (first
      | (go_at_call 29; refine (truncate_any H1.out HLe.out HFit.out a num).mono ?_; rintro e w5 ⟨rfl, H5⟩; have hS5 : w5.cell? ⟨w.heap.size, 1, none⟩ = some (.int .i64 num) ∧ w5.cell? ⟨w.heap.size, 2, none⟩ = some (.string a) := ⟨blk_cell H5.up3.blk 1, blk_cell H5.up3.blk 2⟩; rw [HQ.out])
      | (go_at_call 44; refine (xtrunc_any H5.up2 HOk.out HU.out HLa.out a num).mono ?_; rintro e w6 ⟨rfl, H6⟩; have hS6 : w6.cell? ⟨w.heap.size, 1, none⟩ = some (.int .i64 num) ∧ w6.cell? ⟨w.heap.size, 2, none⟩ = some (.string a) := ⟨blk_cell H6.up3.blk 1, blk_cell H6.up3.blk 2⟩))
  all_goals
    have HF := Lib.hid (to_end H6.up2)
    clear H5 H6 hS5 hS6
    go_wp2
    go_ret
    exact ⟨rfl, _, _, HI.out.1, HI.out.2, HF.out⟩
theorem slice_heads {v : Value} {l : List UInt8} (h : Sl w 1 v (l ++ [171]).length (u8s (l ++ [171]))) {t e : TypeId} (ht : Try.prog.underlying t = some (.slice e)) (hs : (Try.prog.info? e).map (fun i => i.size) = some 1) :
    ∃ ao cap, (∀ w' : World, (Instr.slice t v none (some (.int .i64 (l.length : Int))) none).run Try.prog w' = .ok (.slice ao l.length cap) w') ∧ ∀ w2 : World, Sl w2 1 v (l ++ [171]).length (u8s (l ++ [171])) → Sl w2 1 (.slice ao l.length cap) l.length (u8s l) := by
  obtain ⟨v1, hr1, hs1, _⟩ := sl_prefix h ht hs (.int .i64 (l.length : Int)) ⟨_, rfl⟩
  obtain ⟨_, ao, cap, e1, _⟩ := id hs1
  subst e1
  refine ⟨ao, cap, hr1, fun w2 h2 => ?_⟩
  obtain ⟨v2, hr2, hs2, _⟩ := sl_prefix h2 ht hs (.int .i64 (l.length : Int)) ⟨_, rfl⟩
  have : v2 = .slice ao l.length cap := by
    have h3 := (hr2 w).symm.trans (hr1 w)
    injection h3
  rw [← this]; exact hs2
set_option maxRecDepth 100000 in
set_option maxHeartbeats 1600000 in
theorem does_fuse (H : Hold W0 ((DiskA b d).sep ((RefA b2 r).sep R)) w) (hl : Like d r) (hi : DInv d n) (num : Int) (hnum : num ≤ 9223372036854775807) (a to_ : ByteArray) (ao : Option Addr) (ln cap : Nat) :
    Calls Try.prog 27 #[ptr b, ptr b2, .agg #[.int .i64 6, .int .i64 num, .string a, .string to_, .slice ao ln cap]] w (RetDoes W0 R b b2 n) := by
  have HB := H.addBlk (cs := #[.int .i64 6, .int .i64 num, .string a, .string to_, .slice ao ln cap]) (t := 50) (b := w.heap.size) rfl
  have x0 := blk_cell HB.blk 0
  have x1 := blk_cell HB.blk 1
  have H1 : Hid (Hold W0 ((DiskA b d).sep ((RefA b2 r).sep ((Blk w.heap.size #[.int .i64 6, .int .i64 num, .string a, .string to_, .slice ao ln cap] 50).sep R))) (w.alloc (.cells #[.int .i64 6, .int .i64 num, .string a, .string to_, .slice ao ln cap] 50))) := Lib.hid (HB.perm (by ac_rfl))
  have HI := Lib.hid (And.intro (like_fuse hl num) ((hi.fuse num hnum).le (show n ≤ n + 1 by omega)))
  clear H hl hi HB hnum
  show Calls Try.prog 27 #[.pointer (some ⟨b, 0, none⟩), .pointer (some ⟨b2, 0, none⟩), _] w _
  go_enter Try.func27, Try.ntmps27
  go_wp2_with (first
    | (go_at_call 18; refine (fuse_any H1.out num).mono ?_; rintro e w5 ⟨rfl, H5⟩; have y1 := blk_cell H5.up3.blk 1)
    | (go_at_call 47; refine (xfuse_any H5.up2 num).mono ?_; rintro e w6 ⟨rfl, H6⟩))
  have HF := Lib.hid (to_end H6.up2)
  clear H5 H6
  go_ret
  exact ⟨rfl, _, _, HI.out.1, HI.out.2, HF.out⟩
set_option maxRecDepth 100000 in
set_option maxHeartbeats 1600000 in
theorem does_crash (H : Hold W0 ((DiskA b d).sep ((RefA b2 r).sep R)) w) (hl : Like d r) (hi : DInv d n) (hn : n ≤ 4000) (num : Int) (hnum : num ≤ 9223372036854775807) (a to_ : ByteArray) (ao : Option Addr) (ln cap : Nat) :
    Calls Try.prog 27 #[ptr b, ptr b2, .agg #[.int .i64 7, .int .i64 num, .string a, .string to_, .slice ao ln cap]] w (RetDoes W0 R b b2 n) := by
  have HB := H.addBlk (cs := #[.int .i64 7, .int .i64 num, .string a, .string to_, .slice ao ln cap]) (t := 50) (b := w.heap.size) rfl
  have x0 := blk_cell HB.blk 0
  have x1 := blk_cell HB.blk 1
  have H1 : Hid (Hold W0 ((DiskA b d).sep ((RefA b2 r).sep ((Blk w.heap.size #[.int .i64 7, .int .i64 num, .string a, .string to_, .slice ao ln cap] 50).sep R))) (w.alloc (.cells #[.int .i64 7, .int .i64 num, .string a, .string to_, .slice ao ln cap] 50))) := Lib.hid (HB.perm (by ac_rfl))
  have HI := Lib.hid (And.intro (like_crash hl num.toNat) ((hi.crash num.toNat).le (show n ≤ n + 1 by omega)))
  have HA : Hid (∀ f ∈ d.fs, f.lasts ≤ f.data.length ∧ f.data.length ≤ 4611686018427387904) := Lib.hid fun f hf => by have := hi.fit f hf; omega
  have HX := Lib.hid (hl.fitr hi)
  have HL : Hid (r.fs.length ≤ 4096) := Lib.hid (hl.ok hi (by omega)).2.2
  have HN := Lib.hid hnum
  have HK : Hid ((0 < num ∧ num = num.toNat) ∨ (num ≤ 0 ∧ num.toNat = 0)) := Lib.hid (by omega)
  have HK2 : Hid (num.toNat ≤ 9223372036854775807) := Lib.hid (by omega)
  clear H hl hi HB hnum hn
  show Calls Try.prog 27 #[.pointer (some ⟨b, 0, none⟩), .pointer (some ⟨b2, 0, none⟩), _] w _
  go_enter Try.func27, Try.ntmps27
  go_wp2_with (first
    | (go_at_call 14; refine (crash_any H1.out num HN.out HA.out).mono ?_; rintro e w5 ⟨rfl, H5⟩; have y1 := blk_cell H5.up3.blk 1)
    | (go_at_call 48; refine (xcrash_at H5.up2 HL.out HX.out num num.toNat HK.out HK2.out).mono ?_; rintro e w6 ⟨rfl, H6⟩))
  have HF := Lib.hid (to_end H6.up2)
  clear H5 H6
  go_ret
  exact ⟨rfl, _, _, HI.out.1, HI.out.2, HF.out⟩
set_option maxRecDepth 100000 in
set_option maxHeartbeats 1600000 in
theorem does_read (H : Hold W0 ((DiskA b d).sep ((RefA b2 r).sep R)) w) (hl : Like d r) (hi : DInv d n) (kd num : Int) (hk : kd < 1 ∨ 7 < kd) (a to_ : ByteArray) (ao : Option Addr) (ln cap : Nat) :
    Calls Try.prog 27 #[ptr b, ptr b2, .agg #[.int .i64 kd, .int .i64 num, .string a, .string to_, .slice ao ln cap]] w (RetDoes W0 R b b2 n) := by
  have HB := H.addBlk (cs := #[.int .i64 kd, .int .i64 num, .string a, .string to_, .slice ao ln cap]) (t := 50) (b := w.heap.size) rfl
  have x0 := blk_cell HB.blk 0
  have x2 := blk_cell HB.blk 2
  have H1 : Hid (Hold W0 ((DiskA b d).sep ((RefA b2 r).sep ((Blk w.heap.size #[.int .i64 kd, .int .i64 num, .string a, .string to_, .slice ao ln cap] 50).sep R))) (w.alloc (.cells #[.int .i64 kd, .int .i64 num, .string a, .string to_, .slice ao ln cap] 50))) := Lib.hid (HB.perm (by ac_rfl))
  have HI := Lib.hid (And.intro hl (hi.le (show n ≤ n + 1 by omega)))
  have g1 : (kd == 1) = false := by rw [beq_eq_false_iff_ne]; omega
  have g2 : (kd == 2) = false := by rw [beq_eq_false_iff_ne]; omega
  have g3 : (kd == 3) = false := by rw [beq_eq_false_iff_ne]; omega
  have g4 : (kd == 4) = false := by rw [beq_eq_false_iff_ne]; omega
  have g5 : (kd == 5) = false := by rw [beq_eq_false_iff_ne]; omega
  have g6 : (kd == 6) = false := by rw [beq_eq_false_iff_ne]; omega
  have g7 : (kd == 7) = false := by rw [beq_eq_false_iff_ne]; omega
  have HU := Lib.hid (hl.usedr hi)
  have HFit := Lib.hid hi.fit
  have hg := hl.get a
  clear H hi HB hk
  show Calls Try.prog 27 #[.pointer (some ⟨b, 0, none⟩), .pointer (some ⟨b2, 0, none⟩), _] w _
  cases hat : isAt r.fs a with
  | false =>
    rw [hat] at hg
    have Hg : Hid (getF d.fs a = none) := Lib.hid (by simpa using hg)
    have Hr : Hid (r.read a = none) := Lib.hid (by rw [RD.read, hat]; rfl)
    clear hg hat hl
    go_enter Try.func27, Try.ntmps27
    go_wp2_with fail
    refine (read_no H1.out a Hg.out).mono ?_
    rintro e w5 ⟨rfl, hw5⟩
    subst hw5
    go_wp2_with fail
    refine (xread_any H1.out.up2 (by have := HU.out; omega) a).mono ?_
    intro e w6 h6
    rw [Hr.out] at h6
    rcases h6 with ⟨_, rfl, hb6⟩ | ⟨x, v6, hx, _⟩
    case inr => cases hx
    have H6 := Lib.hid (((H1.out.keeps hb6).addNil 5 1))
    clear H1 hb6 x0 x2 g1 g2 g3 g4 g5 g6 g7
    go_wp2_with fail
    refine (same_any _ _ [] [] _ (Sl.nil _ _) (Sl.nil _ _)).mono ?_
    rintro e w7 ⟨rfl, hb7⟩
    have H7 := Lib.hid (H6.out.keeps hb7)
    have ht : decide (([] : List UInt8) = []) = true := by simp
    rw [ht]
    clear H6 hb7 ht
    go_wp2_with fail
    refine (spoil_any H7.out (by omega)).mono ?_
    rintro e w8 ⟨rfl, H8⟩
    have HF := Lib.hid (to_end H8)
    clear H7 H8
    go_wp2
    go_ret
    exact ⟨rfl, _, _, HI.out.1, HI.out.2, HF.out⟩
  | true =>
    rw [hat, if_pos rfl] at hg
    obtain ⟨f, hf⟩ : ∃ f, f = r.fs.getD (spotN r.fs a) default := ⟨_, rfl⟩
    rw [← hf] at hg
    have Hg : Hid (getF d.fs a = some f) := Lib.hid hg
    have Hr : Hid (r.read a = some f.data) := Lib.hid (by rw [RD.read, hat, if_pos rfl, ← hf])
    have hfl : f.data.length ≤ 1073741824 := (HFit.out f (getF_name hg).1).2
    clear hg hat hl hf
    go_enter Try.func27, Try.ntmps27
    go_wp2_with fail
    refine (read_yes H1.out a Hg.out (by omega)).mono ?_
    rintro e w5 ⟨v5, rfl, ho5, hb5⟩
    have H5 := Lib.hid ((H1.out.addRow hb5 ho5))
    have y2 := blk_cell H5.out.up4.blk 2
    clear H1 ho5 hb5 x0 x2
    go_wp2_with fail
    refine (xread_any H5.out.up3 (by have := HU.out; omega) a).mono ?_
    intro e w6 h6
    rw [Hr.out] at h6
    rcases h6 with ⟨h6, _⟩ | ⟨x, v6, hx, rfl, ho6, hb6⟩
    · cases h6
    obtain rfl : f.data = x := by simpa using hx
    have H6 := Lib.hid (H5.out.addRow hb6 ho6)
    clear ho6 hb6 H5 y2 hx g1 g2 g3 g4 g5 g6 g7
    go_wp2_with fail
    refine (same_any v5 v6 f.data f.data _ H6.out.up2.sl H6.out.sl).mono ?_
    rintro e w7 ⟨rfl, hb7⟩
    have H7 := Lib.hid (H6.out.keeps hb7).drop1
    have ht : decide (f.data = f.data) = true := by simp
    rw [ht]
    clear H6 hb7 ht
    go_wp2_with fail
    refine (spoil_any H7.out (by omega)).mono ?_
    rintro e w8 ⟨rfl, H8⟩
    have HF := Lib.hid (to_end H8)
    clear H7 H8
    go_wp2
    go_ret
    exact ⟨rfl, _, _, HI.out.1, HI.out.2, HF.out⟩
end
end Go.Proofs.Ytnaggipeliifgaa.Dsk
