/-
  done, Fuse, Read of chapter 3.
-/
import Derived.Test.YtnaggipeliifgaaDiskUsed
import Derived.Test.YtnaggipeliifgaaOctetClone
namespace Go.Proofs.Ytnaggipeliifgaa.Dsk
open Go.RowKit L Oct
theorem disk_mapAt {W0 w : World} {R : Asrt} {b mb : Nat} {l : List Fl} {cs : Array Value} {t : TypeId} (H : Hold W0 ((Blk b cs t).sep ((MapA mb (ents l)).sep R)) w) : MapAt w mb (ents l) := H.up2.map
theorem run_lookD {w : World} {mb : Nat} {l : List Fl} (h : MapAt w mb (ents l)) (s : ByteArray) :
    (Instr.lookup 58 (.map (some mb)) (.string s) false).run Try.prog w = .ok (((l.find? fun x => decide (x.f.name = s)).map fun x => ptr x.blk).getD (.pointer none)) w := by
  rw [run_look (P := Try.prog) h Try.underlying58 Try.underlying9 (Try.zeroValue62 w) s, ents_get]
set_option maxHeartbeats 800000 in
theorem done_any {W0 w : World} {R : Asrt} {b : Nat} {d : D} (H : Hold W0 ((DiskA b d).sep R) w) (hl : d.fused = true → 1 ≤ d.left) (hm : d.left ≤ 9223372036854775807) :
    Calls Try.prog 32 #[ptr b] w fun e w' => e = .returned (.int .i64 0) ∧ Hold W0 ((DiskA b d.done).sep R) w' := by
  obtain ⟨mb, l, hl', H1⟩ := disk_open H
  have k2 := blk_cell H1.blk 2
  have k3 := blk_cell H1.blk 3
  have f3 := blk_free H1.blk 3
  obtain ⟨room, fs, fused, left⟩ := d
  show Calls Try.prog 32 #[.pointer (some ⟨b, 0, none⟩)] w _
  cases fused with
  | false =>
    have HH := Lib.hid H
    clear H H1 hl' hl
    go_enter Try.func32, Try.ntmps32
    go_wp2
    go_ret
    exact ⟨rfl, HH.out⟩
  | true =>
    have h1 : 1 ≤ left := hl rfl
    have hm : left ≤ 9223372036854775807 := hm
    have HH : Hid (Hold W0 ((DiskA b (D.done ⟨room, fs, true, left⟩)).sep R) (w.setCell ⟨b, 3, none⟩ (.int .i64 ((left : Int) - 1)))) := Lib.hid (by
      have H2 := H1.setB 3 (.int .i64 ((left : Int) - 1))
      have e : (left : Int) - 1 = ((left - 1 : Nat) : Int) := by omega
      refine disk_shut (d := ⟨room, fs, true, left - 1⟩) (mb := mb) (l := l) hl' ?_
      rw [e] at H2 ⊢
      exact H2)
    have hl2 : (1 : Int) ≤ (left : Int) := by omega
    have hm2 : (left : Int) ≤ 9223372036854775807 := by omega
    clear H H1 hl' hl hm h1
    go_enter Try.func32, Try.ntmps32
    go_wp2
    go_ret
    exact ⟨rfl, HH.out⟩
set_option maxHeartbeats 800000 in
theorem fuse_any {W0 w : World} {R : Asrt} {b : Nat} {d : D} (H : Hold W0 ((DiskA b d).sep R) w) (n : Int) :
    Calls Try.prog 18 #[ptr b, .int .i64 n] w fun e w' => e = .returned (.tuple #[]) ∧ Hold W0 ((DiskA b { d with fused := decide (0 ≤ n), left := n.toNat }).sep R) w' := by
  obtain ⟨mb, l, hl', H1⟩ := disk_open H
  have k2 := blk_cell H1.blk 2
  have k3 := blk_cell H1.blk 3
  have f2 := blk_free H1.blk 2
  have f3 := blk_free H1.blk 3
  obtain ⟨room, fs, fused, left⟩ := d
  have hm : max 0 n = (n.toNat : Int) := by omega
  have HH : Hid (Hold W0 ((DiskA b ⟨room, fs, decide (0 ≤ n), n.toNat⟩).sep R) ((w.setCell ⟨b, 2, none⟩ (.bool (decide (0 ≤ n)))).setCell ⟨b, 3, none⟩ (.int .i64 (max 0 n)))) := Lib.hid (by
    rw [hm]
    exact disk_shut (d := ⟨room, fs, decide (0 ≤ n), n.toNat⟩) (mb := mb) (l := l) hl' ((H1.setB 2 (.bool (decide (0 ≤ n)))).setB 3 (.int .i64 n.toNat)))
  clear H H1 hl' hm
  show Calls Try.prog 18 #[.pointer (some ⟨b, 0, none⟩), .int .i64 n] w _
  have hcase : 0 < n ∨ n = 0 ∨ n < 0 := by omega
  rcases hcase with h0 | rfl | h0
  · have g : decide (0 ≤ n) = true := by simp; omega
    have e : max 0 n = n := by omega
    rw [e, g] at HH
    clear e
    go_enter Try.func18, Try.ntmps18
    go_wp2
    go_end0
    exact ⟨rfl, HH.out⟩
  · go_enter Try.func18, Try.ntmps18
    go_wp2
    go_end0
    exact ⟨rfl, HH.out⟩
  · have g : decide (0 ≤ n) = false := by simp; omega
    have e : max 0 n = 0 := by omega
    rw [e, g] at HH
    clear e
    go_enter Try.func18, Try.ntmps18
    go_wp2
    go_end0
    exact ⟨rfl, HH.out⟩
set_option maxHeartbeats 800000 in
theorem read_no {W0 w : World} {R : Asrt} {b : Nat} {d : D} (H : Hold W0 ((DiskA b d).sep R) w) (s : ByteArray) (hs : getF d.fs s = none) :
    Calls Try.prog 15 #[ptr b, .string s] w fun e w' => e = .returned (.tuple #[.slice none 0 0, .int .i64 7]) ∧ w = w' := by
  obtain ⟨mb, l, hl, H1⟩ := disk_open H
  have k1 := blk_cell H1.blk 1
  have hlk := run_lookD (disk_mapAt H1) s
  rw [← hl, get_map, Option.map_eq_none_iff] at hs
  rw [hs] at hlk
  clear H H1 hl hs
  show Calls Try.prog 15 #[.pointer (some ⟨b, 0, none⟩), .string s] w _
  go_enter Try.func15, Try.ntmps15
  go_wp2
  go_ret2
  exact ⟨rfl, rfl⟩
def RetRead (w : World) (l : List UInt8) (e : Ending) (w' : World) : Prop := ∃ v, e = .returned (.tuple #[v, .int .i64 0]) ∧ Own w' w.heap.size 5 1 v l.length (u8s l) ∧ Below w.heap.size w w'
set_option maxRecDepth 100000 in
set_option maxHeartbeats 800000 in
theorem read_yes {W0 w : World} {R : Asrt} {b : Nat} {d : D} (H : Hold W0 ((DiskA b d).sep R) w) (s : ByteArray) {f : AF} (hs : getF d.fs s = some f) (hn : f.data.length ≤ 140737488355328) :
    Calls Try.prog 15 #[ptr b, .string s] w (RetRead w f.data) := by
  obtain ⟨mb, l, hl, H1⟩ := disk_open H
  have k1 := blk_cell H1.blk 1
  have hlk0 := run_lookD (disk_mapAt H1) s
  rw [← hl, get_map] at hs
  obtain ⟨x, hx, rfl⟩ := Option.map_eq_some_iff.1 hs
  rw [hx] at hlk0
  have hlk : (Instr.lookup 58 (.map (some mb)) (.string s) false).run Try.prog w = .ok (.pointer (some ⟨x.blk, 0, none⟩)) w := hlk0
  clear hlk0
  have hnn := H1.up2.map.nodup
  rw [ents_names] at hnn
  obtain ⟨a, c, rfl, _, _, _⟩ := get_split hnn hx
  have H2 := H1.up3
  rw [files_split] at H2
  obtain ⟨v, H3⟩ := file_open (Hold.assoc.1 H2)
  have c0 := blk_cell H3.blk 0
  have hsl := H3.up2.sl
  clear H H1 hl hs hx hnn H2 H3
  show Calls Try.prog 15 #[.pointer (some ⟨b, 0, none⟩), .string s] w _
  go_enter Try.func15, Try.ntmps15
  go_wp2_with fail
  refine (clone_any v x.f.data _ hsl hn).mono ?_
  rintro e w2 ⟨v2, rfl, ho, hb⟩
  have Ho := Lib.hid ho
  have hb := Lib.hid hb
  clear ho hsl hn c0 k1 hlk
  go_wp2
  go_ret2
  exact ⟨_, rfl, Ho.out, hb.out⟩
end Go.Proofs.Ytnaggipeliifgaa.Dsk
