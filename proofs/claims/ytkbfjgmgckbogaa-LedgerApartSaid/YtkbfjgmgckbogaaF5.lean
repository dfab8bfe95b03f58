/-
  Texts that the proofs of this seat stand on, one behind the other: contracts of functions and plain lemmas. Conditions: those that each theorem states.
-/
import Derived.Test.YtkbfjgmgckbogaaF4
import Derived.Test.YtkbfjgmgckbogaaOctetClone
/-
  Used, done, Fuse of chapter 3.
-/

namespace Go.Proofs.Ytkbfjgmgckbogaa.Dsk
open Go.RowKit L Oct
def strike (l : List Fl) (s : ByteArray) : List Fl := l.filter fun x => !decide (x.f.name = s)
def names (l : List Fl) : List ByteArray := l.map fun x => x.f.name
theorem mdel_ents (l : List Fl) (s : ByteArray) : mdel (ents l) s = ents (strike l s) := by
  induction l with
  | nil => rfl
  | cons x r ih =>
    have ih' : List.filter (fun p => !decide (p.1 = s)) (ents r) = ents (strike r s) := ih
    by_cases h : x.f.name = s
    · have e1 : mdel (ents (x :: r)) s = mdel (ents r) s := by simp [mdel, ents, h]
      have e2 : strike (x :: r) s = strike r s := by simp [strike, h]
      rw [e1, e2, ih]
    · have e1 : mdel (ents (x :: r)) s = (x.f.name, ptr x.blk) :: mdel (ents r) s := by simp [mdel, ents, h]
      have e2 : strike (x :: r) s = x :: strike r s := by simp [strike, h]
      rw [e1, e2, ih]; rfl
theorem strike_nodup {l : List Fl} (h : (names l).Nodup) (s : ByteArray) : (names (strike l s)).Nodup := (List.Sublist.map _ List.filter_sublist).nodup h
theorem strike_mem {l : List Fl} {s : ByteArray} {x : Fl} (h : x ∈ strike l s) : x ∈ l := (List.mem_filter.1 h).1
theorem strike_none {l : List Fl} {s : ByteArray} (h : ∀ y ∈ l, y.f.name ≠ s) : strike l s = l := List.filter_eq_self.2 fun y hy => by simp [h y hy]
theorem used_strike : ∀ {l : List Fl}, (names l).Nodup → ∀ {x : Fl}, x ∈ l → used (l.map Fl.f) = x.f.data.length + used ((strike l x.f.name).map Fl.f)
  | [], _, x, h => by cases h
  | y :: r, hn, x, h => by
    have hn' := List.nodup_cons.1 hn
    by_cases e : y.f.name = x.f.name
    · have hxy : x = y := by
        rcases List.mem_cons.1 h with h | h
        · exact h
        · exact (hn'.1 (List.mem_map.2 ⟨x, h, e.symm⟩)).elim
      subst hxy
      have hr : strike r x.f.name = r := strike_none fun z hz e => hn'.1 (List.mem_map.2 ⟨z, hz, e⟩)
      have : strike (x :: r) x.f.name = r := by
        rw [show strike (x :: r) x.f.name = strike r x.f.name from by simp [strike], hr]
      rw [this, List.map_cons, used_cons]
    · have hx : x ∈ r := by
        rcases List.mem_cons.1 h with h | h
        · exact (e (by rw [h])).elim
        · exact h
      have ih := used_strike hn'.2 hx
      have : strike (y :: r) x.f.name = y :: strike r x.f.name := by simp [strike, e]
      rw [this, List.map_cons, List.map_cons, used_cons, used_cons, ih]
      omega
theorem ents_mem {l : List Fl} {p : ByteArray × Value} (h : p ∈ ents l) : ∃ x ∈ l, p = (x.f.name, ptr x.blk) := by
  obtain ⟨x, hx, rfl⟩ := List.mem_map.1 h
  exact ⟨x, hx, rfl⟩
def UsedRel (W0 : World) (R : Asrt) (b mb r : Nat) (d : D) (l : List Fl) (n : Value) (wr : World) : Prop :=
  ∃ (lr : List Fl) (k : Nat), (∀ x ∈ lr, x ∈ l) ∧ (names lr).Nodup ∧ n = .int .i64 k ∧ k + used (lr.map Fl.f) = d.used ∧
    Hold W0 ((RangeA mb r (ents l) (ents lr)).sep ((Blk b #[.int .i64 d.room, .map (some mb), .bool d.fused, .int .i64 d.left] 53).sep ((FilesA l).sep R))) wr
set_option maxHeartbeats 800000 in
theorem used_open {W0 w : World} {R : Asrt} {b mb : Nat} {d : D} {l : List Fl} (hl : l.map Fl.f = d.fs)
    (H1 : Hold W0 ((Blk b #[.int .i64 d.room, .map (some mb), .bool d.fused, .int .i64 d.left] 53).sep ((MapA mb (ents l)).sep ((FilesA l).sep R))) w) (hu : d.used ≤ 4611686018427387904) :
    Calls Try.prog 52 #[ptr b] w fun e w' => e = .returned (.int .i64 d.used) ∧
      Hold W0 ((Blk b #[.int .i64 d.room, .map (some mb), .bool d.fused, .int .i64 d.left] 53).sep ((MapA mb (ents l)).sep ((FilesA l).sep R))) w' := by
  have k1 := blk_cell H1.blk 1
  have hnn := H1.up2.map.nodup
  rw [ents_names] at hnn
  have Hl := Lib.hid hl
  have hdu : Hid (0 + used (l.map Fl.f) = d.used) := Lib.hid (by rw [hl, Nat.zero_add]; rfl)
  have H2 := Lib.hid H1.up2
  have Hnn := Lib.hid hnn
  clear H1 hl hnn
  show Calls Try.prog 52 #[.pointer (some ⟨b, 0, none⟩)] w _
  go_enter Try.func52, Try.ntmps52
  go_wp2_with (at_range; refine wpList_mrange H2.out rfl _ 51 rfl Try.underlying51 rfl ?_; intro r w1 H3)
  go_frame
  go_loopw [3] (fun n wr => UsedRel W0 R b mb r d l n wr) (fun _ wr => wr.rangeLeft mb r)
  case atStart => exact ⟨l, 0, fun x hx => hx, Hnn.out, rfl, hdu.out, H3⟩
  case round =>
    clear H3 k1 H2 hdu Hnn
    obtain ⟨lr, k, hsub, hnd, rfl, hk, H4⟩ := hrel
    have Hsub := Lib.hid hsub
    have Hnd := Lib.hid hnd
    have Hk := Lib.hid hk
    have HL := Lib.hid H4.range_left
    have HH := Lib.hid H4
    have hkle : k ≤ 4611686018427387904 := by omega
    clear hsub hnd hk
    go_wp2_with (at_next; refine wpList_mnext H4 rfl _ rfl rfl ?_ ?_)
    · intro hnil
      have HD : Hid (k = d.used) := Lib.hid (by
        have e : lr = [] := by
          cases lr with
          | nil => rfl
          | cons x r => simp [ents] at hnil
        have hk := Hk.out
        rw [e] at hk
        simpa [used] using hk)
      have HM := Lib.hid H4.range_map.up2
      clear hnil H4
      go_wp2
      go_ret
      exact ⟨ret_int (by rw [HD.out]), HM.out⟩
    · intro s v w2 hp hlt H5 hen
      obtain ⟨x, hx, hxe⟩ := ents_mem hp
      simp only [Prod.mk.injEq] at hxe
      obtain ⟨rfl, rfl⟩ := hxe
      rw [mdel_ents] at H5 hlt
      have hxl := Hsub.out x hx
      obtain ⟨a, c, hac⟩ := List.append_of_mem hxl
      have hus := used_strike Hnd.out hx
      have HK2 : Hid (k + x.f.data.length + used ((strike lr x.f.name).map Fl.f) = d.used) := Lib.hid (by have := Hk.out; omega)
      have hb2 : k + x.f.data.length ≤ 4611686018427387904 := by have := HK2.out; omega
      have H6 := H5.up3
      rw [hac, files_split] at H6
      obtain ⟨v, H7⟩ := file_open (Hold.assoc.1 H6)
      have c0 := blk_cell H7.blk 0
      have hlen := H7.up2.sl.run_len Try.underlying33
      have HL2 := Lib.hid H5.range_left
      have HG := Lib.hid H5
      have Hlt := Lib.hid hlt
      clear H4 H5 H6 H7 hp hlt hac hus hxl
      unfold ptr at hen
      go_wp2
      go_roundw
      case rel => exact ⟨strike lr x.f.name, k + x.f.data.length, fun y hy => Hsub.out y (strike_mem hy), strike_nodup Hnd.out _, by go_num, HK2.out, HG.out⟩
      case measure => rw [HL2.out, HL.out]; exact Hlt.out
theorem used_any {W0 w : World} {R : Asrt} {b : Nat} {d : D} (H : Hold W0 ((DiskA b d).sep R) w) (hu : d.used ≤ 4611686018427387904) :
    Calls Try.prog 52 #[ptr b] w fun e w' => e = .returned (.int .i64 d.used) ∧ Hold W0 ((DiskA b d).sep R) w' := by
  obtain ⟨mb, l, hl, H1⟩ := disk_open H
  refine (used_open hl H1 hu).mono ?_
  rintro e w' ⟨he, H2⟩
  exact ⟨he, disk_shut hl H2⟩
end Go.Proofs.Ytkbfjgmgckbogaa.Dsk

/-
  done, Fuse, Read of chapter 3.
-/


namespace Go.Proofs.Ytkbfjgmgckbogaa.Dsk
open Go.RowKit L Oct
theorem disk_mapAt {W0 w : World} {R : Asrt} {b mb : Nat} {l : List Fl} {cs : Array Value} {t : TypeId} (H : Hold W0 ((Blk b cs t).sep ((MapA mb (ents l)).sep R)) w) : MapAt w mb (ents l) := H.up2.map
theorem run_lookD {w : World} {mb : Nat} {l : List Fl} (h : MapAt w mb (ents l)) (s : ByteArray) :
    (Instr.lookup 51 (.map (some mb)) (.string s) false).run Try.prog w = .ok (((l.find? fun x => decide (x.f.name = s)).map fun x => ptr x.blk).getD (.pointer none)) w := by
  rw [run_look (P := Try.prog) h Try.underlying51 Try.underlying9 (Try.zeroValue70 w) s, ents_get]
set_option maxHeartbeats 800000 in
theorem done_any {W0 w : World} {R : Asrt} {b : Nat} {d : D} (H : Hold W0 ((DiskA b d).sep R) w) (hl : d.fused = true → 1 ≤ d.left) (hm : d.left ≤ 9223372036854775807) :
    Calls Try.prog 37 #[ptr b] w fun e w' => e = .returned (.int .i64 0) ∧ Hold W0 ((DiskA b d.done).sep R) w' := by
  obtain ⟨mb, l, hl', H1⟩ := disk_open H
  have k2 := blk_cell H1.blk 2
  have k3 := blk_cell H1.blk 3
  have f3 := blk_free H1.blk 3
  obtain ⟨room, fs, fused, left⟩ := d
  show Calls Try.prog 37 #[.pointer (some ⟨b, 0, none⟩)] w _
  cases fused with
  | false =>
    have HH := Lib.hid H
    clear H H1 hl' hl
    go_enter Try.func37, Try.ntmps37
    go_wp2
    go_ret
    exact ⟨rfl, HH.out⟩
  | true =>
    have h1 : 1 ≤ left := hl rfl
    have hm : left ≤ 9223372036854775807 := hm
    have HH : Hid (Hold W0 ((DiskA b (D.done ⟨room, fs, true, left⟩)).sep R) (w.setCell ⟨b, 3, none⟩ (.int .i64 ((left : Int) - 1)))) := Lib.hid (by
      have H2 := H1.setB 3 (.int .i64 ((left : Int) - 1))
      have e : (left : Int) - 1 = ((left - 1 : Nat) : Int) := by omega
      refine disk_shut (d := ⟨room, fs, true, left - 1⟩) (mb := mb) (l := l) hl' ?_
      rw [e] at H2 ⊢
      exact H2)
    have hl2 : (1 : Int) ≤ (left : Int) := by omega
    have hm2 : (left : Int) ≤ 9223372036854775807 := by omega
    clear H H1 hl' hl hm h1
    go_enter Try.func37, Try.ntmps37
    go_wp2
    go_ret
    exact ⟨rfl, HH.out⟩
set_option maxHeartbeats 800000 in
theorem fuse_any {W0 w : World} {R : Asrt} {b : Nat} {d : D} (H : Hold W0 ((DiskA b d).sep R) w) (n : Int) :
    Calls Try.prog 15 #[ptr b, .int .i64 n] w fun e w' => e = .returned (.tuple #[]) ∧ Hold W0 ((DiskA b { d with fused := decide (0 ≤ n), left := n.toNat }).sep R) w' := by
  obtain ⟨mb, l, hl', H1⟩ := disk_open H
  have k2 := blk_cell H1.blk 2
  have k3 := blk_cell H1.blk 3
  have f2 := blk_free H1.blk 2
  have f3 := blk_free H1.blk 3
  obtain ⟨room, fs, fused, left⟩ := d
  have hm : max 0 n = (n.toNat : Int) := by omega
  have HH : Hid (Hold W0 ((DiskA b ⟨room, fs, decide (0 ≤ n), n.toNat⟩).sep R) ((w.setCell ⟨b, 2, none⟩ (.bool (decide (0 ≤ n)))).setCell ⟨b, 3, none⟩ (.int .i64 (max 0 n)))) := Lib.hid (by
    rw [hm]
    exact disk_shut (d := ⟨room, fs, decide (0 ≤ n), n.toNat⟩) (mb := mb) (l := l) hl' ((H1.setB 2 (.bool (decide (0 ≤ n)))).setB 3 (.int .i64 n.toNat)))
  clear H H1 hl' hm
  show Calls Try.prog 15 #[.pointer (some ⟨b, 0, none⟩), .int .i64 n] w _
  have hcase : 0 < n ∨ n = 0 ∨ n < 0 := by omega
  rcases hcase with h0 | rfl | h0
  · have g : decide (0 ≤ n) = true := by simp; omega
    have e : max 0 n = n := by omega
    rw [e, g] at HH
    clear e
    go_enter Try.func15, Try.ntmps15
    go_wp2
    go_end0
    exact ⟨rfl, HH.out⟩
  · go_enter Try.func15, Try.ntmps15
    go_wp2
    go_end0
    exact ⟨rfl, HH.out⟩
  · have g : decide (0 ≤ n) = false := by simp; omega
    have e : max 0 n = 0 := by omega
    rw [e, g] at HH
    clear e
    go_enter Try.func15, Try.ntmps15
    go_wp2
    go_end0
    exact ⟨rfl, HH.out⟩
set_option maxHeartbeats 800000 in
theorem read_no {W0 w : World} {R : Asrt} {b : Nat} {d : D} (H : Hold W0 ((DiskA b d).sep R) w) (s : ByteArray) (hs : getF d.fs s = none) :
    Calls Try.prog 19 #[ptr b, .string s] w fun e w' => e = .returned (.tuple #[.slice none 0 0, .int .i64 7]) ∧ w = w' := by
  obtain ⟨mb, l, hl, H1⟩ := disk_open H
  have k1 := blk_cell H1.blk 1
  have hlk := run_lookD (disk_mapAt H1) s
  rw [← hl, get_map, Option.map_eq_none_iff] at hs
  rw [hs] at hlk
  clear H H1 hl hs
  show Calls Try.prog 19 #[.pointer (some ⟨b, 0, none⟩), .string s] w _
  go_enter Try.func19, Try.ntmps19
  go_wp2
  go_ret2
  exact ⟨rfl, rfl⟩
def RetRead (w : World) (l : List UInt8) (e : Ending) (w' : World) : Prop := ∃ v, e = .returned (.tuple #[v, .int .i64 0]) ∧ Own w' w.heap.size 5 1 v l.length (u8s l) ∧ Below w.heap.size w w'
set_option maxRecDepth 100000 in
set_option maxHeartbeats 800000 in
theorem read_yes {W0 w : World} {R : Asrt} {b : Nat} {d : D} (H : Hold W0 ((DiskA b d).sep R) w) (s : ByteArray) {f : AF} (hs : getF d.fs s = some f) (hn : f.data.length ≤ 140737488355328) :
    Calls Try.prog 19 #[ptr b, .string s] w (RetRead w f.data) := by
  obtain ⟨mb, l, hl, H1⟩ := disk_open H
  have k1 := blk_cell H1.blk 1
  have hlk0 := run_lookD (disk_mapAt H1) s
  rw [← hl, get_map] at hs
  obtain ⟨x, hx, rfl⟩ := Option.map_eq_some_iff.1 hs
  rw [hx] at hlk0
  have hlk : (Instr.lookup 51 (.map (some mb)) (.string s) false).run Try.prog w = .ok (.pointer (some ⟨x.blk, 0, none⟩)) w := hlk0
  clear hlk0
  have hnn := H1.up2.map.nodup
  rw [ents_names] at hnn
  obtain ⟨a, c, rfl, _, _, _⟩ := get_split hnn hx
  have H2 := H1.up3
  rw [files_split] at H2
  obtain ⟨v, H3⟩ := file_open (Hold.assoc.1 H2)
  have c0 := blk_cell H3.blk 0
  have hsl := H3.up2.sl
  clear H H1 hl hs hx hnn H2 H3
  show Calls Try.prog 19 #[.pointer (some ⟨b, 0, none⟩), .string s] w _
  go_enter Try.func19, Try.ntmps19
  go_wp2_with fail
  refine (clone_any v x.f.data _ hsl hn).mono ?_
  rintro e w2 ⟨v2, rfl, ho, hb⟩
  have Ho := Lib.hid ho
  have hb := Lib.hid hb
  clear ho hsl hn c0 k1 hlk
  go_wp2
  go_ret2
  exact ⟨_, rfl, Ho.out, hb.out⟩
end Go.Proofs.Ytkbfjgmgckbogaa.Dsk
