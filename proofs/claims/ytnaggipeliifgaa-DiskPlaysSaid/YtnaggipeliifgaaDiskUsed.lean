/-
  Used, done, Fuse of chapter 3.
-/
import Derived.Test.YtnaggipeliifgaaDiskSmall
namespace Go.Proofs.Ytnaggipeliifgaa.Dsk
open Go.RowKit L Oct
def strike (l : List Fl) (s : ByteArray) : List Fl := l.filter fun x => !decide (x.f.name = s)
def names (l : List Fl) : List ByteArray := l.map fun x => x.f.name
theorem mdel_ents (l : List Fl) (s : ByteArray) : mdel (ents l) s = ents (strike l s) := by
  induction l with
  | nil => rfl
  | cons x r ih =>
    have ih' : List.filter (fun p => !decide (p.1 = s)) (ents r) = ents (strike r s) := ih
    by_cases h : x.f.name = s
    · have e1 : mdel (ents (x :: r)) s = mdel (ents r) s := by simp [mdel, ents, h]
      have e2 : strike (x :: r) s = strike r s := by simp [strike, h]
      rw [e1, e2, ih]
    · have e1 : mdel (ents (x :: r)) s = (x.f.name, ptr x.blk) :: mdel (ents r) s := by simp [mdel, ents, h]
      have e2 : strike (x :: r) s = x :: strike r s := by simp [strike, h]
      rw [e1, e2, ih]; rfl
theorem strike_nodup {l : List Fl} (h : (names l).Nodup) (s : ByteArray) : (names (strike l s)).Nodup := (List.Sublist.map _ List.filter_sublist).nodup h
theorem strike_mem {l : List Fl} {s : ByteArray} {x : Fl} (h : x ∈ strike l s) : x ∈ l := (List.mem_filter.1 h).1
theorem strike_none {l : List Fl} {s : ByteArray} (h : ∀ y ∈ l, y.f.name ≠ s) : strike l s = l := List.filter_eq_self.2 fun y hy => by simp [h y hy]
theorem used_strike : ∀ {l : List Fl}, (names l).Nodup → ∀ {x : Fl}, x ∈ l → used (l.map Fl.f) = x.f.data.length + used ((strike l x.f.name).map Fl.f)
  | [], _, x, h => by cases h
  | y :: r, hn, x, h => by
    have hn' := List.nodup_cons.1 hn
    by_cases e : y.f.name = x.f.name
    · have hxy : x = y := by
        rcases List.mem_cons.1 h with h | h
        · exact h
        · exact (hn'.1 (List.mem_map.2 ⟨x, h, e.symm⟩)).elim
      subst hxy
      have hr : strike r x.f.name = r := strike_none fun z hz e => hn'.1 (List.mem_map.2 ⟨z, hz, e⟩)
      have : strike (x :: r) x.f.name = r := by
        rw [show strike (x :: r) x.f.name = strike r x.f.name from by simp [strike], hr]
      rw [this, List.map_cons, used_cons]
    · have hx : x ∈ r := by
        rcases List.mem_cons.1 h with h | h
        · exact (e (by rw [h])).elim
        · exact h
      have ih := used_strike hn'.2 hx
      have : strike (y :: r) x.f.name = y :: strike r x.f.name := by simp [strike, e]
      rw [this, List.map_cons, List.map_cons, used_cons, used_cons, ih]
      omega
theorem ents_mem {l : List Fl} {p : ByteArray × Value} (h : p ∈ ents l) : ∃ x ∈ l, p = (x.f.name, ptr x.blk) := by
  obtain ⟨x, hx, rfl⟩ := List.mem_map.1 h
  exact ⟨x, hx, rfl⟩
def UsedRel (W0 : World) (R : Asrt) (b mb r : Nat) (d : D) (l : List Fl) (n : Value) (wr : World) : Prop :=
  ∃ (lr : List Fl) (k : Nat), (∀ x ∈ lr, x ∈ l) ∧ (names lr).Nodup ∧ n = .int .i64 k ∧ k + used (lr.map Fl.f) = d.used ∧
    Hold W0 ((RangeA mb r (ents l) (ents lr)).sep ((Blk b #[.int .i64 d.room, .map (some mb), .bool d.fused, .int .i64 d.left] 60).sep ((FilesA l).sep R))) wr
set_option maxHeartbeats 800000 in
theorem used_open {W0 w : World} {R : Asrt} {b mb : Nat} {d : D} {l : List Fl} (hl : l.map Fl.f = d.fs)
    (H1 : Hold W0 ((Blk b #[.int .i64 d.room, .map (some mb), .bool d.fused, .int .i64 d.left] 60).sep ((MapA mb (ents l)).sep ((FilesA l).sep R))) w) (hu : d.used ≤ 4611686018427387904) :
    Calls Try.prog 17 #[ptr b] w fun e w' => e = .returned (.int .i64 d.used) ∧
      Hold W0 ((Blk b #[.int .i64 d.room, .map (some mb), .bool d.fused, .int .i64 d.left] 60).sep ((MapA mb (ents l)).sep ((FilesA l).sep R))) w' := by
  have k1 := blk_cell H1.blk 1
  have hnn := H1.up2.map.nodup
  rw [ents_names] at hnn
  have Hl := Lib.hid hl
  have hdu : Hid (0 + used (l.map Fl.f) = d.used) := Lib.hid (by rw [hl, Nat.zero_add]; rfl)
  have H2 := Lib.hid H1.up2
  have Hnn := Lib.hid hnn
  clear H1 hl hnn
  show Calls Try.prog 17 #[.pointer (some ⟨b, 0, none⟩)] w _
  go_enter Try.func17, Try.ntmps17
  go_wp2_with (at_range; refine wpList_mrange H2.out rfl _ 58 rfl Try.underlying58 rfl ?_; intro r w1 H3)
  go_frame
  go_loopw [3] (fun n wr => UsedRel W0 R b mb r d l n wr) (fun _ wr => wr.rangeLeft mb r)
  case atStart => exact ⟨l, 0, fun x hx => hx, Hnn.out, rfl, hdu.out, H3⟩
  case round =>
    clear H3 k1 H2 hdu Hnn
    obtain ⟨lr, k, hsub, hnd, rfl, hk, H4⟩ := hrel
    have Hsub := Lib.hid hsub
    have Hnd := Lib.hid hnd
    have Hk := Lib.hid hk
    have HL := Lib.hid H4.range_left
    have HH := Lib.hid H4
    have hkle : k ≤ 4611686018427387904 := by omega
    clear hsub hnd hk
    go_wp2_with (at_next; refine wpList_mnext H4 rfl _ rfl rfl ?_ ?_)
    · intro hnil
      have HD : Hid (k = d.used) := Lib.hid (by
        have e : lr = [] := by
          cases lr with
          | nil => rfl
          | cons x r => simp [ents] at hnil
        have hk := Hk.out
        rw [e] at hk
        simpa [used] using hk)
      have HM := Lib.hid H4.range_map.up2
      clear hnil H4
      go_wp2
      go_ret
      exact ⟨ret_int (by rw [HD.out]), HM.out⟩
    · intro s v w2 hp hlt H5 hen
      obtain ⟨x, hx, hxe⟩ := ents_mem hp
      simp only [Prod.mk.injEq] at hxe
      obtain ⟨rfl, rfl⟩ := hxe
      rw [mdel_ents] at H5 hlt
      have hxl := Hsub.out x hx
      obtain ⟨a, c, hac⟩ := List.append_of_mem hxl
      have hus := used_strike Hnd.out hx
      have HK2 : Hid (k + x.f.data.length + used ((strike lr x.f.name).map Fl.f) = d.used) := Lib.hid (by have := Hk.out; omega)
      have hb2 : k + x.f.data.length ≤ 4611686018427387904 := by have := HK2.out; omega
      have H6 := H5.up3
      rw [hac, files_split] at H6
      obtain ⟨v, H7⟩ := file_open (Hold.assoc.1 H6)
      have c0 := blk_cell H7.blk 0
      have hlen := H7.up2.sl.run_len Try.underlying23
      have HL2 := Lib.hid H5.range_left
      have HG := Lib.hid H5
      have Hlt := Lib.hid hlt
      clear H4 H5 H6 H7 hp hlt hac hus hxl
      unfold ptr at hen
      go_wp2
      go_roundw
      case rel => exact ⟨strike lr x.f.name, k + x.f.data.length, fun y hy => Hsub.out y (strike_mem hy), strike_nodup Hnd.out _, by go_num, HK2.out, HG.out⟩
      case measure => rw [HL2.out, HL.out]; exact Hlt.out
theorem used_any {W0 w : World} {R : Asrt} {b : Nat} {d : D} (H : Hold W0 ((DiskA b d).sep R) w) (hu : d.used ≤ 4611686018427387904) :
    Calls Try.prog 17 #[ptr b] w fun e w' => e = .returned (.int .i64 d.used) ∧ Hold W0 ((DiskA b d).sep R) w' := by
  obtain ⟨mb, l, hl, H1⟩ := disk_open H
  refine (used_open hl H1 hu).mono ?_
  rintro e w' ⟨he, H2⟩
  exact ⟨he, disk_shut hl H2⟩
end Go.Proofs.Ytnaggipeliifgaa.Dsk
