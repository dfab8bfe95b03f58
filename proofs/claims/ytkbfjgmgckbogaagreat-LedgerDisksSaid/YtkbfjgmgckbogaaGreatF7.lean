/-
  Texts that the proofs of this seat stand on, one behind the other: contracts of functions and plain lemmas. Conditions: those that each theorem states.
-/
import Derived.Test.YtkbfjgmgckbogaaGreatF6
import Derived.Test.YtkbfjgmgckbogaaGreatOctetClone
import Derived.Test.YtkbfjgmgckbogaaGreatF2
/-
  Used, done, Fuse of chapter 3.
-/

namespace Go.Proofs.YtkbfjgmgckbogaaGreat.Dsk
open Go.RowKit L Oct
def strike (l : List Fl) (s : ByteArray) : List Fl := l.filter fun x => !decide (x.f.name = s)
def names (l : List Fl) : List ByteArray := l.map fun x => x.f.name
theorem mdel_ents (l : List Fl) (s : ByteArray) : mdel (ents l) s = ents (strike l s) := by
  induction l with
  | nil => rfl
  | cons x r ih =>
    have ih' : List.filter (fun p => !decide (p.1 = s)) (ents r) = ents (strike r s) := ih
    by_cases h : x.f.name = s
    · have e1 : mdel (ents (x :: r)) s = mdel (ents r) s := by simp [mdel, ents, h]
      have e2 : strike (x :: r) s = strike r s := by simp [strike, h]
      rw [e1, e2, ih]
    · have e1 : mdel (ents (x :: r)) s = (x.f.name, ptr x.blk) :: mdel (ents r) s := by simp [mdel, ents, h]
      have e2 : strike (x :: r) s = x :: strike r s := by simp [strike, h]
      rw [e1, e2, ih]; rfl
theorem strike_nodup {l : List Fl} (h : (names l).Nodup) (s : ByteArray) : (names (strike l s)).Nodup := (List.Sublist.map _ List.filter_sublist).nodup h
theorem strike_mem {l : List Fl} {s : ByteArray} {x : Fl} (h : x ∈ strike l s) : x ∈ l := (List.mem_filter.1 h).1
theorem strike_none {l : List Fl} {s : ByteArray} (h : ∀ y ∈ l, y.f.name ≠ s) : strike l s = l := List.filter_eq_self.2 fun y hy => by simp [h y hy]
theorem used_strike : ∀ {l : List Fl}, (names l).Nodup → ∀ {x : Fl}, x ∈ l → used (l.map Fl.f) = x.f.data.length + used ((strike l x.f.name).map Fl.f)
  | [], _, x, h => by cases h
  | y :: r, hn, x, h => by
    have hn' := List.nodup_cons.1 hn
    by_cases e : y.f.name = x.f.name
    · have hxy : x = y := by
        rcases List.mem_cons.1 h with h | h
        · exact h
        · exact (hn'.1 (List.mem_map.2 ⟨x, h, e.symm⟩)).elim
      subst hxy
      have hr : strike r x.f.name = r := strike_none fun z hz e => hn'.1 (List.mem_map.2 ⟨z, hz, e⟩)
      have : strike (x :: r) x.f.name = r := by
        rw [show strike (x :: r) x.f.name = strike r x.f.name from by simp [strike], hr]
      rw [this, List.map_cons, used_cons]
    · have hx : x ∈ r := by
        rcases List.mem_cons.1 h with h | h
        · exact (e (by rw [h])).elim
        · exact h
      have ih := used_strike hn'.2 hx
      have : strike (y :: r) x.f.name = y :: strike r x.f.name := by simp [strike, e]
      rw [this, List.map_cons, List.map_cons, used_cons, used_cons, ih]
      omega
theorem ents_mem {l : List Fl} {p : ByteArray × Value} (h : p ∈ ents l) : ∃ x ∈ l, p = (x.f.name, ptr x.blk) := by
  obtain ⟨x, hx, rfl⟩ := List.mem_map.1 h
  exact ⟨x, hx, rfl⟩
def UsedRel (W0 : World) (R : Asrt) (b mb r : Nat) (d : D) (l : List Fl) (n : Value) (wr : World) : Prop :=
  ∃ (lr : List Fl) (k : Nat), (∀ x ∈ lr, x ∈ l) ∧ (names lr).Nodup ∧ n = .int .i64 k ∧ k + used (lr.map Fl.f) = d.used ∧
    Hold W0 ((RangeA mb r (ents l) (ents lr)).sep ((Blk b #[.int .i64 d.room, .map (some mb), .bool d.fused, .int .i64 d.left] 40).sep ((FilesA l).sep R))) wr
set_option maxHeartbeats 800000 in
theorem used_open {W0 w : World} {R : Asrt} {b mb : Nat} {d : D} {l : List Fl} (hl : l.map Fl.f = d.fs)
    (H1 : Hold W0 ((Blk b #[.int .i64 d.room, .map (some mb), .bool d.fused, .int .i64 d.left] 40).sep ((MapA mb (ents l)).sep ((FilesA l).sep R))) w) (hu : d.used ≤ 4611686018427387904) :
    Calls Tryz.prog 12 #[ptr b] w fun e w' => e = .returned (.int .i64 d.used) ∧
      Hold W0 ((Blk b #[.int .i64 d.room, .map (some mb), .bool d.fused, .int .i64 d.left] 40).sep ((MapA mb (ents l)).sep ((FilesA l).sep R))) w' := by
  have k1 := blk_cell H1.blk 1
  have hnn := H1.up2.map.nodup
  rw [ents_names] at hnn
  have Hl := Lib.hid hl
  have hdu : Hid (0 + used (l.map Fl.f) = d.used) := Lib.hid (by rw [hl, Nat.zero_add]; rfl)
  have H2 := Lib.hid H1.up2
  have Hnn := Lib.hid hnn
  clear H1 hl hnn
  show Calls Tryz.prog 12 #[.pointer (some ⟨b, 0, none⟩)] w _
  go_enter Tryz.func12, Tryz.ntmps12
  go_wp2_with (at_range; refine wpList_mrange H2.out rfl _ 38 rfl Tryz.underlying38 rfl ?_; intro r w1 H3)
  go_frame
  go_loopw [3] (fun n wr => UsedRel W0 R b mb r d l n wr) (fun _ wr => wr.rangeLeft mb r)
  case atStart => exact ⟨l, 0, fun x hx => hx, Hnn.out, rfl, hdu.out, H3⟩
  case round =>
    clear H3 k1 H2 hdu Hnn
    obtain ⟨lr, k, hsub, hnd, rfl, hk, H4⟩ := hrel
    have Hsub := Lib.hid hsub
    have Hnd := Lib.hid hnd
    have Hk := Lib.hid hk
    have HL := Lib.hid H4.range_left
    have HH := Lib.hid H4
    have hkle : k ≤ 4611686018427387904 := by omega
    clear hsub hnd hk
    go_wp2_with (at_next; refine wpList_mnext H4 rfl _ rfl rfl ?_ ?_)
    · intro hnil
      have HD : Hid (k = d.used) := Lib.hid (by
        have e : lr = [] := by
          cases lr with
          | nil => rfl
          | cons x r => simp [ents] at hnil
        have hk := Hk.out
        rw [e] at hk
        simpa [used] using hk)
      have HM := Lib.hid H4.range_map.up2
      clear hnil H4
      go_wp2
      go_ret
      exact ⟨ret_int (by rw [HD.out]), HM.out⟩
    · intro s v w2 hp hlt H5 hen
      obtain ⟨x, hx, hxe⟩ := ents_mem hp
      simp only [Prod.mk.injEq] at hxe
      obtain ⟨rfl, rfl⟩ := hxe
      rw [mdel_ents] at H5 hlt
      have hxl := Hsub.out x hx
      obtain ⟨a, c, hac⟩ := List.append_of_mem hxl
      have hus := used_strike Hnd.out hx
      have HK2 : Hid (k + x.f.data.length + used ((strike lr x.f.name).map Fl.f) = d.used) := Lib.hid (by have := Hk.out; omega)
      have hb2 : k + x.f.data.length ≤ 4611686018427387904 := by have := HK2.out; omega
      have H6 := H5.up3
      rw [hac, files_split] at H6
      obtain ⟨v, H7⟩ := file_open (Hold.assoc.1 H6)
      have c0 := blk_cell H7.blk 0
      have hlen := H7.up2.sl.run_len Tryz.underlying22
      have HL2 := Lib.hid H5.range_left
      have HG := Lib.hid H5
      have Hlt := Lib.hid hlt
      clear H4 H5 H6 H7 hp hlt hac hus hxl
      unfold ptr at hen
      go_wp2
      go_roundw
      case rel => exact ⟨strike lr x.f.name, k + x.f.data.length, fun y hy => Hsub.out y (strike_mem hy), strike_nodup Hnd.out _, by go_num, HK2.out, HG.out⟩
      case measure => rw [HL2.out, HL.out]; exact Hlt.out
theorem used_any {W0 w : World} {R : Asrt} {b : Nat} {d : D} (H : Hold W0 ((DiskA b d).sep R) w) (hu : d.used ≤ 4611686018427387904) :
    Calls Tryz.prog 12 #[ptr b] w fun e w' => e = .returned (.int .i64 d.used) ∧ Hold W0 ((DiskA b d).sep R) w' := by
  obtain ⟨mb, l, hl, H1⟩ := disk_open H
  refine (used_open hl H1 hu).mono ?_
  rintro e w' ⟨he, H2⟩
  exact ⟨he, disk_shut hl H2⟩
end Go.Proofs.YtkbfjgmgckbogaaGreat.Dsk

/-
  done, Fuse, Read of chapter 3.
-/


namespace Go.Proofs.YtkbfjgmgckbogaaGreat.Dsk
open Go.RowKit L Oct
theorem disk_mapAt {W0 w : World} {R : Asrt} {b mb : Nat} {l : List Fl} {cs : Array Value} {t : TypeId} (H : Hold W0 ((Blk b cs t).sep ((MapA mb (ents l)).sep R)) w) : MapAt w mb (ents l) := H.up2.map
theorem run_lookD {w : World} {mb : Nat} {l : List Fl} (h : MapAt w mb (ents l)) (s : ByteArray) :
    (Instr.lookup 38 (.map (some mb)) (.string s) false).run Tryz.prog w = .ok (((l.find? fun x => decide (x.f.name = s)).map fun x => ptr x.blk).getD (.pointer none)) w := by
  rw [run_look (P := Tryz.prog) h Tryz.underlying38 Tryz.underlying9 (Tryz.zeroValue47 w) s, ents_get]
set_option maxHeartbeats 800000 in
theorem done_any {W0 w : World} {R : Asrt} {b : Nat} {d : D} (H : Hold W0 ((DiskA b d).sep R) w) (hl : d.fused = true → 1 ≤ d.left) (hm : d.left ≤ 9223372036854775807) :
    Calls Tryz.prog 13 #[ptr b] w fun e w' => e = .returned (.int .i64 0) ∧ Hold W0 ((DiskA b d.done).sep R) w' := by
  obtain ⟨mb, l, hl', H1⟩ := disk_open H
  have k2 := blk_cell H1.blk 2
  have k3 := blk_cell H1.blk 3
  have f3 := blk_free H1.blk 3
  obtain ⟨room, fs, fused, left⟩ := d
  show Calls Tryz.prog 13 #[.pointer (some ⟨b, 0, none⟩)] w _
  cases fused with
  | false =>
    have HH := Lib.hid H
    clear H H1 hl' hl
    go_enter Tryz.func13, Tryz.ntmps13
    go_wp2
    go_ret
    exact ⟨rfl, HH.out⟩
  | true =>
    have h1 : 1 ≤ left := hl rfl
    have hm : left ≤ 9223372036854775807 := hm
    have HH : Hid (Hold W0 ((DiskA b (D.done ⟨room, fs, true, left⟩)).sep R) (w.setCell ⟨b, 3, none⟩ (.int .i64 ((left : Int) - 1)))) := Lib.hid (by
      have H2 := H1.setB 3 (.int .i64 ((left : Int) - 1))
      have e : (left : Int) - 1 = ((left - 1 : Nat) : Int) := by omega
      refine disk_shut (d := ⟨room, fs, true, left - 1⟩) (mb := mb) (l := l) hl' ?_
      rw [e] at H2 ⊢
      exact H2)
    have hl2 : (1 : Int) ≤ (left : Int) := by omega
    have hm2 : (left : Int) ≤ 9223372036854775807 := by omega
    clear H H1 hl' hl hm h1
    go_enter Tryz.func13, Tryz.ntmps13
    go_wp2
    go_ret
    exact ⟨rfl, HH.out⟩
set_option maxHeartbeats 800000 in
theorem read_no {W0 w : World} {R : Asrt} {b : Nat} {d : D} (H : Hold W0 ((DiskA b d).sep R) w) (s : ByteArray) (hs : getF d.fs s = none) :
    Calls Tryz.prog 39 #[ptr b, .string s] w fun e w' => e = .returned (.tuple #[.slice none 0 0, .int .i64 7]) ∧ w = w' := by
  obtain ⟨mb, l, hl, H1⟩ := disk_open H
  have k1 := blk_cell H1.blk 1
  have hlk := run_lookD (disk_mapAt H1) s
  rw [← hl, get_map, Option.map_eq_none_iff] at hs
  rw [hs] at hlk
  clear H H1 hl hs
  show Calls Tryz.prog 39 #[.pointer (some ⟨b, 0, none⟩), .string s] w _
  go_enter Tryz.func39, Tryz.ntmps39
  go_wp2
  go_ret2
  exact ⟨rfl, rfl⟩
def RetRead (w : World) (l : List UInt8) (e : Ending) (w' : World) : Prop := ∃ v, e = .returned (.tuple #[v, .int .i64 0]) ∧ Own w' w.heap.size 5 1 v l.length (u8s l) ∧ Below w.heap.size w w'
set_option maxRecDepth 100000 in
set_option maxHeartbeats 800000 in
theorem read_yes {W0 w : World} {R : Asrt} {b : Nat} {d : D} (H : Hold W0 ((DiskA b d).sep R) w) (s : ByteArray) {f : AF} (hs : getF d.fs s = some f) (hn : f.data.length ≤ 140737488355328) :
    Calls Tryz.prog 39 #[ptr b, .string s] w (RetRead w f.data) := by
  obtain ⟨mb, l, hl, H1⟩ := disk_open H
  have k1 := blk_cell H1.blk 1
  have hlk0 := run_lookD (disk_mapAt H1) s
  rw [← hl, get_map] at hs
  obtain ⟨x, hx, rfl⟩ := Option.map_eq_some_iff.1 hs
  rw [hx] at hlk0
  have hlk : (Instr.lookup 38 (.map (some mb)) (.string s) false).run Tryz.prog w = .ok (.pointer (some ⟨x.blk, 0, none⟩)) w := hlk0
  clear hlk0
  have hnn := H1.up2.map.nodup
  rw [ents_names] at hnn
  obtain ⟨a, c, rfl, _, _, _⟩ := get_split hnn hx
  have H2 := H1.up3
  rw [files_split] at H2
  obtain ⟨v, H3⟩ := file_open (Hold.assoc.1 H2)
  have c0 := blk_cell H3.blk 0
  have hsl := H3.up2.sl
  clear H H1 hl hs hx hnn H2 H3
  show Calls Tryz.prog 39 #[.pointer (some ⟨b, 0, none⟩), .string s] w _
  go_enter Tryz.func39, Tryz.ntmps39
  go_wp2_with fail
  refine (clone_any v x.f.data _ hsl hn).mono ?_
  rintro e w2 ⟨v2, rfl, ho, hb⟩
  have Ho := Lib.hid ho
  have hb := Lib.hid hb
  clear ho hsl hn c0 k1 hlk
  go_wp2
  go_ret2
  exact ⟨_, rfl, Ho.out, hb.out⟩
end Go.Proofs.YtkbfjgmgckbogaaGreat.Dsk

/-
  The reference's disk (chapter 3) in memory: its own cells, a row of files, and the files' bytes, which are read alone.
-/


namespace Go.Proofs.YtkbfjgmgckbogaaGreat.Dsk
open Go.RowKit L Oct
instance : Inhabited AF := ⟨⟨ByteArray.empty, [], 0⟩⟩
instance : Inhabited (AF × Value) := ⟨(default, undef)⟩
/-- the cells of files -/
def rcl : List (AF × Value) → List Value
  | [] => []
  | p :: r => .string p.1.name :: p.2 :: .int .i64 p.1.lasts :: rcl r
theorem rcl_length : ∀ l, (rcl l).length = l.length * 3
  | [] => rfl
  | p :: r => by simp only [rcl, List.length_cons, rcl_length r]; omega
theorem rcl_append : ∀ a b, rcl (a ++ b) = rcl a ++ rcl b
  | [], _ => rfl
  | p :: r, b => by simp only [rcl, List.cons_append, rcl_append r b]
theorem rcl_get : ∀ (l : List (AF × Value)) (k : Nat), k < l.length → (rcl l).getD (k * 3) undef = .string (l.getD k default).1.name ∧ (rcl l).getD (k * 3 + 1) undef = (l.getD k default).2 ∧ (rcl l).getD (k * 3 + 2) undef = .int .i64 (l.getD k default).1.lasts
  | p :: r, 0, _ => ⟨rfl, rfl, rfl⟩
  | p :: r, k + 1, hk => by
    have := rcl_get r k (by simpa using hk)
    rw [show (k + 1) * 3 + 1 = k * 3 + 1 + 1 + 1 + 1 from by omega, show (k + 1) * 3 + 2 = k * 3 + 2 + 1 + 1 + 1 from by omega, show (k + 1) * 3 = k * 3 + 1 + 1 + 1 from by omega]
    simpa [rcl, List.getD] using this
theorem rcl_take (l : List (AF × Value)) (k : Nat) (hk : k ≤ l.length) : (rcl l).take (k * 3) = rcl (l.take k) := by
  have h := rcl_append (l.take k) (l.drop k)
  rw [List.take_append_drop] at h
  rw [h, List.take_left' (by rw [rcl_length, List.length_take]; omega)]
theorem rcl_drop (l : List (AF × Value)) (k : Nat) (hk : k ≤ l.length) : (rcl l).drop (k * 3) = rcl (l.drop k) := by
  have h := rcl_append (l.take k) (l.drop k)
  rw [List.take_append_drop] at h
  rw [h, List.drop_left' (by rw [rcl_length, List.length_take]; omega)]
theorem rcl_setB : ∀ (l : List (AF × Value)) (k : Nat) (f : AF) (u : Value), k < l.length → f.name = (l.getD k default).1.name → f.lasts = (l.getD k default).1.lasts → (rcl l).set (k * 3 + 1) u = rcl (l.set k (f, u))
  | p :: r, 0, f, u, _, h1, h2 => by
    have h1' : f.name = p.1.name := h1
    have h2' : f.lasts = p.1.lasts := h2
    simp [rcl, h1', h2']
  | p :: r, k + 1, f, u, hk, h1, h2 => by
    have := rcl_setB r k f u (by simpa using hk) (by simpa using h1) (by simpa using h2)
    rw [show (k + 1) * 3 + 1 = k * 3 + 1 + 1 + 1 + 1 from by omega]
    simpa [rcl] using this
theorem rcl_setL : ∀ (l : List (AF × Value)) (k : Nat) (f : AF), k < l.length → f.name = (l.getD k default).1.name → (rcl l).set (k * 3 + 2) (.int .i64 f.lasts) = rcl (l.set k (f, (l.getD k default).2))
  | p :: r, 0, f, _, h1 => by
    have h1' : f.name = p.1.name := h1
    simp [rcl, h1']
  | p :: r, k + 1, f, hk, h1 => by
    have := rcl_setL r k f (by simpa using hk) (by simpa using h1)
    rw [show (k + 1) * 3 + 2 = k * 3 + 2 + 1 + 1 + 1 from by omega]
    simpa [rcl] using this
/-- every value is a slice, that is one cell -/
def SlcV (l : List (AF × Value)) : Prop := ∀ p ∈ l, p.2.oneCell' = true
theorem rcl_one : ∀ l, SlcV l → ∀ u ∈ rcl l, u.oneCell' = true
  | [], _, u, h => by cases h
  | p :: r, hs, u, h => by
    simp only [rcl, List.mem_cons] at h
    rcases h with rfl | rfl | rfl | h
    · rfl
    · exact hs p (List.mem_cons_self ..)
    · rfl
    · exact rcl_one r (fun q hq => hs q (List.mem_cons_of_mem _ hq)) u h
/-- bytes of files, read alone -/
def InB (l : List (AF × Value)) : Asrt where
  at_ F w := (∀ p ∈ l, Sl w 1 p.2 p.1.data.length (u8s p.1.data)) ∧ ∀ k, F k ↔ ∃ p ∈ l, p.2.ownBlock = some k ∧ 0 < p.1.data.length
  stay := by
    rintro F w w' ⟨h1, h2⟩ hk
    refine ⟨fun p hp => ?_, h2⟩
    by_cases hl : 0 < p.1.data.length
    · exact (h1 p hp).kept fun b hb => hk b ((h2 b).2 ⟨p, hp, hb, hl⟩)
    · exact (h1 p hp).none (by omega)
  lt := by
    rintro F w ⟨h1, h2⟩ k hk
    obtain ⟨p, hp, hb, hl⟩ := (h2 k).1 hk
    exact (h1 p hp).lt (by omega) k hb
section
variable {W0 w w' : World} {R : Asrt} {l m : List (AF × Value)} {v : Value} {n : Nat}
theorem _root_.Go.Proofs.YtkbfjgmgckbogaaGreat.L.Hold.inB (h : Hold W0 ((InB l).sep R) w) : ∀ p ∈ l, Sl w 1 p.2 p.1.data.length (u8s p.1.data) := by
  obtain ⟨F, ⟨h1, _⟩, _⟩ := h.take
  exact h1
theorem inB_slc (h : Hold W0 ((InB l).sep R) w) : SlcV l := fun p hp => (h.inB p hp).one
theorem inB_sub (h : Hold W0 ((InB l).sep R) w) (hm : ∀ p ∈ m, ∃ q ∈ l, p.2 = q.2 ∧ p.1.data = q.1.data) : Hold W0 ((InB m).sep R) w := by
  obtain ⟨h1, F, hF, F1, F2, h2, h3, ⟨h4, h5⟩, h6⟩ := h
  have hsub : ∀ k, (∃ p ∈ m, p.2.ownBlock = some k ∧ 0 < p.1.data.length) → F1 k := by
    rintro k ⟨p, hp, hb, hl⟩
    obtain ⟨q, hq, e1, e2⟩ := hm p hp
    exact (h5 k).2 ⟨q, hq, by rw [← e1]; exact hb, by rw [← e2]; exact hl⟩
  refine ⟨h1, fun k => (∃ p ∈ m, p.2.ownBlock = some k ∧ 0 < p.1.data.length) ∨ F2 k, ?_, _, F2, fun k => Iff.rfl, fun k hk => h3 k (hsub k hk), ⟨fun p hp => ?_, fun k => Iff.rfl⟩, h6⟩
  · rintro k (hk | hk)
    · exact hF k ((h2 k).2 (.inl (hsub k hk)))
    · exact hF k ((h2 k).2 (.inr hk))
  · obtain ⟨q, hq, e1, e2⟩ := hm p hp
    rw [e1, e2]
    exact h4 q hq
/-- bytes that were made become a file's -/
theorem inB_join {f : AF} (h : Hold W0 ((Row 5 1 v n (u8s f.data)).sep ((InB l).sep R)) w) (hn : n = f.data.length) : Hold W0 ((InB ((f, v) :: l)).sep R) w := by
  subst hn
  have hs := h.sl
  obtain ⟨h1, F, hF, F1, F2, h2, h3, ⟨ho, h4⟩, F3, F4, h5, h6, ⟨h7, h8⟩, h9⟩ := h
  refine ⟨h1, fun k => (v.ownBlock = some k ∧ 0 < f.data.length) ∨ F3 k ∨ F4 k, ?_, fun k => (v.ownBlock = some k ∧ 0 < f.data.length) ∨ F3 k, F4, fun k => by rw [or_assoc], ?_, ⟨fun p hp => ?_, fun k => ?_⟩, h9⟩
  · rintro k (⟨hk, _⟩ | hk | hk)
    · exact hF k ((h2 k).2 (.inl ((h4 k).2 hk)))
    · exact hF k ((h2 k).2 (.inr ((h5 k).2 (.inl hk))))
    · exact hF k ((h2 k).2 (.inr ((h5 k).2 (.inr hk))))
  · rintro k (⟨hk, _⟩ | hk) hk4
    · exact h3 k ((h4 k).2 hk) ((h5 k).2 (.inr hk4))
    · exact h6 k hk hk4
  · rcases List.mem_cons.1 hp with rfl | hp
    · exact hs
    · exact h7 p hp
  · constructor
    · rintro (⟨hk, hl⟩ | hk)
      · exact ⟨(f, v), List.mem_cons_self .., hk, hl⟩
      · obtain ⟨p, hp, hb⟩ := (h8 k).1 hk
        exact ⟨p, List.mem_cons_of_mem _ hp, hb⟩
    · rintro ⟨p, hp, hb⟩
      rcases List.mem_cons.1 hp with rfl | hp
      · exact .inl hb
      · exact .inr ((h8 k).2 ⟨p, hp, hb⟩)
theorem inB_add {f : AF} (h : Hold W0 ((InB l).sep R) w) (hb : Below w.heap.size w w') (ho : Own w' w.heap.size 5 1 v f.data.length (u8s f.data)) : Hold W0 ((InB ((f, v) :: l)).sep R) w' :=
  inB_join (h.addRow hb ho) rfl
theorem inB_nil (h : Hold W0 R w) : Hold W0 ((InB []).sep R) w :=
  h.add (Below.refl _ _) (A := InB []) (F := fun _ => False) ⟨(fun p hp => by cases hp), (fun k => by simp)⟩ fun _ h => h.elim
/-- a file without bytes more -/
theorem inB_zero {f : AF} (h : Hold W0 ((InB l).sep R) w) (hf : f.data = []) : Hold W0 ((InB ((f, .slice none 0 0) :: l)).sep R) w :=
  inB_join (v := .slice none 0 0) (n := 0) (by rw [hf]; exact h.addNil 5 1) (by rw [hf]; rfl)
end
/-- the reference's disk; left: -1 if there is no fuse -/
structure RD where
  room : Nat
  fs : List AF
  left : Int
def RefA (b : Nat) (r : RD) : Asrt := ExA fun y : Value × { l : List (AF × Value) // l.map Prod.fst = r.fs } =>
  (Blk b #[.int .i64 r.room, y.1, .int .i64 r.left] 43).sep ((Row 56 3 y.1 y.2.1.length (rcl y.2.1)).sep (InB y.2.1))
section
variable {W0 w : World} {R : Asrt} {b : Nat} {r : RD}
theorem ref_open (h : Hold W0 ((RefA b r).sep R) w) : ∃ v l, l.map Prod.fst = r.fs ∧
    Hold W0 ((Blk b #[.int .i64 r.room, v, .int .i64 r.left] 43).sep ((Row 56 3 v l.length (rcl l)).sep ((InB l).sep R))) w := by
  obtain ⟨⟨v, l, hl⟩, h⟩ := h.unex
  exact ⟨v, l, hl, h.perm (by ac_rfl)⟩
theorem ref_shut {v : Value} {l : List (AF × Value)} (hl : l.map Prod.fst = r.fs) (h : Hold W0 ((Blk b #[.int .i64 r.room, v, .int .i64 r.left] 43).sep ((Row 56 3 v l.length (rcl l)).sep ((InB l).sep R))) w) : Hold W0 ((RefA b r).sep R) w :=
  Hold.toex (f := fun y : Value × { l : List (AF × Value) // l.map Prod.fst = r.fs } => (Blk b #[.int .i64 r.room, y.1, .int .i64 r.left] 43).sep ((Row 56 3 y.1 y.2.1.length (rcl y.2.1)).sep (InB y.2.1))) (v, ⟨l, hl⟩) (h.perm (by ac_rfl))
end
theorem elF : ElemOk Tryz.prog 41 56 3 48 := elemOk Tryz.underlying41 Tryz.info56 rfl (by decide)
/-- a file of a row, read -/
theorem _root_.Go.Proofs.YtkbfjgmgckbogaaGreat.L.Sl.atF {w : World} {v : Value} {l : List (AF × Value)} (h : Sl w 3 v l.length (rcl l)) (k : Nat) (i : Int) (hi : i = (k : Int)) (hk : k < l.length) :
    ∃ (A : Addr) (p : AF × Value), (∀ w' : World, (Instr.indexAt 41 v (.int .i64 i)).run Tryz.prog w' = .ok (.pointer (some A)) w') ∧ w.cell? A = some (.string p.1.name) ∧ w.cell? ⟨A.block, A.off + 1, none⟩ = some p.2 ∧ w.cell? ⟨A.block, A.off + 2, none⟩ = some (.int .i64 p.1.lasts) ∧ Hid (p = l.getD k default) := by
  subst hi
  obtain ⟨A, hA, hblk, hcell⟩ := run_indexAt_sl (P := Tryz.prog) h Tryz.underlying41 Tryz.size56 .i64 (k : Int) (by omega) (by omega)
  have h0 := hcell 0 (by omega)
  have h1 := hcell 1 (by omega)
  have h2 := hcell 2 (by omega)
  simp only [Int.toNat_natCast, Nat.add_zero] at h0 h1 h2
  obtain ⟨g0, g1, g2⟩ := rcl_get l k hk
  rw [g0] at h0
  rw [g1] at h1
  rw [g2] at h2
  exact ⟨A, _, hA, h0, h1, h2, Lib.hid rfl⟩
end Go.Proofs.YtkbfjgmgckbogaaGreat.Dsk
