/-
  Texts that the proofs of this seat stand on, one behind the other: contracts of functions and plain lemmas. Conditions: those that each theorem states.
-/
import Derived.Test.YtkbfjgmgckbogaaGreatDiskAppend
import Derived.Test.YtkbfjgmgckbogaaGreatF3
/-
  Sync and Remove of chapter 3: what is done with each of some files.
-/

namespace Go.Proofs.YtkbfjgmgckbogaaGreat.Dsk
open Go.RowKit L Oct
def eachF (does : ByteArray → List AF → List AF) : D → List ByteArray → D × Nat
  | d, [] => (d, 0)
  | d, s :: r => if d.may [s] = 0 then match getF d.fs s with
      | none => (d, 7)
      | some _ => eachF does { d with fs := does s d.fs }.done r
    else (d, d.may [s])
def syncF (s : ByteArray) (fs : List AF) : List AF := updF fs s fun f => { f with lasts := f.data.length }
def removeF (s : ByteArray) (fs : List AF) : List AF := fs.filter fun f => !decide (f.name = s)
def D.sync (d : D) (names : List ByteArray) : D × Nat := eachF syncF d names
def D.remove (d : D) (names : List ByteArray) : D × Nat := eachF removeF d names
theorem each_left {d : D} (h : d.left ≤ 9223372036854775807) (fs : List AF) : ({ d with fs := fs } : D).done.left ≤ 9223372036854775807 := by
  unfold D.done; dsimp only; split <;> simp <;> omega
set_option maxHeartbeats 800000 in
theorem sync_one {W0 w : World} {R : Asrt} {b mb : Nat} {d : D} {l : List Fl} {s : ByteArray} {x : Fl} (hl : l.map Fl.f = d.fs) (hx : l.find? (fun x => decide (x.f.name = s)) = some x) (H : Hold W0 (OpenA b mb d l R) w) :
    Calls Tryz.prog 78 #[.string s, ptr x.blk] w fun e w' => e = .returned (.tuple #[]) ∧ Hold W0 ((DiskA b { d with fs := syncF s d.fs }).sep R) w' := by
  have hnn := H.up2.map.nodup
  rw [ents_names] at hnn
  obtain ⟨a, c, hac, hxs, hxa, hxc⟩ := get_split hnn hx
  have h1 : Hold W0 ((FilesA l).sep ((MapA mb (ents l)).sep ((Blk b #[.int .i64 d.room, .map (some mb), .bool d.fused, .int .i64 d.left] 40).sep R))) w := H.perm (by unfold OpenA; ac_rfl)
  have h2 : Hold W0 ((FilesA (a ++ x :: c)).sep ((MapA mb (ents l)).sep ((Blk b #[.int .i64 d.room, .map (some mb), .bool d.fused, .int .i64 d.left] 40).sep R))) w := by rw [← hac]; exact h1
  rw [files_split] at h2
  obtain ⟨v, h3⟩ := file_open (Hold.assoc.1 h2)
  have c0 := blk_cell h3.blk 0
  have c1 := blk_cell h3.blk 1
  have f1 := blk_free h3.blk 1
  have hlen := h3.up2.sl.run_len Tryz.underlying22
  obtain ⟨x', hx'⟩ : ∃ x' : Fl, x' = ⟨{ x.f with lasts := x.f.data.length }, x.blk⟩ := ⟨_, rfl⟩
  have HH : Hid (Hold W0 ((DiskA b { d with fs := syncF s d.fs }).sep R) (w.setCell ⟨x.blk, 1, none⟩ (.int .i64 x.f.data.length))) := Lib.hid (by
    have h4 := h3.setB 1 (.int .i64 x.f.data.length)
    have h5 : Hold W0 ((FileA x').sep _) _ := file_shut (x := x') (v := v) (by rw [hx']; exact h4)
    refine disk_shut (d := { d with fs := syncF s d.fs }) (mb := mb) (l := a ++ x' :: c) ?_ ?_
    · show _ = syncF s d.fs
      rw [syncF, ← hl, hac, upd_split _ hxs hxa hxc, hx']
    · rw [files_split, show ents (a ++ x' :: c) = ents l from by rw [hac, hx']; simp [ents]]
      exact h5.perm (by ac_rfl))
  obtain ⟨n, hn⟩ : ∃ n, n = x.f.data.length := ⟨_, rfl⟩
  rw [← hn] at hlen HH
  clear hx' h1 h2 h3 hn hac hxs hxa hxc hnn H hl hx
  show Calls Tryz.prog 78 #[.string s, .pointer (some ⟨x.blk, 0, none⟩)] w _
  go_enter Tryz.func78, Tryz.ntmps78
  go_wp2
  go_end0
  exact ⟨rfl, HH.out⟩
theorem strike_split {a c : List Fl} {x : Fl} {s : ByteArray} (hx : x.f.name = s) (ha : ∀ y ∈ a, y.f.name ≠ s) (hc : ∀ y ∈ c, y.f.name ≠ s) : strike (a ++ x :: c) s = a ++ c := by
  have e1 : strike (a ++ x :: c) s = strike a s ++ strike (x :: c) s := by simp [strike]
  have e2 : strike (x :: c) s = strike c s := by simp [strike, hx]
  rw [e1, e2, strike_none ha, strike_none hc]
theorem remove_map (l : List Fl) (s : ByteArray) : removeF s (l.map Fl.f) = (strike l s).map Fl.f := by
  unfold removeF strike
  rw [List.filter_map]; rfl
set_option maxHeartbeats 800000 in
theorem remove_one {W0 w : World} {R : Asrt} {b mb bx : Nat} {d : D} {l : List Fl} {s : ByteArray} {x : Fl} (hl : l.map Fl.f = d.fs) (hx : l.find? (fun x => decide (x.f.name = s)) = some x) (H : Hold W0 (OpenA b mb d l ((Blk bx #[ptr b] 23).sep R)) w) :
    Calls Tryz.prog 87 #[.string s, ptr x.blk, .pointer (some ⟨bx, 0, none⟩)] w fun e w' => e = .returned (.tuple #[]) ∧ Hold W0 ((DiskA b { d with fs := removeF s d.fs }).sep ((Blk bx #[ptr b] 23).sep R)) w' := by
  have hnn := H.up2.map.nodup
  rw [ents_names] at hnn
  obtain ⟨a, c, hac, hxs, hxa, hxc⟩ := get_split hnn hx
  have h1 : Hold W0 ((MapA mb (ents l)).sep ((Blk b #[.int .i64 d.room, .map (some mb), .bool d.fused, .int .i64 d.left] 40).sep ((Blk bx #[ptr b] 23).sep ((FilesA l).sep R)))) w := H.perm (by unfold OpenA; ac_rfl)
  have c1 := blk_cell h1.up2.blk 1
  have c2 : w.cell? ⟨bx, 0, none⟩ = some (.pointer (some ⟨b, 0, none⟩)) := blk_cell h1.up3.blk 0
  have HY : ∀ w', Hold W0 ((MapA mb (mdel (ents l) s)).sep ((Blk b #[.int .i64 d.room, .map (some mb), .bool d.fused, .int .i64 d.left] 40).sep ((Blk bx #[ptr b] 23).sep ((FilesA l).sep R)))) w' → Hold W0 ((DiskA b { d with fs := removeF s d.fs }).sep ((Blk bx #[ptr b] 23).sep R)) w' := by
    intro w' h
    rw [mdel_ents] at h
    have e1 : strike l s = a ++ c := by rw [hac, strike_split hxs hxa hxc]
    rw [e1] at h
    have h2 : Hold W0 ((FilesA (a ++ x :: c)).sep ((MapA mb (ents (a ++ c))).sep ((Blk b #[.int .i64 d.room, .map (some mb), .bool d.fused, .int .i64 d.left] 40).sep ((Blk bx #[ptr b] 23).sep R)))) w' := by rw [← hac]; exact h.perm (by ac_rfl)
    rw [files_split] at h2
    have h3 := (Hold.assoc.1 h2).drop1
    refine disk_shut (d := { d with fs := removeF s d.fs }) (mb := mb) (l := a ++ c) ?_ (h3.perm (by ac_rfl))
    show _ = removeF s d.fs
    rw [← hl, remove_map, e1]
  clear hac hxs hxa hxc hnn H hl hx
  show Calls Tryz.prog 87 #[.string s, .pointer (some ⟨x.blk, 0, none⟩), .pointer (some ⟨bx, 0, none⟩)] w _
  go_enter Tryz.func87, Tryz.ntmps87
  go_wp2_with (at_delete; refine wpList_mdel h1 rfl _ _ 38 9 rfl Tryz.underlying38 Tryz.underlying9 rfl s rfl ?_; intro w2 H2; have HH := Lib.hid (HY _ H2); clear H2)
  go_end0
  exact ⟨rfl, HH.out⟩
end Go.Proofs.YtkbfjgmgckbogaaGreat.Dsk

/-
  each of chapter 3, with Sync's and with Remove's closure. (Written by wip/tools/each_gen.py.)
-/

namespace Go.Proofs.YtkbfjgmgckbogaaGreat.Dsk
open Go.RowKit L Oct
def EachRel (W0 : World) (R : Asrt) (b : Nat) (does : ByteArray → List AF → List AF) (d : D) (names : List ByteArray) (i : Value) (wr : World) : Prop :=
  ∃ (k : Nat) (d' : D), k ≤ names.length ∧ i = .int .i64 k ∧ eachF does d' (names.drop k) = eachF does d names ∧ d'.left ≤ 9223372036854775807 ∧ Hold W0 ((DiskA b d').sep R) wr
theorem each_step {does : ByteArray → List AF → List AF} {d : D} {names : List ByteArray} {k : Nat} (hk : k < names.length) :
    (d.may [names.getD k ByteArray.empty] ≠ 0 → eachF does d (names.drop k) = (d, d.may [names.getD k ByteArray.empty])) ∧
    (d.may [names.getD k ByteArray.empty] = 0 → (getF d.fs (names.getD k ByteArray.empty) = none → eachF does d (names.drop k) = (d, 7)) ∧
      (∀ f, getF d.fs (names.getD k ByteArray.empty) = some f → eachF does d (names.drop k) = eachF does { d with fs := does (names.getD k ByteArray.empty) d.fs }.done (names.drop (k + 1)))) := by
  have e : names.getD k ByteArray.empty = names[k] := by simp [List.getD, hk]
  rw [e, List.drop_eq_getElem_cons hk]
  refine ⟨fun h => by rw [eachF, if_neg h], fun h => ⟨fun hn => by rw [eachF, if_pos h, hn], fun f hf => by rw [eachF, if_pos h, hf]⟩⟩
set_option maxRecDepth 100000 in
set_option maxHeartbeats 1600000 in
theorem each_sync {W0 w : World} {R : Asrt} {b : Nat} {d : D} (H : Hold W0 ((DiskA b d).sep (R)) w) (hd : d.left ≤ 9223372036854775807) (v : Value) (names : List ByteArray) (hv : Reads W0 R 1 v names.length (strs names)) :
    Calls Tryz.prog 77 #[ptr b, v, .func (.func 78) #[] #[]] w fun e w' => e = .returned (.int .i64 (eachF syncF d names).2) ∧ Hold W0 ((DiskA b (eachF syncF d names).1).sep (R)) w' := by
  have hsl := fun (w' : World) (d' : D) (h : Hold W0 ((DiskA b d').sep (R)) w') => hv.at h.drop1
  have hlen := (hsl w d H).run_len Tryz.underlying68
  have hmx := (hsl w d H).le'
  have HSL := Lib.hid hsl
  have HH := Lib.hid H
  have Hd := Lib.hid hd
  clear H hd hsl hv
  show Calls Tryz.prog 77 #[.pointer (some ⟨b, 0, none⟩), v, .func (.func 78) #[] #[]] w _
  go_enter Tryz.func77, Tryz.ntmps77
  go_wp2
  go_loopw [15] (fun i wr => EachRel W0 (R) b syncF d names i wr) (fun i _ => names.length - (intOf i).toNat)
  case atStart => exact ⟨0, d, Nat.zero_le _, rfl, by simp, Hd.out, HH.out⟩
  case round =>
    obtain ⟨k, d', hk, rfl, heq, hd', hH⟩ := hrel
    have Heq := Lib.hid heq
    have Hd' := Lib.hid hd'
    have HW := Lib.hid hH
    clear heq hd' hH
    by_cases hlt : k < names.length
    · obtain ⟨A, u, hA, hblk, hc, Hu⟩ := (HSL.out wr d' HW.out).at1 (P := Tryz.prog) Tryz.underlying68 Tryz.size9 k hlt
      rw [Hu.out, strs_get names k hlt] at hc
      have hst := Lib.hid (each_step (does := syncF) (d := d') hlt)
      obtain ⟨s, hs⟩ : ∃ s, s = names.getD k ByteArray.empty := ⟨_, rfl⟩
      rw [← hs] at hc hst
      clear hs hblk Hu
      have HA : Hid (Hold W0 ((DiskA b d').sep (R)) (wr.alloc (.cells #[.string s] 9))) := Lib.hid (HW.out.keeps ((Below.refl _ _).alloc (Nat.le_refl _) _))
      by_cases hm : d'.may [s] = 0
      · have HM := Lib.hid hm
        obtain ⟨mb, l, hl, H1⟩ := disk_open HA.out
        have Hl := Lib.hid hl
        have HO : Hid (Hold W0 (OpenA b mb d' l (R)) (wr.alloc (.cells #[.string s] 9))) := Lib.hid H1
        have k1 := blk_cell H1.blk 1
        have hlk0 := run_lookD (disk_mapAt H1) s
        clear hl H1 hm
        cases hx : l.find? (fun x => decide (x.f.name = s)) with
        | none =>
          rw [hx] at hlk0
          have hlk : (Instr.lookup 38 (.map (some mb)) (.string s) false).run Tryz.prog (wr.alloc (.cells #[.string s] 9)) = .ok (.pointer none) (wr.alloc (.cells #[.string s] 9)) := hlk0
          have hres := Lib.hid ((hst.out.2 HM.out).1 (by rw [← Hl.out, get_map, hx]; rfl))
          clear hx hlk0
          go_wp2_with (go_at_call 10; refine (may_any HA.out _ [s] (sl_built wr [.string s] 9 (by unfold maxLen; simp))).mono ?_; rintro e w2 ⟨rfl, rfl⟩; rw [HM.out])
          go_ret
          rw [← Heq.out, hres.out]
          exact ⟨rfl, HA.out⟩
        | some x =>
          rw [hx] at hlk0
          have hlk : (Instr.lookup 38 (.map (some mb)) (.string s) false).run Tryz.prog (wr.alloc (.cells #[.string s] 9)) = .ok (.pointer (some ⟨x.blk, 0, none⟩)) (wr.alloc (.cells #[.string s] 9)) := hlk0
          have hres := Lib.hid ((hst.out.2 HM.out).2 x.f (by rw [← Hl.out, get_map, hx]; rfl))
          have Hx := Lib.hid hx
          have hlf := may_left HM.out
          clear hx hlk0
          go_wp2_with (first
            | (go_at_call 10; refine (may_any HA.out _ [s] (sl_built wr [.string s] 9 (by unfold maxLen; simp))).mono ?_; rintro e w2 ⟨rfl, rfl⟩; rw [HM.out])
            | (go_at_call 78; refine (sync_one Hl.out Hx.out HO.out).mono ?_; rintro e w3 ⟨rfl, h3⟩; have H3 := Lib.hid h3; clear h3)
            | (go_at_call 13; refine (done_any (W0 := W0) (R := R) (b := b) (d := { d' with fs := syncF s d'.fs }) H3.out hlf.out Hd'.out).mono ?_; rintro e w4 ⟨rfl, h4⟩; have H4 := Lib.hid h4; clear h4))
          go_roundw
          case rel => exact ⟨k + 1, _, by omega, by go_num, by rw [← Heq.out, hres.out], each_left Hd'.out _, H4.out⟩
          case measure => simp [intOf]; omega
      · have hres := Lib.hid (hst.out.1 hm)
        obtain ⟨m, hmm⟩ : ∃ m : Nat, m = d'.may [s] := ⟨_, rfl⟩
        have hm0 : ((m : Int) == 0) = false := by rw [beq_eq_false_iff_ne]; omega
        rw [← hmm] at hres
        have Hm := Lib.hid hmm
        clear hmm hm
        go_wp2_with (go_at_call 10; refine (may_any HA.out _ [s] (sl_built wr [.string s] 9 (by unfold maxLen; simp))).mono ?_; rintro e w2 ⟨rfl, rfl⟩; rw [← Hm.out])
        go_ret
        rw [← Heq.out, hres.out]
        exact ⟨rfl, HA.out⟩
    · have hend : Hid (eachF syncF d names = (d', 0)) := Lib.hid (by rw [← Heq.out, List.drop_eq_nil_of_le (by omega)]; rfl)
      go_wp2
      go_ret
      rw [hend.out]
      exact ⟨rfl, HW.out⟩
set_option maxRecDepth 100000 in
set_option maxHeartbeats 1600000 in
theorem each_remove {W0 w : World} {R : Asrt} {b bx : Nat} {d : D} (H : Hold W0 ((DiskA b d).sep ((Blk bx #[ptr b] 23).sep R)) w) (hd : d.left ≤ 9223372036854775807) (v : Value) (names : List ByteArray) (hv : Reads W0 R 1 v names.length (strs names)) :
    Calls Tryz.prog 77 #[ptr b, v, .func (.func 87) #[] #[.pointer (some ⟨bx, 0, none⟩)]] w fun e w' => e = .returned (.int .i64 (eachF removeF d names).2) ∧ Hold W0 ((DiskA b (eachF removeF d names).1).sep ((Blk bx #[ptr b] 23).sep R)) w' := by
  have hsl := fun (w' : World) (d' : D) (h : Hold W0 ((DiskA b d').sep ((Blk bx #[ptr b] 23).sep R)) w') => hv.at h.drop1.drop1
  have hlen := (hsl w d H).run_len Tryz.underlying68
  have hmx := (hsl w d H).le'
  have HSL := Lib.hid hsl
  have HH := Lib.hid H
  have Hd := Lib.hid hd
  clear H hd hsl hv
  show Calls Tryz.prog 77 #[.pointer (some ⟨b, 0, none⟩), v, .func (.func 87) #[] #[.pointer (some ⟨bx, 0, none⟩)]] w _
  go_enter Tryz.func77, Tryz.ntmps77
  go_wp2
  go_loopw [15] (fun i wr => EachRel W0 ((Blk bx #[ptr b] 23).sep R) b removeF d names i wr) (fun i _ => names.length - (intOf i).toNat)
  case atStart => exact ⟨0, d, Nat.zero_le _, rfl, by simp, Hd.out, HH.out⟩
  case round =>
    obtain ⟨k, d', hk, rfl, heq, hd', hH⟩ := hrel
    have Heq := Lib.hid heq
    have Hd' := Lib.hid hd'
    have HW := Lib.hid hH
    clear heq hd' hH
    by_cases hlt : k < names.length
    · obtain ⟨A, u, hA, hblk, hc, Hu⟩ := (HSL.out wr d' HW.out).at1 (P := Tryz.prog) Tryz.underlying68 Tryz.size9 k hlt
      rw [Hu.out, strs_get names k hlt] at hc
      have hst := Lib.hid (each_step (does := removeF) (d := d') hlt)
      obtain ⟨s, hs⟩ : ∃ s, s = names.getD k ByteArray.empty := ⟨_, rfl⟩
      rw [← hs] at hc hst
      clear hs hblk Hu
      have HA : Hid (Hold W0 ((DiskA b d').sep ((Blk bx #[ptr b] 23).sep R)) (wr.alloc (.cells #[.string s] 9))) := Lib.hid (HW.out.keeps ((Below.refl _ _).alloc (Nat.le_refl _) _))
      by_cases hm : d'.may [s] = 0
      · have HM := Lib.hid hm
        obtain ⟨mb, l, hl, H1⟩ := disk_open HA.out
        have Hl := Lib.hid hl
        have HO : Hid (Hold W0 (OpenA b mb d' l ((Blk bx #[ptr b] 23).sep R)) (wr.alloc (.cells #[.string s] 9))) := Lib.hid H1
        have k1 := blk_cell H1.blk 1
        have hlk0 := run_lookD (disk_mapAt H1) s
        clear hl H1 hm
        cases hx : l.find? (fun x => decide (x.f.name = s)) with
        | none =>
          rw [hx] at hlk0
          have hlk : (Instr.lookup 38 (.map (some mb)) (.string s) false).run Tryz.prog (wr.alloc (.cells #[.string s] 9)) = .ok (.pointer none) (wr.alloc (.cells #[.string s] 9)) := hlk0
          have hres := Lib.hid ((hst.out.2 HM.out).1 (by rw [← Hl.out, get_map, hx]; rfl))
          clear hx hlk0
          go_wp2_with (go_at_call 10; refine (may_any HA.out _ [s] (sl_built wr [.string s] 9 (by unfold maxLen; simp))).mono ?_; rintro e w2 ⟨rfl, rfl⟩; rw [HM.out])
          go_ret
          rw [← Heq.out, hres.out]
          exact ⟨rfl, HA.out⟩
        | some x =>
          rw [hx] at hlk0
          have hlk : (Instr.lookup 38 (.map (some mb)) (.string s) false).run Tryz.prog (wr.alloc (.cells #[.string s] 9)) = .ok (.pointer (some ⟨x.blk, 0, none⟩)) (wr.alloc (.cells #[.string s] 9)) := hlk0
          have hres := Lib.hid ((hst.out.2 HM.out).2 x.f (by rw [← Hl.out, get_map, hx]; rfl))
          have Hx := Lib.hid hx
          have hlf := may_left HM.out
          clear hx hlk0
          go_wp2_with (first
            | (go_at_call 10; refine (may_any HA.out _ [s] (sl_built wr [.string s] 9 (by unfold maxLen; simp))).mono ?_; rintro e w2 ⟨rfl, rfl⟩; rw [HM.out])
            | (go_at_call 87; refine (remove_one Hl.out Hx.out HO.out).mono ?_; rintro e w3 ⟨rfl, h3⟩; have H3 := Lib.hid h3; clear h3)
            | (go_at_call 13; refine (done_any (W0 := W0) (R := (Blk bx #[ptr b] 23).sep R) (b := b) (d := { d' with fs := removeF s d'.fs }) H3.out hlf.out Hd'.out).mono ?_; rintro e w4 ⟨rfl, h4⟩; have H4 := Lib.hid h4; clear h4))
          go_roundw
          case rel => exact ⟨k + 1, _, by omega, by go_num, by rw [← Heq.out, hres.out], each_left Hd'.out _, H4.out⟩
          case measure => simp [intOf]; omega
      · have hres := Lib.hid (hst.out.1 hm)
        obtain ⟨m, hmm⟩ : ∃ m : Nat, m = d'.may [s] := ⟨_, rfl⟩
        have hm0 : ((m : Int) == 0) = false := by rw [beq_eq_false_iff_ne]; omega
        rw [← hmm] at hres
        have Hm := Lib.hid hmm
        clear hmm hm
        go_wp2_with (go_at_call 10; refine (may_any HA.out _ [s] (sl_built wr [.string s] 9 (by unfold maxLen; simp))).mono ?_; rintro e w2 ⟨rfl, rfl⟩; rw [← Hm.out])
        go_ret
        rw [← Heq.out, hres.out]
        exact ⟨rfl, HA.out⟩
    · have hend : Hid (eachF removeF d names = (d', 0)) := Lib.hid (by rw [← Heq.out, List.drop_eq_nil_of_le (by omega)]; rfl)
      go_wp2
      go_ret
      rw [hend.out]
      exact ⟨rfl, HW.out⟩
end Go.Proofs.YtkbfjgmgckbogaaGreat.Dsk

/-
  Truncate and Rename of chapter 3.
-/


namespace Go.Proofs.YtkbfjgmgckbogaaGreat.Dsk
open Go.RowKit L Oct
def truncF (s : ByteArray) (n : Nat) (fs : List AF) : List AF := updF fs s fun f => { f with data := f.data.take n, lasts := min f.lasts n }
def D.truncate (d : D) (s : ByteArray) (n : Int) : D × Nat :=
  if d.may [s] = 0 then match getF d.fs s with
    | none => (d, 7)
    | some f => if n < 0 ∨ (f.data.length : Int) < n then (d, 1) else ({ d with fs := truncF s n.toNat d.fs }.done, 0)
  else (d, d.may [s])
theorem tr_u8s (l : List UInt8) (n : Nat) : (u8s l).take n = u8s (l.take n) := by simp [u8s]
theorem tr_left {d : D} (h : d.left ≤ 9223372036854775807) (fs : List AF) : ({ d with fs := fs } : D).left ≤ 9223372036854775807 := h
set_option maxRecDepth 100000 in
set_option maxHeartbeats 1600000 in
theorem truncate_any {W0 w : World} {R : Asrt} {b : Nat} {d : D} (H : Hold W0 ((DiskA b d).sep R) w) (hd : d.left ≤ 9223372036854775807) (hlen : ∀ f ∈ d.fs, f.data.length ≤ 4611686018427387904 ∧ f.lasts ≤ 4611686018427387904) (s : ByteArray) (n : Int) :
    Calls Tryz.prog 63 #[ptr b, .string s, .int .i64 n] w (RetApp W0 R b (d.truncate s n)) := by
  have HA : Hid (Hold W0 ((DiskA b d).sep R) (w.alloc (.cells #[.string s] 9))) := Lib.hid (H.keeps ((Below.refl _ _).alloc (Nat.le_refl _) _))
  have Hd := Lib.hid hd
  have Hln := Lib.hid hlen
  clear H hd hlen
  by_cases hm : d.may [s] = 0
  · have HM := Lib.hid hm
    have hlf := may_left hm
    obtain ⟨mb, l, hl, H1⟩ := disk_open HA.out
    have Hl := Lib.hid hl
    have HO := Lib.hid H1
    have k1 := blk_cell H1.blk 1
    have hlk0 := run_lookD (disk_mapAt H1) s
    have hnn := H1.up2.map.nodup
    rw [ents_names] at hnn
    clear hl H1 hm
    cases hx : l.find? (fun x => decide (x.f.name = s)) with
    | none =>
      rw [hx] at hlk0
      have hlk : (Instr.lookup 38 (.map (some mb)) (.string s) false).run Tryz.prog (w.alloc (.cells #[.string s] 9)) = .ok (.pointer none) (w.alloc (.cells #[.string s] 9)) := hlk0
      have hres : Hid (d.truncate s n = (d, 7)) := Lib.hid (by rw [D.truncate, if_pos HM.out, ← Hl.out, get_map, hx]; rfl)
      clear hx hlk0 hnn
      show Calls Tryz.prog 63 #[.pointer (some ⟨b, 0, none⟩), .string s, .int .i64 n] w _
      go_enter Tryz.func63, Tryz.ntmps63
      go_wp2_with (go_at_call 10; refine (may_any HA.out _ [s] (sl_built w [.string s] 9 (by unfold maxLen; simp))).mono ?_; rintro e w2 ⟨rfl, rfl⟩; rw [HM.out])
      go_ret
      rw [hres.out]
      exact ⟨rfl, HA.out⟩
    | some x =>
      rw [hx] at hlk0
      have hlk : (Instr.lookup 38 (.map (some mb)) (.string s) false).run Tryz.prog (w.alloc (.cells #[.string s] 9)) = .ok (.pointer (some ⟨x.blk, 0, none⟩)) (w.alloc (.cells #[.string s] 9)) := hlk0
      have hgs : getF d.fs s = some x.f := by rw [← Hl.out, get_map, hx]; rfl
      have hxd := (Hln.out x.f (List.mem_of_find?_eq_some hgs))
      obtain ⟨a, c, hac, hxs, hxa, hxc⟩ := get_split hnn hx
      have h2 : Hold W0 ((FilesA (a ++ x :: c)).sep ((MapA mb (ents l)).sep ((Blk b #[.int .i64 d.room, .map (some mb), .bool d.fused, .int .i64 d.left] 40).sep R))) (w.alloc (.cells #[.string s] 9)) := by rw [← hac]; exact HO.out.perm (by ac_rfl)
      rw [files_split] at h2
      obtain ⟨v, h3⟩ := file_open (Hold.assoc.1 h2)
      obtain ⟨ao, cap, rfl⟩ := h3.up2.own.shape
      have c0 := blk_cell h3.blk 0
      have hln := h3.up2.sl.run_len Tryz.underlying22
      by_cases hb : n < 0 ∨ (x.f.data.length : Int) < n
      · have hres : Hid (d.truncate s n = (d, 1)) := Lib.hid (by rw [D.truncate, if_pos HM.out, hgs]; exact if_pos hb)
        obtain ⟨N, hN⟩ : ∃ N, N = x.f.data.length := ⟨_, rfl⟩
        rw [← hN] at c0 hln hb
        clear hx hlk0 hnn hgs hxd hac hxs hxa hxc h2 h3 hN
        show Calls Tryz.prog 63 #[.pointer (some ⟨b, 0, none⟩), .string s, .int .i64 n] w _
        by_cases hb1 : n < 0
        · clear hb
          go_enter Tryz.func63, Tryz.ntmps63
          go_wp2_with (go_at_call 10; refine (may_any HA.out _ [s] (sl_built w [.string s] 9 (by unfold maxLen; simp))).mono ?_; rintro e w2 ⟨rfl, rfl⟩; rw [HM.out])
          go_ret
          rw [hres.out]
          exact ⟨rfl, HA.out⟩
        · have hb2 : (N : Int) < n := by omega
          clear hb
          go_enter Tryz.func63, Tryz.ntmps63
          go_wp2_with (go_at_call 10; refine (may_any HA.out _ [s] (sl_built w [.string s] 9 (by unfold maxLen; simp))).mono ?_; rintro e w2 ⟨rfl, rfl⟩; rw [HM.out])
          go_ret
          rw [hres.out]
          exact ⟨rfl, HA.out⟩
      · obtain ⟨m, rfl⟩ : ∃ m : Nat, n = m := ⟨n.toNat, by omega⟩
        have hmN : m ≤ x.f.data.length := by omega
        have hres : Hid (d.truncate s m = ({ d with fs := truncF s m d.fs }.done, 0)) := Lib.hid (by rw [D.truncate, if_pos HM.out, hgs]; exact if_neg hb)
        have hsl := run_slice_cut (P := Tryz.prog) h3.up2.own Tryz.underlying22 Tryz.size5 hmN (k := .i64) (k' := .i64)
        have c1 := blk_cell h3.blk 1
        have f0 := blk_free h3.blk 0
        have f1 := blk_free h3.blk 1
        obtain ⟨x', hx'⟩ : ∃ x' : Fl, x' = ⟨{ x.f with data := x.f.data.take m, lasts := min x.f.lasts m }, x.blk⟩ := ⟨_, rfl⟩
        have HF : Hid (Hold W0 ((DiskA b { d with fs := truncF s m d.fs }).sep R) (((w.alloc (.cells #[.string s] 9)).setCell ⟨x.blk, 0, none⟩ (.slice ao m m)).setCell ⟨x.blk, 1, none⟩ (.int .i64 ((min x.f.lasts m : Nat) : Int)))) := Lib.hid (by
          have h4 := h3.up2.cut hmN
          rw [Nat.mul_one, tr_u8s] at h4
          have h5 := (h4.up2.setB 0 (.slice ao m m)).setB 1 (.int .i64 ((min x.f.lasts m : Nat) : Int))
          have hlen' : (x.f.data.take m).length = m := by rw [List.length_take]; omega
          have h6 : Hold W0 ((FileA x').sep _) _ := file_shut (x := x') (v := .slice ao m m) (by
            rw [hx']
            show Hold W0 ((Blk x.blk #[.slice ao m m, .int .i64 ((min x.f.lasts m : Nat) : Int)] 50).sep ((Row 5 1 _ (x.f.data.take m).length (u8s (x.f.data.take m))).sep _)) _
            rw [hlen']
            exact h5)
          refine disk_shut (d := { d with fs := truncF s m d.fs }) (mb := mb) (l := a ++ x' :: c) ?_ ?_
          · show _ = truncF s m d.fs
            rw [truncF, ← Hl.out, hac, upd_split _ hxs hxa hxc, hx']
          · rw [files_split, show ents (a ++ x' :: c) = ents l from by rw [hac, hx']; simp [ents]]
            exact h6.perm (by ac_rfl))
        obtain ⟨N, hN⟩ : ∃ N, N = x.f.data.length := ⟨_, rfl⟩
        obtain ⟨ls, hls⟩ : ∃ ls, ls = x.f.lasts := ⟨_, rfl⟩
        obtain ⟨xb, hxb⟩ : ∃ xb, xb = x.blk := ⟨_, rfl⟩
        rw [← hxb] at HF c0 c1 f0 f1 hlk
        rw [← hls] at HF c1 hxd
        rw [← hN] at c0 hln hmN hb hsl
        have hls2 : (ls : Int) ≤ 4611686018427387904 := by omega
        have hm0 : (0 : Int) ≤ (m : Int) := by omega
        have hmN2 : (m : Int) ≤ (N : Int) := by omega
        have hmin : min (ls : Int) (m : Int) = ((min ls m : Nat) : Int) := by omega
        have hn1 := World.new_ne _ _ c1
        clear hx hlk0 hnn hgs hxd hac hxs hxa hxc h2 h3 hN hls hxb hb hx'
        show Calls Tryz.prog 63 #[.pointer (some ⟨b, 0, none⟩), .string s, .int .i64 (m : Int)] w _
        go_enter Tryz.func63, Tryz.ntmps63
        go_wp2_with (first
          | (go_at_call 10; refine (may_any HA.out _ [s] (sl_built w [.string s] 9 (by unfold maxLen; simp))).mono ?_; rintro e w2 ⟨rfl, rfl⟩; rw [HM.out])
          | (go_at_call 13; refine (done_any (W0 := W0) (R := R) (b := b) (d := { d with fs := truncF s m d.fs }) HF.out hlf.out Hd.out).mono ?_; rintro e w4 ⟨rfl, h4⟩; have H4 := Lib.hid h4; clear h4))
        go_ret
        rw [hres.out]
        exact ⟨rfl, H4.out⟩
  · have hres : Hid (d.truncate s n = (d, d.may [s])) := Lib.hid (by rw [D.truncate, if_neg hm])
    obtain ⟨m, hmm⟩ : ∃ m : Nat, m = d.may [s] := ⟨_, rfl⟩
    have hm0 : ((m : Int) == 0) = false := by rw [beq_eq_false_iff_ne]; omega
    rw [← hmm] at hres
    have Hm := Lib.hid hmm
    clear hmm hm
    show Calls Tryz.prog 63 #[.pointer (some ⟨b, 0, none⟩), .string s, .int .i64 n] w _
    go_enter Tryz.func63, Tryz.ntmps63
    go_wp2_with (go_at_call 10; refine (may_any HA.out _ [s] (sl_built w [.string s] 9 (by unfold maxLen; simp))).mono ?_; rintro e w2 ⟨rfl, rfl⟩; rw [← Hm.out])
    go_ret
    rw [hres.out]
    exact ⟨rfl, HA.out⟩
end Go.Proofs.YtkbfjgmgckbogaaGreat.Dsk
