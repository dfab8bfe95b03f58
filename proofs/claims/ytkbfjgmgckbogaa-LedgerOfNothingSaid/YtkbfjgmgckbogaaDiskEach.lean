/-
  Sync and Remove of chapter 3: what is done with each of some files.
-/
import Derived.Test.YtkbfjgmgckbogaaDiskAppend
namespace Go.Proofs.Ytkbfjgmgckbogaa.Dsk
open Go.RowKit L Oct
def eachF (does : ByteArray → List AF → List AF) : D → List ByteArray → D × Nat
  | d, [] => (d, 0)
  | d, s :: r => if d.may [s] = 0 then match getF d.fs s with
      | none => (d, 7)
      | some _ => eachF does { d with fs := does s d.fs }.done r
    else (d, d.may [s])
def syncF (s : ByteArray) (fs : List AF) : List AF := updF fs s fun f => { f with lasts := f.data.length }
def removeF (s : ByteArray) (fs : List AF) : List AF := fs.filter fun f => !decide (f.name = s)
def D.sync (d : D) (names : List ByteArray) : D × Nat := eachF syncF d names
def D.remove (d : D) (names : List ByteArray) : D × Nat := eachF removeF d names
theorem each_left {d : D} (h : d.left ≤ 9223372036854775807) (fs : List AF) : ({ d with fs := fs } : D).done.left ≤ 9223372036854775807 := by
  unfold D.done; dsimp only; split <;> simp <;> omega
set_option maxHeartbeats 800000 in
theorem sync_one {W0 w : World} {R : Asrt} {b mb : Nat} {d : D} {l : List Fl} {s : ByteArray} {x : Fl} (hl : l.map Fl.f = d.fs) (hx : l.find? (fun x => decide (x.f.name = s)) = some x) (H : Hold W0 (OpenA b mb d l R) w) :
    Calls Try.prog 54 #[.string s, ptr x.blk] w fun e w' => e = .returned (.tuple #[]) ∧ Hold W0 ((DiskA b { d with fs := syncF s d.fs }).sep R) w' := by
  have hnn := H.up2.map.nodup
  rw [ents_names] at hnn
  obtain ⟨a, c, hac, hxs, hxa, hxc⟩ := get_split hnn hx
  have h1 : Hold W0 ((FilesA l).sep ((MapA mb (ents l)).sep ((Blk b #[.int .i64 d.room, .map (some mb), .bool d.fused, .int .i64 d.left] 53).sep R))) w := H.perm (by unfold OpenA; ac_rfl)
  have h2 : Hold W0 ((FilesA (a ++ x :: c)).sep ((MapA mb (ents l)).sep ((Blk b #[.int .i64 d.room, .map (some mb), .bool d.fused, .int .i64 d.left] 53).sep R))) w := by rw [← hac]; exact h1
  rw [files_split] at h2
  obtain ⟨v, h3⟩ := file_open (Hold.assoc.1 h2)
  have c0 := blk_cell h3.blk 0
  have c1 := blk_cell h3.blk 1
  have f1 := blk_free h3.blk 1
  have hlen := h3.up2.sl.run_len Try.underlying33
  obtain ⟨x', hx'⟩ : ∃ x' : Fl, x' = ⟨{ x.f with lasts := x.f.data.length }, x.blk⟩ := ⟨_, rfl⟩
  have HH : Hid (Hold W0 ((DiskA b { d with fs := syncF s d.fs }).sep R) (w.setCell ⟨x.blk, 1, none⟩ (.int .i64 x.f.data.length))) := Lib.hid (by
    have h4 := h3.setB 1 (.int .i64 x.f.data.length)
    have h5 : Hold W0 ((FileA x').sep _) _ := file_shut (x := x') (v := v) (by rw [hx']; exact h4)
    refine disk_shut (d := { d with fs := syncF s d.fs }) (mb := mb) (l := a ++ x' :: c) ?_ ?_
    · show _ = syncF s d.fs
      rw [syncF, ← hl, hac, upd_split _ hxs hxa hxc, hx']
    · rw [files_split, show ents (a ++ x' :: c) = ents l from by rw [hac, hx']; simp [ents]]
      exact h5.perm (by ac_rfl))
  obtain ⟨n, hn⟩ : ∃ n, n = x.f.data.length := ⟨_, rfl⟩
  rw [← hn] at hlen HH
  clear hx' h1 h2 h3 hn hac hxs hxa hxc hnn H hl hx
  show Calls Try.prog 54 #[.string s, .pointer (some ⟨x.blk, 0, none⟩)] w _
  go_enter Try.func54, Try.ntmps54
  go_wp2
  go_end0
  exact ⟨rfl, HH.out⟩
theorem strike_split {a c : List Fl} {x : Fl} {s : ByteArray} (hx : x.f.name = s) (ha : ∀ y ∈ a, y.f.name ≠ s) (hc : ∀ y ∈ c, y.f.name ≠ s) : strike (a ++ x :: c) s = a ++ c := by
  have e1 : strike (a ++ x :: c) s = strike a s ++ strike (x :: c) s := by simp [strike]
  have e2 : strike (x :: c) s = strike c s := by simp [strike, hx]
  rw [e1, e2, strike_none ha, strike_none hc]
theorem remove_map (l : List Fl) (s : ByteArray) : removeF s (l.map Fl.f) = (strike l s).map Fl.f := by
  unfold removeF strike
  rw [List.filter_map]; rfl
set_option maxHeartbeats 800000 in
theorem remove_one {W0 w : World} {R : Asrt} {b mb bx : Nat} {d : D} {l : List Fl} {s : ByteArray} {x : Fl} (hl : l.map Fl.f = d.fs) (hx : l.find? (fun x => decide (x.f.name = s)) = some x) (H : Hold W0 (OpenA b mb d l ((Blk bx #[ptr b] 24).sep R)) w) :
    Calls Try.prog 64 #[.string s, ptr x.blk, .pointer (some ⟨bx, 0, none⟩)] w fun e w' => e = .returned (.tuple #[]) ∧ Hold W0 ((DiskA b { d with fs := removeF s d.fs }).sep ((Blk bx #[ptr b] 24).sep R)) w' := by
  have hnn := H.up2.map.nodup
  rw [ents_names] at hnn
  obtain ⟨a, c, hac, hxs, hxa, hxc⟩ := get_split hnn hx
  have h1 : Hold W0 ((MapA mb (ents l)).sep ((Blk b #[.int .i64 d.room, .map (some mb), .bool d.fused, .int .i64 d.left] 53).sep ((Blk bx #[ptr b] 24).sep ((FilesA l).sep R)))) w := H.perm (by unfold OpenA; ac_rfl)
  have c1 := blk_cell h1.up2.blk 1
  have c2 : w.cell? ⟨bx, 0, none⟩ = some (.pointer (some ⟨b, 0, none⟩)) := blk_cell h1.up3.blk 0
  have HY : ∀ w', Hold W0 ((MapA mb (mdel (ents l) s)).sep ((Blk b #[.int .i64 d.room, .map (some mb), .bool d.fused, .int .i64 d.left] 53).sep ((Blk bx #[ptr b] 24).sep ((FilesA l).sep R)))) w' → Hold W0 ((DiskA b { d with fs := removeF s d.fs }).sep ((Blk bx #[ptr b] 24).sep R)) w' := by
    intro w' h
    rw [mdel_ents] at h
    have e1 : strike l s = a ++ c := by rw [hac, strike_split hxs hxa hxc]
    rw [e1] at h
    have h2 : Hold W0 ((FilesA (a ++ x :: c)).sep ((MapA mb (ents (a ++ c))).sep ((Blk b #[.int .i64 d.room, .map (some mb), .bool d.fused, .int .i64 d.left] 53).sep ((Blk bx #[ptr b] 24).sep R)))) w' := by rw [← hac]; exact h.perm (by ac_rfl)
    rw [files_split] at h2
    have h3 := (Hold.assoc.1 h2).drop1
    refine disk_shut (d := { d with fs := removeF s d.fs }) (mb := mb) (l := a ++ c) ?_ (h3.perm (by ac_rfl))
    show _ = removeF s d.fs
    rw [← hl, remove_map, e1]
  clear hac hxs hxa hxc hnn H hl hx
  show Calls Try.prog 64 #[.string s, .pointer (some ⟨x.blk, 0, none⟩), .pointer (some ⟨bx, 0, none⟩)] w _
  go_enter Try.func64, Try.ntmps64
  go_wp2_with (at_delete; refine wpList_mdel h1 rfl _ _ 51 9 rfl Try.underlying51 Try.underlying9 rfl s rfl ?_; intro w2 H2; have HH := Lib.hid (HY _ H2); clear H2)
  go_end0
  exact ⟨rfl, HH.out⟩
end Go.Proofs.Ytkbfjgmgckbogaa.Dsk
