/-
  Append of chapter 3.
-/
import Derived.Test.YtkbfjgmgckbogaaGreatF7
import Derived.Test.YtkbfjgmgckbogaaGreatOctetJoin
import Derived.Deep.RegionHeld3
import Derived.IntWalk
import Derived.Deep.DeepCutAuto
import Derived.Deep.RegionWith
import Derived.Maps.OwnSet
namespace Go.Proofs.YtkbfjgmgckbogaaGreat.Dsk
open Go.RowKit L Oct
/-- a file's bytes go on -/
def putF (fs : List AF) (s : ByteArray) (l : List UInt8) : List AF :=
  match getF fs s with
  | none => fs ++ [⟨s, l, 0⟩]
  | some _ => updF fs s fun f => { f with data := f.data ++ l }
def D.full (d : D) (s : ByteArray) (l : List UInt8) : Bool := decide (d.room < d.used + l.length) || ((getF d.fs s).isNone && decide (4096 ≤ d.fs.length))
def D.append (d : D) (s : ByteArray) (l : List UInt8) : D × Nat :=
  if d.may [s] = 0 then if d.full s l then (d, 6) else ({ d with fs := putF d.fs s l }.done, 0) else (d, d.may [s])
/-- a disk whose numbers are in bounds -/
structure D.Ok (d : D) : Prop where
  room : d.room ≤ 1073741824
  used : d.used ≤ d.room
  left : d.left ≤ 9223372036854775807
  lasts : ∀ f ∈ d.fs, f.lasts ≤ f.data.length
theorem used_mem : ∀ {fs : List AF} {f : AF}, f ∈ fs → f.data.length ≤ used fs
  | [], _, h => by cases h
  | x :: r, f, h => by
    rw [used_cons]
    rcases List.mem_cons.1 h with rfl | h
    · omega
    · have := used_mem h; omega
theorem D.Ok.len {d : D} (h : d.Ok) {f : AF} (hf : f ∈ d.fs) : f.data.length ≤ 1073741824 := by
  have h1 : f.data.length ≤ d.used := used_mem hf
  have := h.used; have := h.room; omega
theorem ite_no {c : Prop} [Decidable c] {A B : Prop} (h : ¬ c) (hB : B) : if c then A else B := by rw [if_neg h]; exact hB
/-- new bytes among what is held, or none at all -/
def RowB (v : Value) (l : List UInt8) : Asrt where
  at_ F w := (Own w 0 5 1 v l.length (u8s l) ∧ ∀ k, F k ↔ v.ownBlock = some k) ∨ ((l = [] ∧ ∃ a, v = .slice (some a) 0 0) ∧ ∀ k, ¬ F k)
  stay := by
    rintro F w w' (⟨h, hF⟩ | h) hk
    · exact .inl ⟨h.stay fun k hk' => hk k ((hF k).2 hk'), hF⟩
    · exact .inr h
  lt := by
    rintro F w (⟨h, hF⟩ | h) k hk
    · exact (h.lt k ((hF k).1 hk)).2
    · exact (h.2 k hk).elim
theorem Hold.addB {W0 w w' : World} {R : Asrt} {v : Value} {l : List UInt8} (h : Hold W0 R w) (hb : Below w.heap.size w w') (ho : OwnB w' w.heap.size v l) : Hold W0 ((RowB v l).sep R) w' := by
  rcases ho with ho | ho
  · exact h.add hb (A := RowB v l) (F := fun k => v.ownBlock = some k) (.inl ⟨ho.zero, fun k => Iff.rfl⟩) fun k hk => (ho.lt k hk).1
  · exact h.add hb (A := RowB v l) (F := fun _ => False) (.inr ⟨ho, fun k => id⟩) fun k hk => hk.elim
theorem Hold.rowB {W0 w : World} {R : Asrt} {v : Value} {l : List UInt8} (h : Hold W0 ((RowB v l).sep R) w) : Sl w 1 v l.length (u8s l) := by
  obtain ⟨F, h⟩ := h.fst
  rcases h with h | h
  · exact h.1.sl
  · exact OwnB.sl (B := 0) (.inr h.1)
def OpenA (b mb : Nat) (d : D) (l : List Fl) (R : Asrt) : Asrt := (Blk b #[.int .i64 d.room, .map (some mb), .bool d.fused, .int .i64 d.left] 40).sep ((MapA mb (ents l)).sep ((FilesA l).sep R))
structure Opened (W0 : World) (R : Asrt) (b mb : Nat) (d : D) (l : List Fl) (vb : Value) (lb : List UInt8) (w : World) : Prop where
  h : Hold W0 ((RowB vb lb).sep (OpenA b mb d l R)) w
def AppS (W0 : World) (R : Asrt) (b mb : Nat) (d : D) (l : List Fl) (vb : Value) (lb : List UInt8) (rm ln : Nat) (w : World) : Prop :=
  Opened W0 R b mb d l vb lb w ∧ w.cell? ⟨b, 0, none⟩ = some (.int .i64 rm) ∧ w.cell? ⟨b, 1, none⟩ = some (.map (some mb)) ∧
    (Builtin.len_ #[38] 3 #[.map (some mb)]).run Tryz.prog w = .ok (.int .i64 ln) w
theorem appS {W0 w : World} {R : Asrt} {b mb : Nat} {d : D} {l : List Fl} {vb : Value} {lb : List UInt8} (h : Hold W0 ((RowB vb lb).sep (OpenA b mb d l R)) w) : AppS W0 R b mb d l vb lb d.room l.length w := by
  refine ⟨⟨h⟩, blk_cell (Hold.blk h.drop1) 0, blk_cell (Hold.blk h.drop1) 1, ?_⟩
  have := run_mlen (P := Tryz.prog) (Hold.map (Hold.up2 h.drop1)) Tryz.underlying38 3
  rwa [show (ents l).length = l.length from by simp [ents]] at this
theorem used_app {W0 w : World} {R : Asrt} {b mb : Nat} {d : D} {l : List Fl} {vb : Value} {lb : List UInt8} {rm ln : Nat} (hl : l.map Fl.f = d.fs) (hu : d.used ≤ 4611686018427387904) (hr : rm = d.room) (hn : ln = l.length) (h : AppS W0 R b mb d l vb lb rm ln w) :
    Calls Tryz.prog 12 #[ptr b] w fun e w' => e = .returned (.int .i64 d.used) ∧ AppS W0 R b mb d l vb lb rm ln w' := by
  have h1 : Hold W0 (OpenA b mb d l ((RowB vb lb).sep R)) w := h.1.h.perm (by unfold OpenA; ac_rfl)
  refine (used_open hl h1 hu).mono ?_
  rintro e w' ⟨he, h2⟩
  refine ⟨he, ?_⟩
  rw [hr, hn]
  exact appS (Hold.perm (show Hold W0 (OpenA b mb d l ((RowB vb lb).sep R)) w' from h2) (by unfold OpenA; ac_rfl))
def RetApp (W0 : World) (R : Asrt) (b : Nat) (y : D × Nat) (e : Ending) (w' : World) : Prop := e = .returned (.int .i64 y.2) ∧ Hold W0 ((DiskA b y.1).sep R) w'
theorem get_none {l : List Fl} {s : ByteArray} (h : l.find? (fun x => decide (x.f.name = s)) = none) (v : Value) : mput (ents l) s v = ents l ++ [(s, v)] := by
  have : mhas (ents l) s = false := by
    rw [mhas, List.any_eq_false]
    intro p hp hps
    obtain ⟨x, hx, rfl⟩ := ents_mem hp
    exact List.find?_eq_none.1 h x hx (by simpa using hps)
  rw [mput, this]; rfl
theorem ents_app (l : List Fl) (s : ByteArray) (a : List UInt8) (k nb : Nat) : ents (l ++ [⟨⟨s, a, k⟩, nb⟩]) = ents l ++ [(s, ptr nb)] := by simp [ents]
theorem app_new {W0 w : World} {R : Asrt} {b mb nb : Nat} {d : D} {l : List Fl} {s : ByteArray} {lb : List UInt8} {v : Value} (hl : l.map Fl.f = d.fs) (hn : getF d.fs s = none)
    (H : Hold W0 ((Blk nb #[v, .int .i64 0] 50).sep ((Row 5 1 v lb.length (u8s lb)).sep ((MapA mb (ents l ++ [(s, ptr nb)])).sep ((Blk b #[.int .i64 d.room, .map (some mb), .bool d.fused, .int .i64 d.left] 40).sep ((FilesA l).sep R))))) w) :
    Hold W0 ((DiskA b { d with fs := putF d.fs s lb }).sep R) w := by
  have H1 := file_shut (x := ⟨⟨s, lb, 0⟩, nb⟩) H
  refine disk_shut (d := { d with fs := putF d.fs s lb }) (mb := mb) (l := l ++ [⟨⟨s, lb, 0⟩, nb⟩]) (by simp only [putF, hn]; rw [← hl]; simp) ?_
  rw [ents_app, files_split, List.append_nil]
  exact H1.perm (by ac_rfl)
theorem app_next {W0 w : World} {R : Asrt} {b mb nb : Nat} {d : D} {l : List Fl} {s : ByteArray} {lb : List UInt8} {v vb : Value} {ys : List Value} (hl : l.map Fl.f = d.fs) (hn : (getF d.fs s).isNone = true) (hy : Hid (ys = [] ++ u8s lb))
    (H : Hold W0 ((Row 5 1 v lb.length ys).sep ((MapA mb (ents l ++ [(s, ptr nb)])).sep ((Blk nb #[.slice none 0 0, .int .i64 0] 50).sep ((RowB vb lb).sep ((Blk b #[.int .i64 d.room, .map (some mb), .bool d.fused, .int .i64 d.left] 40).sep ((FilesA l).sep R)))))) w) :
    Hid (Hold W0 ((DiskA b { d with fs := putF d.fs s lb }).sep R) (w.setCell ⟨nb, 0, none⟩ v)) := Lib.hid (by
  have h1 := H.up3.setB 0 v
  rw [hy.out, List.nil_append] at h1
  refine app_new hl (by simpa using hn) (v := v) (nb := nb) (mb := mb) ?_
  have h2 : Hold W0 ((RowB vb lb).sep ((Blk nb #[v, .int .i64 0] 50).sep ((Row 5 1 v lb.length (u8s lb)).sep ((MapA mb (ents l ++ [(s, ptr nb)])).sep ((Blk b #[.int .i64 d.room, .map (some mb), .bool d.fused, .int .i64 d.left] 40).sep ((FilesA l).sep R)))))) (w.setCell ⟨nb, 0, none⟩ v) := Hold.perm h1 (by
    rw [show ((#[.slice none 0 0, .int .i64 0] : Array Value).setIfInBounds 0 v) = #[v, .int .i64 0] from rfl]
    ac_rfl)
  exact h2.drop1)
theorem app_open {W0 w : World} {R : Asrt} {b mb : Nat} {d : D} {l a c : List Fl} {x : Fl} {lb : List UInt8} {vb : Value} (hac : l = a ++ x :: c) (H : Hold W0 ((RowB vb lb).sep (OpenA b mb d l R)) w) :
    ∃ v, Hold W0 ((Row 5 1 v x.f.data.length (u8s x.f.data)).sep ((Blk x.blk #[v, .int .i64 x.f.lasts] 50).sep ((RowB vb lb).sep ((MapA mb (ents l)).sep ((Blk b #[.int .i64 d.room, .map (some mb), .bool d.fused, .int .i64 d.left] 40).sep ((FilesA (a ++ c)).sep R)))))) w := by
  have h1 : Hold W0 ((FilesA l).sep ((RowB vb lb).sep ((MapA mb (ents l)).sep ((Blk b #[.int .i64 d.room, .map (some mb), .bool d.fused, .int .i64 d.left] 40).sep R)))) w := H.perm (by unfold OpenA; ac_rfl)
  have h2 : Hold W0 ((FilesA (a ++ x :: c)).sep ((RowB vb lb).sep ((MapA mb (ents l)).sep ((Blk b #[.int .i64 d.room, .map (some mb), .bool d.fused, .int .i64 d.left] 40).sep R)))) w := by rw [← hac]; exact h1
  rw [files_split] at h2
  obtain ⟨v, h3⟩ := file_open (Hold.assoc.1 h2)
  exact ⟨v, h3.perm (by ac_rfl)⟩
theorem app_old {W0 w : World} {R : Asrt} {b mb : Nat} {d : D} {l a c : List Fl} {x : Fl} {s : ByteArray} {lb : List UInt8} {v v0 vb : Value} {ys : List Value} {m : Nat} (hl : l.map Fl.f = d.fs) (hac : l = a ++ x :: c) (hx : x.f.name = s) (ha : ∀ y ∈ a, y.f.name ≠ s) (hc : ∀ y ∈ c, y.f.name ≠ s)
    (hy : Hid (ys = u8s x.f.data ++ u8s lb)) (hm : m = x.f.data.length + lb.length)
    (H : Hold W0 ((Row 5 1 v m ys).sep ((Blk x.blk #[v0, .int .i64 x.f.lasts] 50).sep ((RowB vb lb).sep ((MapA mb (ents l)).sep ((Blk b #[.int .i64 d.room, .map (some mb), .bool d.fused, .int .i64 d.left] 40).sep ((FilesA (a ++ c)).sep R)))))) w) :
    Hid (Hold W0 ((DiskA b { d with fs := putF d.fs s lb }).sep R) (w.setCell ⟨x.blk, 0, none⟩ v)) := Lib.hid (by
  have h1 := H.up2.setB 0 v
  have h2 : Hold W0 ((RowB vb lb).sep ((Blk x.blk #[v, .int .i64 x.f.lasts] 50).sep ((Row 5 1 v m ys).sep ((MapA mb (ents l)).sep ((Blk b #[.int .i64 d.room, .map (some mb), .bool d.fused, .int .i64 d.left] 40).sep ((FilesA (a ++ c)).sep R)))))) (w.setCell ⟨x.blk, 0, none⟩ v) := Hold.perm h1 (by
    rw [show ((#[v0, .int .i64 x.f.lasts] : Array Value).setIfInBounds 0 v) = #[v, .int .i64 x.f.lasts] from rfl]
    ac_rfl)
  have h3 := h2.drop1
  have e1 : ys = u8s (x.f.data ++ lb) := by rw [hy.out, u8s_append]
  rw [e1, hm, ← List.length_append] at h3
  obtain ⟨x', hx'⟩ : ∃ x' : Fl, x' = ⟨{ x.f with data := x.f.data ++ lb }, x.blk⟩ := ⟨_, rfl⟩
  have h4 : Hold W0 ((FileA x').sep _) _ := file_shut (x := x') (v := v) (by rw [hx']; exact h3)
  have hg : getF d.fs s = some x.f := by
    rw [← hl, get_map]
    have : l.find? (fun x => decide (x.f.name = s)) = some x := by
      rw [hac, List.find?_append, List.find?_eq_none.2 (fun y hy => by simpa using ha y hy)]
      simp [hx]
    rw [this]; rfl
  refine disk_shut (d := { d with fs := putF d.fs s lb }) (mb := mb) (l := a ++ x' :: c) ?_ ?_
  · simp only [putF, hg]
    rw [← hl, hac, upd_split _ hx ha hc, hx']
  · rw [files_split, show ents (a ++ x' :: c) = ents l from by rw [hac, hx']; simp [ents]]
    exact h4.perm (by ac_rfl))
theorem may_left {d : D} {l : List ByteArray} (h : d.may l = 0) : Hid (d.fused = true → 1 ≤ d.left) := Lib.hid fun hf => by
  unfold D.may at h
  by_cases h0 : d.left = 0
  · simp [hf, h0] at h
  · omega
set_option maxRecDepth 100000 in
set_option maxHeartbeats 3200000 in
theorem append_any {W0 w : World} {R : Asrt} {b : Nat} {d : D} (H : Hold W0 ((DiskA b d).sep R) w) (hok : d.Ok) (s : ByteArray) (va : Value) (vs : List Value) (ls : List (List UInt8)) (ha : ReadsRows W0 R va vs (u8ss ls))
    (hn : ls.length ≤ 1073741824) (hlen : ls.flatten.length ≤ 1073741824) :
    Calls Tryz.prog 6 #[ptr b, .string s, va] w (RetApp W0 R b (d.append s ls.flatten)) := by
  obtain ⟨lb, hlb⟩ : ∃ lb, lb = ls.flatten := ⟨_, rfl⟩
  rw [← hlb] at hlen ⊢
  have Hlb := Lib.hid hlb
  clear hlb
  by_cases hm : d.may [s] = 0
  · obtain ⟨mb, l, hl, H1⟩ := disk_open H
    have hlk0 := fun (w' : World) (h : Hold W0 (OpenA b mb d l R) w') => run_lookD (disk_mapAt h) s
    have hou := hok.used
    have hor := hok.room
    have HL := Lib.hid H1
    have HM := Lib.hid hm
    obtain ⟨n, hn'⟩ : ∃ n, n = lb.length := ⟨_, rfl⟩
    obtain ⟨u, hu⟩ : ∃ u, u = d.used := ⟨_, rfl⟩
    obtain ⟨rm, hrm⟩ : ∃ rm, rm = d.room := ⟨_, rfl⟩
    obtain ⟨vf, hvf⟩ : ∃ vf, vf = ((l.find? fun x => decide (x.f.name = s)).map fun x => ptr x.blk).getD (.pointer none) := ⟨_, rfl⟩
    have H0 := Lib.hid H
    have hvfe : (vf = .pointer none ∧ (getF d.fs s).isNone = true) ∨ ∃ x : Fl, vf = ptr x.blk ∧ l.find? (fun x => decide (x.f.name = s)) = some x := by
      rw [hvf, ← hl, get_map]
      cases hx : l.find? (fun x => decide (x.f.name = s)) with
      | none => exact .inl ⟨rfl, rfl⟩
      | some x => exact .inr ⟨x, rfl, rfl⟩
    have Hl := Lib.hid hl
    have hlk1 : ∀ w', Hold W0 (OpenA b mb d l R) w' → (Instr.lookup 38 (.map (some mb)) (.string s) false).run Tryz.prog w' = .ok vf w' := fun w' h => by rw [hvf]; exact hlk0 w' h
    have Hvf := Lib.hid hvf
    clear H H1 hm hvf hlk0
    show Calls Tryz.prog 6 #[.pointer (some ⟨b, 0, none⟩), .string s, va] w _
    go_enter Tryz.func6, Tryz.ntmps6
    go_wp2_with (first
      | (go_at_call 10; refine (may_any (H0.out.keeps ((Below.refl _ _).alloc (Nat.le_refl _) _)) _ [s] (sl_built w [.string s] 9 (by unfold maxLen; simp))).mono ?_; rintro e w2 ⟨rfl, hw2⟩; rw [HM.out]; have H2 : Hid (Hold W0 (OpenA b mb d l R) w2) := Lib.hid (by rw [← hw2]; exact HL.out.keeps ((Below.refl _ _).alloc (Nat.le_refl _) _)); clear hw2)
      | (go_at_call 11; refine (join_any H2.out.drop1.drop1.drop1 va vs ls ha (by omega) (by rw [← Hlb.out]; omega)).mono ?_; rintro e w3 ⟨vb, rfl, hob, hb3⟩; rw [← Hlb.out] at hob; have H3 : Hid (Hold W0 ((RowB vb lb).sep (OpenA b mb d l R)) w3) := Lib.hid (Hold.addB H2.out hb3 hob); clear hob hb3;obtain ⟨-, c0, c1, -⟩ := appS H3.out; have hlk := hlk1 _ H3.out.drop1))
    obtain ⟨ln, hln⟩ : ∃ ln, ln = l.length := ⟨_, rfl⟩
    have hT := appS (Hold.drew H3.out)
    rw [← hrm, ← hln] at hT
    have hT0 := Lib.hid hT
    have hub := fun w' (h : AppS W0 R b mb d l vb lb rm ln w') => used_app hl (by omega) hrm hln h
    have hbl := (Hold.rowB H3.out).run_len Tryz.underlying22
    rw [← hn'] at hbl
    rw [← hu] at hub
    rw [← hu, ← hrm] at hou
    rw [← hrm] at hor
    have hfull : Hid (d.full s lb = (decide (rm < u + n) || ((getF d.fs s).isNone && decide (4096 ≤ ln)))) := Lib.hid (by
      rw [D.full, hrm, hu, hn', hln, ← hl, List.length_map])
    have hno : Hid (d.full s lb = true → d.append s lb = (d, 6)) := Lib.hid fun h => by rw [D.append, if_pos HM.out, if_pos h]
    have a1 : IntKind.i64.wrap ((rm : Int) - (u : Int)) = (rm : Int) - (u : Int) := IntWalk.i64_in _ (by omega)
    by_cases hbig : rm < u + n
    · have g1 : decide ((rm : Int) - (u : Int) < (n : Int)) = true := by simp; omega
      have hres := Lib.hid (hno.out (by rw [hfull.out]; simp [hbig]))
      clear hou hor hbig c0 c1 hlk hn' hu hrm hln hl hok hvfe
      obtain ⟨-, d0, d1, -⟩ := hT
      first | (go_region_with (first | (go_at_call 12; refine (hub _ (hT0.out)).mono ?_; rintro e w5 ⟨rfl, hT⟩; obtain ⟨hA, e0, e1, e2⟩ := hT) | (with_reducible refine ite_no ?_ ?_; · decide))) | fail
      all_goals
        have HE := Lib.hid (disk_shut Hl.out hA.h.drop1)
        clear e0 e1 e2 d0 d1 hA hub hbl a1 g1
        go_wp2
        go_ret
        rw [hres.out]
        exact ⟨rfl, HE.out⟩
    · have g1 : decide ((rm : Int) - (u : Int) < (n : Int)) = false := by simp; omega
      have Hok := Lib.hid hok
      clear hok
      rcases hvfe with ⟨rfl, hnone⟩ | ⟨x, rfl, hx⟩
      · by_cases hmany : 4096 ≤ ln
        · have g2 : decide ((4096 : Int) ≤ (ln : Int)) = true := by simp; omega
          have hres := Lib.hid (hno.out (by rw [hfull.out]; simp [hmany, hnone]))
          clear hou hor hbig c0 c1 hlk hn' hu hrm hln hl hnone hmany
          go_region_held3 (fun w' => Opened W0 R b mb d l vb lb w' ∧ w'.cell? ⟨b, 0, none⟩ = some (.int .i64 rm) ∧ w'.cell? ⟨b, 1, none⟩ = some (.map (some mb)) ∧ (Builtin.len_ #[38] 3 #[.map (some mb)]).run Tryz.prog w' = .ok (.int .i64 ln) w')
            (first | exact hT | go_keep)
            (first | (go_at_call 12; refine (hub _ hT).mono ?_; rintro e w5 ⟨rfl, hT⟩))
          all_goals
            have HE := Lib.hid (disk_shut Hl.out hT.1.h.drop1)
            clear hub hbl a1 g1 g2 hT
            go_wp2
            go_ret
            rw [hres.out]
            exact ⟨rfl, HE.out⟩
        · have g2 : decide ((4096 : Int) ≤ (ln : Int)) = false := by simp; omega
          have Hbig := Lib.hid hbig
          have Hnone := Lib.hid hnone
          have Hn' := Lib.hid hn'
          have Hln := Lib.hid hln
          have Hu := Lib.hid hu
          have Hrm := Lib.hid hrm
          have Hmany := Lib.hid hmany
          clear hou hor c0 c1 hlk hu hrm hln hl hmany hbig hnone hn'
          go_region_held3 (fun w' => Opened W0 R b mb d l vb lb w' ∧ w'.cell? ⟨b, 0, none⟩ = some (.int .i64 rm) ∧ w'.cell? ⟨b, 1, none⟩ = some (.map (some mb)) ∧ (Builtin.len_ #[38] 3 #[.map (some mb)]).run Tryz.prog w' = .ok (.int .i64 ln) w')
            (first | exact hT | go_keep)
            (first | (go_at_call 12; refine (hub _ hT).mono ?_; rintro e w5 ⟨rfl, hT⟩))
          all_goals
            obtain ⟨nb, hnb⟩ : ∃ nb, nb = w5.heap.size := ⟨_, rfl⟩
            have HN := hT.1.h.addBlk (cs := #[.slice none 0 0, .int .i64 0]) (t := 50) (b := w5.heap.size) rfl
            have k1 := blk_cell (HN.drop1.drop1).blk 1
            have HN2 : Hold W0 ((MapA mb (ents l)).sep ((Blk w5.heap.size #[.slice none 0 0, .int .i64 0] 50).sep ((RowB vb lb).sep ((Blk b #[.int .i64 d.room, .map (some mb), .bool d.fused, .int .i64 d.left] 40).sep ((FilesA l).sep R))))) _ := HN.perm (by unfold OpenA; ac_rfl)
            have Hf : Hid (l.find? (fun x => decide (x.f.name = s)) = none) := Lib.hid (by have h := Hnone.out; rw [← Hl.out, get_map] at h; simpa using h)
            clear hub hbl a1 g1 g2 hT HN hnb
            go_wp2_with (first
              | (at_mapUpdate; refine wpList_mput HN2 rfl _ _ _ 38 rfl Tryz.underlying38 Tryz.underlying9 rfl s (ptr w5.heap.size) rfl rfl ?_; intro w6 H6; rw [get_none Hf.out] at H6; have k2 := blk_cell H6.up2.blk 0)
              | (at_builtin; refine wpList_app el8 (H6.addNil 5 1) rfl _ _ rfl rfl rfl (Hold.rowB H6.up3) (u8s_one _) (by omega) (by omega) ?_; intro v2 ys w7 hys H7; rw [Nat.zero_add] at H7; obtain ⟨ao7, cap7, rfl⟩ := H7.own.shape; have k3 := blk_cell H7.up3.blk 0; have f3 := blk_free H7.up3.blk 0; have HH := app_next Hl.out Hnone.out hys H7; have hlf := may_left HM.out)
              | (go_at_call 13; refine (done_any (W0 := W0) (R := R) (b := b) (d := { d with fs := putF d.fs s lb }) HH.out hlf.out Hok.out.left).mono ?_; rintro e w9 ⟨rfl, H9⟩; have H9h := Lib.hid H9; clear H9))
            have hres : Hid (d.append s lb = ({ d with fs := putF d.fs s lb }.done, 0)) := Lib.hid (by
              rw [D.append, if_pos HM.out, if_neg]
              rw [hfull.out]
              have h1 := Hbig.out
              have h2 := Hmany.out
              simp [h1, h2])
            clear H6 H7 k2 k3 f3 hys HN2 k1
            go_wp2
            go_ret
            rw [hres.out]
            exact ⟨rfl, H9h.out⟩
      · have hnn := H3.out.drop1.up2.map.nodup
        rw [ents_names] at hnn
        obtain ⟨a, c, hac, hxs, hxa, hxc⟩ := get_split hnn hx
        have hnd := Lib.hid (Hok.out.len (f := x.f) (by rw [← Hl.out]; exact List.mem_map.2 ⟨x, List.mem_of_find?_eq_some hx, rfl⟩))
        have hres : Hid (d.append s lb = ({ d with fs := putF d.fs s lb }.done, 0)) := Lib.hid (by
          rw [D.append, if_pos HM.out, if_neg]
          rw [hfull.out]
          have h2 : getF d.fs s = some x.f := by rw [← Hl.out, get_map, hx]; rfl
          simp [hbig, h2])
        have HX := fun (w' : World) (h : Opened W0 R b mb d l vb lb w') => app_open hac h.h
        have HY := fun (w' : World) (v v0 : Value) (ys : List Value) (m : Nat) => app_old (w := w') (W0 := W0) (R := R) (b := b) (mb := mb) (v := v) (v0 := v0) (vb := vb) (ys := ys) (m := m) Hl.out hac hxs hxa hxc (lb := lb)
        have Hn' := Lib.hid hn'
        clear hou hor c0 c1 hlk hn' hu hrm hln hl hx hnn hac hxs hxa hxc hbig
        obtain ⟨-, d0, d1, -⟩ := hT
        unfold ptr
        first | (go_region_with (first | (go_at_call 12; refine (hub _ (hT0.out)).mono ?_; rintro e w5 ⟨rfl, hT⟩; obtain ⟨hA, e0, e1, e2⟩ := hT) | (with_reducible refine ite_no ?_ ?_; · decide))) | fail
        all_goals
          obtain ⟨v0, HF⟩ := HX _ hA
          have HX0 := 0
          obtain ⟨ao, cap, rfl⟩ := HF.own.shape
          obtain ⟨n0, hn0⟩ : ∃ n0, n0 = x.f.data.length := ⟨_, rfl⟩
          have Hn0 := Lib.hid hn0
          have hnd' := hnd.out
          rw [← hn0] at HF hnd'
          clear hn0
          have k1 := blk_cell HF.up2.blk 0
          clear e0 e1 e2 d0 d1 hA hub hbl a1 g1 HX hT0
          go_wp2_with (first
            | (at_builtin; refine wpList_app el8 HF rfl _ _ rfl rfl rfl (Hold.rowB HF.up3) (u8s_one _) (by omega) (by omega) ?_; intro v2 ys w7 hys H7; obtain ⟨ao7, cap7, rfl⟩ := H7.own.shape; have k3 := blk_cell H7.up2.blk 0; have f3 := blk_free H7.up2.blk 0; have HH := HY _ _ _ _ _ hys (by rw [Hn0.out]) H7; have hlf := may_left HM.out)
            | (go_at_call 13; refine (done_any (W0 := W0) (R := R) (b := b) (d := { d with fs := putF d.fs s lb }) HH.out hlf.out Hok.out.left).mono ?_; rintro e w9 ⟨rfl, H9⟩; have H9h := Lib.hid H9; clear H9))
          clear H7 k3 f3 hys
          go_wp2
          go_ret
          rw [hres.out]
          exact ⟨rfl, H9h.out⟩
  · have hy : Hid (d.append s lb = (d, d.may [s])) := Lib.hid (by rw [D.append, if_neg hm])
    obtain ⟨k, hk⟩ : ∃ k : Nat, k = d.may [s] := ⟨_, rfl⟩
    have hH := Lib.hid H
    have hk0 : ((k : Int) == 0) = false := by rw [beq_eq_false_iff_ne]; omega
    rw [← hk] at hy
    have hkh := Lib.hid hk
    clear hk hm H
    show Calls Tryz.prog 6 #[.pointer (some ⟨b, 0, none⟩), .string s, va] w _
    go_enter Tryz.func6, Tryz.ntmps6
    go_wp2_with (go_at_call 10; refine (may_any (hH.out.keeps ((Below.refl _ _).alloc (Nat.le_refl _) _)) _ [s] (sl_built w [.string s] 9 (by unfold maxLen; simp))).mono ?_; rintro e w2 ⟨rfl, hw2⟩; rw [← hkh.out])
    have HH : Hid (Hold W0 ((DiskA b d).sep R) w2) := Lib.hid (by rw [← hw2]; exact hH.out.keeps ((Below.refl _ _).alloc (Nat.le_refl _) _))
    clear hw2
    go_wp2
    go_ret
    rw [hy.out]
    exact ⟨rfl, HH.out⟩
end Go.Proofs.YtkbfjgmgckbogaaGreat.Dsk
