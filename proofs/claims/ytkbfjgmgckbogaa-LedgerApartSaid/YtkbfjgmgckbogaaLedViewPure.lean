/-
  A ledger on a disk by what its two files are (chapter 5), plain: what Open, Append, Write, Drop and a crash make of them.
-/
import Derived.Test.YtkbfjgmgckbogaaLedTornPure
import Derived.Test.YtkbfjgmgckbogaaLedWrite
import Derived.Test.YtkbfjgmgckbogaaF17
namespace Go.Proofs.Ytkbfjgmgckbogaa.Ld
open Go.RowKit L Oct Dsk Fr Kp
/-! ### how much a disk has -/
theorem used_split {fs : List AF} (hn : Nd fs) (s : ByteArray) : used fs = ((getF fs s).map fun f => f.data.length).getD 0 + used (removeF s fs) := by
  cases hg : getF fs s with
  | none =>
    have : removeF s fs = fs := List.filter_eq_self.2 fun y hy => by
      have := getF_none hg y hy
      simp [this]
    rw [this]; simp
  | some f =>
    obtain ⟨a, c, hs, hx, ha, hc⟩ := nd_split hn hg
    have e2 : removeF s fs = a ++ c := by
      unfold removeF
      rw [hs, List.filter_append, List.filter_cons_of_neg (by simp [hx]), List.filter_eq_self.2 (fun y hy => by simp [ha y hy]), List.filter_eq_self.2 (fun y hy => by simp [hc y hy])]
    rw [e2, hs, used_append, used_append, used_cons]
    simp; omega
theorem sum_le {α : Type} {f g : α → Nat} (h : ∀ x, f x ≤ g x) : ∀ S : List α, (S.map f).sum ≤ (S.map g).sum
  | [] => Nat.le_refl _
  | x :: S => by
    have := sum_le h S
    have := h x
    simp only [List.map_cons, List.sum_cons]; omega
theorem used_names : ∀ (S : List ByteArray) (fs : List AF), Nd fs → (∀ t, t ∉ S → getF fs t = none) → used fs ≤ (S.map fun s => ((getF fs s).map fun f => f.data.length).getD 0).sum
  | [], fs, hn, h => by
    cases fs with
    | nil => simp [used]
    | cons f r =>
      have := getF_mem hn (List.mem_cons_self .. : f ∈ f :: r)
      rw [h _ (by simp)] at this; cases this
  | s :: S, fs, hn, h => by
    have ih := used_names S (removeF s fs) (gone_nd hn s) (fun t ht => by
      rw [getF_gone]
      by_cases e : t = s
      · rw [if_pos e]
      · rw [if_neg e]; exact h t (by simp [e, ht]))
    have hle := sum_le (f := fun t => ((getF (removeF s fs) t).map fun f => f.data.length).getD 0) (g := fun t => ((getF fs t).map fun f => f.data.length).getD 0) (fun t => by
      rw [getF_gone]
      by_cases e : t = s
      · rw [if_pos e]; simp
      · rw [if_neg e]; exact Nat.le_refl _) S
    rw [used_split hn s, List.map_cons, List.sum_cons]
    omega
def vlen (o : Option (List UInt8 × Nat)) : Nat := (o.map fun y => y.1.length).getD 0
theorem used_fv {d : D} (hn : Nd d.fs) (S : List ByteArray) (h : ∀ t, t ∉ S → fv d t = none) : d.used ≤ (S.map fun s => vlen (fv d s)).sum := by
  have := used_names S d.fs hn (fun t ht => fv_none (h t ht))
  have e : (S.map fun s => vlen (fv d s)) = S.map fun s => ((getF d.fs s).map fun f => f.data.length).getD 0 := by
    refine List.map_congr_left fun s _ => ?_
    unfold vlen fv
    cases getF d.fs s <;> rfl
  rw [e]; exact this
/-! ### a disk's steps, whether they may be done or not -/
abbrev Alive (d : D) : Prop := d.fused = true → d.left ≠ 0
theorem alive_no {d : D} (h : ¬ Alive d) : d.fused = true ∧ d.left = 0 := by
  unfold Alive at h
  exact ⟨Classical.byContradiction fun h1 => h fun h2 => absurd h2 h1, Classical.byContradiction fun h1 => h fun _ => h1⟩
theorem alive_of {d : D} (h : d.fused = false) : Alive d := fun h2 => by rw [h] at h2; cases h2
theorem append_keep (d : D) (s : ByteArray) (x : List UInt8) : (d.append s x).1.fused = d.fused ∧ (d.append s x).1.room = d.room := by
  unfold D.append
  split
  · split
    · exact ⟨rfl, rfl⟩
    · show (D.done _).fused = d.fused ∧ (D.done _).room = d.room
      rw [done_fused, done_room]
      exact ⟨rfl, rfl⟩
  · exact ⟨rfl, rfl⟩
theorem rename_keep (d : D) (s m : ByteArray) : (d.rename s m).1.fused = d.fused ∧ (d.rename s m).1.room = d.room := by
  unfold D.rename
  split
  · split
    · exact ⟨rfl, rfl⟩
    · show (D.done _).fused = d.fused ∧ (D.done _).room = d.room
      rw [done_fused, done_room]
      exact ⟨rfl, rfl⟩
  · exact ⟨rfl, rfl⟩
theorem rename_dead {d : D} (s m : ByteArray) (h : d.fused = true) (h0 : d.left = 0) : d.rename s m = (d, 9) := by
  unfold D.rename
  rw [may_dead [s, m] h h0, if_neg (by decide)]
/-- what a write of an image leaves -/
structure WOut (d : D) (g : Lg) (i : Nat) (p : List UInt8) (y : D × Lg × Nat) : Prop where
  fused : y.1.fused = d.fused
  room : y.1.room = d.room
  off : ∀ t, t ≠ sh (imgN g.pre) → t ≠ imgN g.pre → t ≠ logN g.pre → fv y.1 t = fv d t
  way : (y.2.2 ≠ 0 ∧ fv y.1 (imgN g.pre) = fv d (imgN g.pre) ∧ fv y.1 (logN g.pre) = fv d (logN g.pre)) ∨
    (fv y.1 (imgN g.pre) = some (rec_ (recL i p), (rec_ (recL i p)).length) ∧ ((y.2.2 ≠ 0 ∧ fv y.1 (logN g.pre) = fv d (logN g.pre)) ∨ (y.2.2 = 0 ∧ y.2.1 = { g with base := i, data := p, ents := [] } ∧ fv y.1 (sh (imgN g.pre)) = none ∧ fv y.1 (logN g.pre) = none)))
  ok : d.fused = false → y.2.2 = 0
theorem isNone_fv {d : D} {s : ByteArray} (h : fv d s = none) : (getF d.fs s).isNone = true := by rw [fv_none h]; rfl
theorem write_v {d : D} {g : Lg} {i n : Nat} {p : List UInt8} (hi : DInv d n) (hn : n < 4096) (hde : g.dead = false) (hp : g.pre.size ≤ 20) (h1 : g.last ≤ i) (h2 : i ≤ 1099511627776) (hpl : p.length ≤ 524288)
    (hu : d.used + (rec_ (recL i p)).length ≤ d.room) (hsh : fv d (sh (imgN g.pre)) = none) : WOut d g i p (writeL d g i p) ∧ DInv (writeL d g i p).1 (n + 1) := by
  obtain ⟨n1, n2, n3⟩ := names_ok hp
  have d1 := sh_img g.pre
  have d2 := sh_log g.pre
  have d3 := img_log g.pre
  have hinv : DInv (putI d g i p).1 (n + 1) := by
    have h := inv_save hi (imgN g.pre) (recL i p)
    unfold putI
    split
    · exact removes_inv [logN g.pre] h
    · exact h
  have hW : writeL d g i p = if (putI d g i p).2 = 0 then ((putI d g i p).1, { g with base := i, data := p, ents := [] }, 0) else ((putI d g i p).1, { g with dead := true }, (putI d g i p).2) := by
    unfold writeL
    rw [if_neg (by rw [hde]; simp), if_neg (by omega), if_neg (by omega)]
  have hW1 : (writeL d g i p).1 = (putI d g i p).1 ∧ (writeL d g i p).2.2 = (putI d g i p).2 ∧ ((putI d g i p).2 = 0 → (writeL d g i p).2.1 = { g with base := i, data := p, ents := [] }) := by
    rw [hW]
    split
    · rename_i h; exact ⟨rfl, h.symm, fun _ => rfl⟩
    · rename_i h; exact ⟨rfl, rfl, fun h2 => absurd h2 h⟩
  refine ⟨?_, by rw [hW1.1]; exact hinv⟩
  obtain ⟨X, hX⟩ : ∃ X, X = rec_ (recL i p) := ⟨_, rfl⟩
  have hsz : 1 ≤ (imgN g.pre).size ∧ (imgN g.pre).size ≤ 60 := by
    have e2 : sImg.size = 4 := rfl
    unfold imgN; rw [ByteArray.size_append]; omega
  have hsv : save d (imgN g.pre) (recL i p) = tailS d (imgN g.pre) (recL i p) := by
    unfold save
    rw [if_pos hsz, if_neg (by rw [fv_none hsh]; simp)]
  -- the three ways of putI
  have fin : ∀ (dd : D) (e : Nat), putI d g i p = (dd, e) → dd.fused = d.fused → dd.room = d.room →
      (∀ t, t ≠ sh (imgN g.pre) → t ≠ imgN g.pre → t ≠ logN g.pre → fv dd t = fv d t) →
      ((e ≠ 0 ∧ fv dd (imgN g.pre) = fv d (imgN g.pre) ∧ fv dd (logN g.pre) = fv d (logN g.pre)) ∨
        (fv dd (imgN g.pre) = some (X, X.length) ∧ ((e ≠ 0 ∧ fv dd (logN g.pre) = fv d (logN g.pre)) ∨ (e = 0 ∧ fv dd (sh (imgN g.pre)) = none ∧ fv dd (logN g.pre) = none)))) →
      (d.fused = false → e = 0) → WOut d g i p (writeL d g i p) := by
    intro dd e he h3 h4 h5 h6 h7
    rw [he] at hW1
    refine ⟨by rw [hW1.1]; exact h3, by rw [hW1.1]; exact h4, fun t a b c => by rw [hW1.1]; exact h5 t a b c, ?_, fun h => by rw [hW1.2.1]; exact h7 h⟩
    rw [hW1.1, hW1.2.1, ← hX]
    rcases h6 with h6 | ⟨h6, h8 | ⟨h8, h9⟩⟩
    · exact .inl h6
    · exact .inr ⟨h6, .inl h8⟩
    · exact .inr ⟨h6, .inr ⟨h8, hW1.2.2 h8, h9⟩⟩
  have hput : ∀ (dd : D) (e : Nat), e ≠ 0 → tailS d (imgN g.pre) (recL i p) = (dd, e) → putI d g i p = (dd, e) := by
    intro dd e he h
    unfold putI
    rw [hsv, h, if_neg he]
  have hput0 : ∀ (dd : D), tailS d (imgN g.pre) (recL i p) = (dd, 0) → putI d g i p = removes dd [logN g.pre] := by
    intro dd h
    unfold putI
    rw [hsv, h, if_pos rfl]
  have hdead : ∀ {dd : D}, dd.fused = d.fused → ¬ Alive dd → d.fused = false → (9 : Nat) = 0 := fun h1 h2 h3 => by
    have := (alive_no h2).1
    rw [h1, h3] at this; cases this
  have hlen := hi.len
  unfold tailS at hput hput0
  rw [← hX] at hput hput0 hu
  by_cases A1 : Alive d
  case neg =>
    obtain ⟨q1, q2⟩ := alive_no A1
    exact fin d 9 (hput d 9 (by decide) (by rw [append_dead _ _ q1 q2, if_neg (show ¬ ((9 : Nat) = 0) by decide)])) rfl rfl (fun _ _ _ _ => rfl) (.inl ⟨by decide, rfl, rfl⟩) (hdead rfl A1)
  obtain ⟨v1, v2⟩ := append_v n3 A1 hu (by omega : d.fs.length < 4096)
  rw [hsh] at v2
  obtain ⟨k1, k2⟩ := append_keep d (sh (imgN g.pre)) X
  obtain ⟨da, hda⟩ : ∃ da, da = (d.append (sh (imgN g.pre)) X).1 := ⟨_, rfl⟩
  rw [← hda] at hput hput0 v2 k1 k2
  rw [if_pos v1] at hput hput0
  by_cases A2 : Alive da
  case neg =>
    obtain ⟨q1, q2⟩ := alive_no A2
    have hs : da.sync [sh (imgN g.pre)] = (da, 9) := each_dead _ q1 q2
    exact fin da 9 (hput da 9 (by decide) (by rw [hs, if_neg (show ¬ ((9 : Nat) = 0) by decide)])) k1 k2 (fun t a _ _ => by rw [v2, up_off _ a]) (.inl ⟨by decide, by rw [v2, up_off _ d1.symm], by rw [v2, up_off _ d2.symm]⟩) (hdead k1 A2)
  obtain ⟨s1, s2⟩ := sync_v n3 A2 (x := X) (l := 0) (by rw [v2, up_at])
  obtain ⟨m1, m2⟩ := sync_fused da (sh (imgN g.pre))
  obtain ⟨db, hdb⟩ : ∃ db, db = (da.sync [sh (imgN g.pre)]).1 := ⟨_, rfl⟩
  rw [← hdb] at hput hput0 s2 m1 m2
  rw [if_pos s1] at hput hput0
  have w2 : ∀ t, t ≠ sh (imgN g.pre) → fv db t = fv d t := fun t a => by rw [s2, up_off _ a, v2, up_off _ a]
  by_cases A3 : Alive db
  case neg =>
    obtain ⟨q1, q2⟩ := alive_no A3
    exact fin db 9 (hput db 9 (by decide) (rename_dead _ _ q1 q2)) (m1.trans k1) (m2.trans k2) (fun t a _ _ => w2 t a) (.inl ⟨by decide, w2 _ d1.symm, w2 _ d2.symm⟩) (hdead (m1.trans k1) A3)
  obtain ⟨r1, r2⟩ := rename_v n3 n1 A3 (y := (X, X.length)) (by rw [s2, up_at])
  obtain ⟨o1, o2⟩ := rename_keep db (sh (imgN g.pre)) (imgN g.pre)
  obtain ⟨dc, hdc⟩ : ∃ dc, dc = (db.rename (sh (imgN g.pre)) (imgN g.pre)).1 := ⟨_, rfl⟩
  have hren : db.rename (sh (imgN g.pre)) (imgN g.pre) = (dc, 0) := by rw [hdc, ← r1]
  rw [← hdc] at r2 o1 o2
  have w3 : ∀ t, t ≠ sh (imgN g.pre) → t ≠ imgN g.pre → fv dc t = fv d t := fun t a b => by rw [r2, up_off _ b, up_off _ a, w2 t a]
  have w4 : fv dc (imgN g.pre) = some (X, X.length) := by rw [r2, up_at]
  have w5 : fv dc (sh (imgN g.pre)) = none := by rw [r2, up_off _ d1, up_at]
  have hpr := hput0 dc hren
  by_cases hlg : fv d (logN g.pre) = none
  · have hl2 : fv dc (logN g.pre) = none := by rw [w3 _ d2.symm d3.symm]; exact hlg
    refine fin dc 0 (by rw [hpr]; unfold removes; rw [if_pos (isNone_fv hl2)]; rfl) (o1.trans (m1.trans k1)) (o2.trans (m2.trans k2)) (fun t a b _ => w3 t a b) (.inr ⟨w4, .inr ⟨rfl, w5, hl2⟩⟩) (fun _ => rfl)
  · obtain ⟨y, hy⟩ := Option.ne_none_iff_exists'.1 hlg
    have hl2 : fv dc (logN g.pre) = some y := by rw [w3 _ d2.symm d3.symm]; exact hy
    obtain ⟨f, hf, _⟩ := fv_some hl2
    by_cases A4 : Alive dc
    case neg =>
      obtain ⟨q1, q2⟩ := alive_no A4
      have hs : dc.remove [logN g.pre] = (dc, 9) := each_dead _ q1 q2
      refine fin dc 9 (by rw [hpr]; unfold removes; rw [if_neg (by rw [hf]; simp), hs, if_neg (show ¬ ((9 : Nat) = 0) by decide)]) (o1.trans (m1.trans k1)) (o2.trans (m2.trans k2)) (fun t a b _ => w3 t a b) (.inr ⟨w4, .inl ⟨by decide, by rw [hl2, hy]⟩⟩) (hdead (o1.trans (m1.trans k1)) A4)
    obtain ⟨z1, z2⟩ := remove_v n2 A4 (by rw [hf]; rfl : (getF dc.fs (logN g.pre)).isSome = true)
    refine fin (dc.remove [logN g.pre]).1 0 (by rw [hpr]; unfold removes; rw [if_neg (by rw [hf]; simp), if_pos z1]; rfl) ((remove_fused _ _).trans (o1.trans (m1.trans k1))) ((remove_room _ _).trans (o2.trans (m2.trans k2)))
      (fun t a b c => by rw [z2, up_off _ c, w3 t a b]) (.inr ⟨by rw [z2, up_off _ d3, w4], .inr ⟨rfl, by rw [z2, up_off _ d2, w5], by rw [z2, up_at]⟩⟩) (fun _ => rfl)
/-! ### a ledger by its two files -/
def baseO (o : Option (Nat × List UInt8)) : Nat := match o with | none => 0 | some y => y.1
def dataO (o : Option (Nat × List UInt8)) : List UInt8 := match o with | none => [] | some y => y.2
def imgV (o : Option (Nat × List UInt8)) : Option (List UInt8 × Nat) := o.map fun y => (rec_ (recL y.1 y.2), (rec_ (recL y.1 y.2)).length)
def logV (n : Nat) (E : List (List UInt8)) : Option (List UInt8 × Nat) := if E = [] then none else some (logB n E, (logB n E).length)
def lgO (pre : ByteArray) (o : Option (Nat × List UInt8)) (E : List (List UInt8)) : Lg := ⟨pre, baseO o, dataO o, E, false⟩
structure LV (d : D) (pre : ByteArray) (o : Option (Nat × List UInt8)) (E : List (List UInt8)) : Prop where
  img : fv d (imgN pre) = imgV o
  log : fv d (logN pre) = logV (baseO o + 1) E
/-- sizes that a ledger may have -/
structure LOk (o : Option (Nat × List UInt8)) (E : List (List UInt8)) : Prop where
  data : (dataO o).length ≤ 1000000
  base : baseO o + E.length ≤ 1099511627776
  ent : ∀ p ∈ E, p.length ≤ 1000000
theorem load_v {d : D} {pre : ByteArray} {o : Option (Nat × List UInt8)} {E : List (List UInt8)} (h : fv d (imgN pre) = imgV o) (hk : LOk o E) : image d (new pre) = (lgO pre o [], 0) := by
  cases o with
  | none =>
    have hl : Kp.load d (imgN pre) = ([], 7) := by unfold Kp.load; rw [fv_none h]
    unfold image
    show (if (Kp.load d (imgN pre)).2 = 7 then _ else _) = _
    rw [hl, if_pos rfl]; rfl
  | some y =>
    obtain ⟨f, hf, hf2, _⟩ := fv_some (y := (rec_ (recL y.1 y.2), (rec_ (recL y.1 y.2)).length)) h
    have hdl : y.2.length ≤ 1000000 := hk.data
    have hbl : y.1 + E.length ≤ 1099511627776 := hk.base
    have hrl := recL_length y.1 y.2 (by omega)
    have hl : Kp.load d (imgN pre) = (recL y.1 y.2, 0) := by
      unfold Kp.load
      rw [hf]
      show (if (unone f.data).2 = 0 then _ else _) = _
      have hu := unone_rec (recL y.1 y.2) (by omega)
      rw [hf2]
      show (if (unone (rec_ (recL y.1 y.2))).2 = 0 then ((unone (rec_ (recL y.1 y.2))).1, 0) else _) = _
      rw [hu, if_pos rfl]
    obtain ⟨r1, r2, r3⟩ := rec_of (n := y.1) (p := y.2) (by omega) (by omega)
    unfold image
    rw [show Kp.load d (imgN (new pre).pre) = (recL y.1 y.2, 0) from hl, if_neg (show ¬ ((0 : Nat) = 7) by decide), if_pos rfl]
    show ((⟨pre, recN (recL y.1 y.2), recB (recL y.1 y.2), [], false⟩ : Lg), if recW (recL y.1 y.2) = true ∧ recN (recL y.1 y.2) ≤ 1099511627776 then 0 else 3) = _
    rw [if_pos ⟨r3, by rw [r1]; omega⟩, r1, r2]; rfl
/-- records that the image has already are passed over -/
theorem takes_over : ∀ (E : List (List UInt8)) (n : Nat) (last : Int) (g : Lg), (∀ p ∈ E, p.length ≤ 1000000) → n + E.length ≤ g.base + 1 → 1 ≤ n → g.base ≤ 1099511627776 → (0 ≤ last → last + 1 = n) → takesAll last g (recsL n E) = (true, g)
  | [], n, last, g, _, _, _, _, _ => by simp [recsL, takesAll]
  | p :: E, n, last, g, hE, hb, hn, hg, hl => by
    have hp := hE p (List.mem_cons_self ..)
    simp only [List.length_cons] at hb
    obtain ⟨r1, r2, r3⟩ := rec_of (n := n) (p := p) (by omega) (by omega)
    have ht : takes last g (recL n p) = (true, (n : Int), g) := by
      unfold takes
      rw [r1, if_pos ⟨r3, hn, by omega, fun h => (hl h).symm⟩, if_pos (by omega)]
    rw [recsL, takesAll, ht, if_pos rfl]
    exact takes_over E (n + 1) (n : Int) g (fun q hq => hE q (List.mem_cons_of_mem _ hq)) (by omega) (by omega) hg (fun _ => by omega)
/-- Open of a log without a torn end: what it takes in is E -/
theorem open_any_v {d : D} {pre : ByteArray} {o : Option (Nat × List UInt8)} {E E2 : List (List UInt8)} {m : Nat} (hfu : d.fused = false) (hp : pre.size ≤ 20) (himg : fv d (imgN pre) = imgV o) (hk : LOk o E2)
    (hE : ∀ p ∈ E, p.length ≤ 1000000) (hlog : fv d (logN pre) = logV m E) (ht : takesAll (-1) (lgO pre o []) (recsL m E) = (true, lgO pre o E2)) (he : E = [] → E2 = []) (hs : E2 ≠ [] → logB m E = logB (baseO o + 1) E2) :
    ∃ d2, openL d pre = (d2, lgO pre o E2, 0) ∧ d2.fused = false ∧ d2.room = d.room ∧ LV d2 pre o E2 ∧ fv d2 (sh (imgN pre)) = none ∧ ∀ t, t ≠ sh (imgN pre) → t ≠ logN pre → fv d2 t = fv d t := by
  obtain ⟨n1, n2, n3⟩ := names_ok hp
  obtain ⟨c1, c2, c3, c4⟩ := clears_v hfu hp
  obtain ⟨d1, hd1⟩ : ∃ d1, d1 = (clears d pre).1 := ⟨_, rfl⟩
  rw [← hd1] at c2 c3 c4
  have x1 := sh_img pre
  have x2 := sh_log pre
  have x3 := img_log pre
  have f1 : fv d1 (imgN pre) = imgV o := by rw [c2, up_off _ x1.symm]; exact himg
  have f2 : fv d1 (logN pre) = logV m E := by rw [c2, up_off _ x2.symm]; exact hlog
  have f3 : fv d1 (sh (imgN pre)) = none := by rw [c2, up_at]
  have f4 : ∀ t, t ≠ sh (imgN pre) → fv d1 t = fv d t := fun t a => by rw [c2, up_off _ a]
  have him := load_v f1 hk
  have ho : openL d pre = log d1 (lgO pre o []) := by
    unfold openL
    rw [if_pos c1, ← hd1, him, if_pos rfl]
  by_cases hE0 : E = []
  · have h2 := he hE0
    subst h2 hE0
    have hl : fv d1 (logN pre) = none := f2
    refine ⟨d1, ?_, c3, c4, ⟨f1, by rw [hl]; rfl⟩, f3, fun t a _ => f4 t a⟩
    rw [ho]
    unfold log
    show (match getF d1.fs (logN pre) with | none => _ | some f => _) = _
    rw [fv_none hl]
  · unfold logV at f2
    rw [if_neg hE0] at f2
    obtain ⟨f, g1, g2, g3⟩ := fv_some f2
    have hlg : log d1 (lgO pre o []) = ((logCut d1 pre (logB m E).length (logB m E).length E2.isEmpty).1, lgO pre o E2, (logCut d1 pre (logB m E).length (logB m E).length E2.isEmpty).2) := by
      unfold log
      show (match getF d1.fs (logN pre) with | none => _ | some f => _) = _
      rw [g1]
      show (if (takesAll (-1) (lgO pre o []) (scan f.data).1).1 then _ else _) = _
      rw [g2, scan_all hE]
      show (if (takesAll (-1) (lgO pre o []) (recsL m E)).1 then _ else _) = _
      rw [ht, if_pos rfl]
      rfl
    have hcut : ∀ b, logCut d1 pre (logB m E).length (logB m E).length b = logEnd d1 pre b := fun b => by unfold logCut; rw [if_neg (by omega)]
    rw [hcut] at hlg
    rw [ho, hlg]
    by_cases h2 : E2 = []
    · subst h2
      obtain ⟨r1, r2⟩ := remove_v n2 (alive_of c3) (by rw [g1]; rfl : (getF d1.fs (logN pre)).isSome = true)
      refine ⟨(d1.remove [logN pre]).1, ?_, (remove_fused _ _).trans c3, (remove_room _ _).trans c4, ⟨by rw [r2, up_off _ x3, f1], by rw [r2, up_at]; rfl⟩, by rw [r2, up_off _ x2, f3], fun t a b => by rw [r2, up_off _ b, f4 t a]⟩
      show ((d1.remove [logN pre]).1, _, (d1.remove [logN pre]).2) = _
      rw [r1]
    · have he2 : E2.isEmpty = false := by cases E2 with | nil => exact absurd rfl h2 | cons x r => rfl
      rw [he2]
      refine ⟨d1, rfl, c3, c4, ⟨f1, ?_⟩, f3, fun t a _ => f4 t a⟩
      rw [f2]
      unfold logV
      rw [if_neg h2, hs h2]
/-- Open of a ledger as it stands -/
theorem open_lv {d : D} {pre : ByteArray} {o : Option (Nat × List UInt8)} {E : List (List UInt8)} (hfu : d.fused = false) (hp : pre.size ≤ 20) (h : LV d pre o E) (hk : LOk o E) :
    ∃ d2, openL d pre = (d2, lgO pre o E, 0) ∧ d2.fused = false ∧ d2.room = d.room ∧ LV d2 pre o E ∧ fv d2 (sh (imgN pre)) = none ∧ ∀ t, t ≠ sh (imgN pre) → t ≠ logN pre → fv d2 t = fv d t := by
  refine open_any_v hfu hp h.img hk hk.ent h.log ?_ id fun _ => rfl
  have := takes_run E (-1) (lgO pre o []) hk.ent (by show baseO o + 0 + _ ≤ _; have := hk.base; omega) (fun h => by omega)
  exact this
/-- Open where the log has only what the image has -/
theorem open_old {d : D} {pre : ByteArray} {o : Option (Nat × List UInt8)} {E : List (List UInt8)} (hfu : d.fused = false) (hp : pre.size ≤ 20) (himg : fv d (imgN pre) = imgV o) (hk : LOk o []) (hE : ∀ p ∈ E, p.length ≤ 1000000) (hlog : fv d (logN pre) = logV 1 E) (hl : E.length ≤ baseO o) :
    ∃ d2, openL d pre = (d2, lgO pre o [], 0) ∧ d2.fused = false ∧ d2.room = d.room ∧ LV d2 pre o [] ∧ fv d2 (sh (imgN pre)) = none ∧ ∀ t, t ≠ sh (imgN pre) → t ≠ logN pre → fv d2 t = fv d t := by
  refine open_any_v hfu hp himg hk hE hlog ?_ (fun _ => rfl) (fun h => absurd rfl h)
  exact takes_over E 1 (-1) (lgO pre o []) hE (by show 1 + E.length ≤ baseO o + 1; omega) (by omega) (by show baseO o ≤ _; have := hk.base; omega) (fun h => by omega)
/-- an append -/
theorem append_lv {d : D} {pre : ByteArray} {o : Option (Nat × List UInt8)} {E : List (List UInt8)} {p : List UInt8} {n : Nat} (hi : DInv d n) (hfu : d.fused = false) (hp : pre.size ≤ 20) (hpl : p.length ≤ 65536) (h : LV d pre o E) (hk : baseO o + E.length < 1099511627776)
    (hu : d.used + (p.length + 30) ≤ d.room) (hn : d.fs.length < 4096) :
    ∃ d2, appendL d (lgO pre o E) p = (d2, lgO pre o (E ++ [p]), baseO o + E.length + 1, 0) ∧ DInv d2 (n + 1) ∧ d2.fused = false ∧ d2.room = d.room ∧ d2.used ≤ d.used + (p.length + 30) ∧ LV d2 pre o (E ++ [p]) ∧ ∀ t, t ≠ logN pre → fv d2 t = fv d t := by
  have hla : (lgO pre o E).last = baseO o + E.length := rfl
  have hrl := recL_length ((lgO pre o E).last + 1) p (by omega)
  have hrr := rec_length (recL ((lgO pre o E).last + 1) p)
  obtain ⟨d2, a1, a2, a3, a4, a5, a6⟩ := appendL_v (g := lgO pre o E) (p := p) hi hfu rfl hp hpl (by rw [hla]; exact hk) (by omega) hn
  have hsn := logB_snoc (baseO o + 1) E p
  rw [show baseO o + 1 + E.length = (lgO pre o E).last + 1 from by rw [hla]; omega] at hsn
  obtain ⟨X, hX⟩ : ∃ X, X = rec_ (recL ((lgO pre o E).last + 1) p) := ⟨_, rfl⟩
  rw [← hX] at a5 a6 hrr hsn
  rw [hla] at a1
  have a7 : fv d2 = upV (fv d) (logN pre) (some (logOf (fv d (logN pre)) X, (logOf (fv d (logN pre)) X).length)) := a6
  have hl : logOf (fv d (logN pre)) X = logB (baseO o + 1) (E ++ [p]) := by
    rw [h.log, hsn]
    unfold logV
    by_cases he : E = []
    · subst he
      rw [if_pos rfl]
      simp [logOf, logB, recsL]
    · rw [if_neg he]; rfl
  rw [hl] at a7
  refine ⟨d2, a1, a2, a3, a4, by omega, ⟨?_, ?_⟩, fun t ht => ?_⟩
  · rw [a7, up_off _ (img_log pre), h.img]
  · rw [a7, up_at]
    unfold logV
    rw [if_neg (by simp)]
  · rw [a7]
    exact up_off _ ht
/-- a crash leaves what was synced -/
theorem crash_at {d : D} {s : ByteArray} (k : Nat) (h : fv d s = none ∨ ∃ x : List UInt8, fv d s = some (x, x.length)) : fv (d.crash k) s = fv d s := by
  rw [crash_v]
  rcases h with h | ⟨x, h⟩
  · rw [h]; rfl
  · rw [h]
    simp [Nat.mod_one]
theorem img_synced (o : Option (Nat × List UInt8)) : imgV o = none ∨ ∃ x : List UInt8, imgV o = some (x, x.length) := by
  cases o with
  | none => exact .inl rfl
  | some y => exact .inr ⟨_, rfl⟩
theorem log_synced (n : Nat) (E : List (List UInt8)) : logV n E = none ∨ ∃ x : List UInt8, logV n E = some (x, x.length) := by
  unfold logV
  by_cases h : E = []
  · rw [if_pos h]; exact .inl rfl
  · rw [if_neg h]; exact .inr ⟨_, rfl⟩
theorem crash_lv {d : D} {pre : ByteArray} {o : Option (Nat × List UInt8)} {E : List (List UInt8)} (k : Nat) (h : LV d pre o E) : LV (d.crash k) pre o E :=
  ⟨by rw [crash_at k (by rw [h.img]; exact img_synced o)]; exact h.img, by rw [crash_at k (by rw [h.log]; exact log_synced _ _)]; exact h.log⟩
theorem lv_off {d d2 : D} {pre : ByteArray} {o : Option (Nat × List UInt8)} {E : List (List UInt8)} (h : LV d pre o E) (h1 : fv d2 (imgN pre) = fv d (imgN pre)) (h2 : fv d2 (logN pre) = fv d (logN pre)) : LV d2 pre o E := ⟨h1.trans h.img, h2.trans h.log⟩
theorem lgO_ok {pre : ByteArray} {o : Option (Nat × List UInt8)} {E : List (List UInt8)} (hp : pre.size ≤ 20) (hk : LOk o E) (hl : E.length ≤ 1048576) : GOk (lgO pre o E) := ⟨hp, by show baseO o ≤ _; have := hk.base; omega, hl, by show (dataO o).length ≤ _; have := hk.data; omega, fun x hx => by have := hk.ent x hx; omega⟩
end Go.Proofs.Ytkbfjgmgckbogaa.Ld
