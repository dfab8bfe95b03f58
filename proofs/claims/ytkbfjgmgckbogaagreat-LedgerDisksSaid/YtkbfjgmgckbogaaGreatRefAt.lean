/-
  A file of the reference's disk: its place, its cells, and stores to them. Sync and Read of the reference's disk.
-/
import Derived.Test.YtkbfjgmgckbogaaGreatRefSmall
import Derived.Test.YtkbfjgmgckbogaaGreatF5
import Derived.RegionTactic
import Derived.BigRegion
import Derived.StillTailTactics
namespace Go.Proofs.YtkbfjgmgckbogaaGreat.Dsk
open Go.RowKit L Oct
section
variable {W0 w : World} {R : Asrt} {b : Nat} {r : RD} {v : Value} {l : List (AF × Value)}
theorem file_at (h : Hold W0 ((Row 56 3 v l.length (rcl l)).sep R) w) (k : Nat) (hk : k < l.length) :
    ∃ (g : Nat) (p : AF × Value), (∀ w' : World, (Instr.indexAt 41 v (.int .i64 (k : Int))).run Tryz.prog w' = .ok (.pointer (some ⟨g, k * 3, none⟩)) w') ∧
      (w.cell? ⟨g, k * 3, none⟩ = some (.string p.1.name) ∧ w.cell? ⟨g, k * 3 + 1, none⟩ = some p.2 ∧ w.cell? ⟨g, k * 3 + 2, none⟩ = some (.int .i64 p.1.lasts)) ∧
      (w.frozen? ⟨g, k * 3 + 1, none⟩ = false ∧ w.frozen? ⟨g, k * 3 + 2, none⟩ = false) ∧
      (∀ (f : AF) (u : Value), f.name = p.1.name → f.lasts = p.1.lasts → Hold W0 ((Row 56 3 v l.length (rcl (l.set k (f, u)))).sep R) (w.setCell ⟨g, k * 3 + 1, none⟩ u)) ∧
      (∀ f : AF, f.name = p.1.name → Hold W0 ((Row 56 3 v l.length (rcl (l.set k (f, p.2)))).sep R) (w.setCell ⟨g, k * 3 + 2, none⟩ (.int .i64 f.lasts))) ∧ Hid (p = l.getD k default) := by
  obtain ⟨g, hA, c1, f1, s1⟩ := h.indexS (P := Tryz.prog) Tryz.underlying41 Tryz.size56 .i64 k 1 hk (by omega)
  obtain ⟨g2, hA2, c2, f2, s2⟩ := h.indexS (P := Tryz.prog) Tryz.underlying41 Tryz.size56 .i64 k 2 hk (by omega)
  obtain ⟨g0, hA0, c0, f0, s0⟩ := h.indexS (P := Tryz.prog) Tryz.underlying41 Tryz.size56 .i64 k 0 hk (by omega)
  have e2 : g2 = g := by
    have := (hA2 w).symm.trans (hA w)
    simpa using this
  have e0 : g0 = g := by
    have := (hA0 w).symm.trans (hA w)
    simpa using this
  subst e2 e0
  obtain ⟨g0, g1, g2⟩ := rcl_get l k hk
  rw [Nat.add_zero, g0] at c0
  rw [g1] at c1
  rw [g2] at c2
  refine ⟨_, l.getD k default, hA, ⟨c0, c1, c2⟩, ⟨f1, f2⟩, fun f u h1 h2 => ?_, fun f h1 => ?_, Lib.hid rfl⟩
  · rw [← rcl_setB l k f u hk h1 h2]; exact s1 u
  · rw [← rcl_setL l k f hk h1]; exact s2 _
theorem below_one3 (w : World) (o : Obj) : Below w.heap.size w (w.alloc o) := (Below.refl _ _).alloc (Nat.le_refl _) _
def RetX (W0 : World) (R : Asrt) (b : Nat) (y : RD × Nat) (e : Ending) (w' : World) : Prop := e = .returned (.int .i64 y.2) ∧ Hold W0 ((RefA b y.1).sep R) w'
def RD.Ok (r : RD) : Prop := (-1 ≤ r.left ∧ r.left ≤ 9223372036854775807) ∧ used r.fs ≤ 4611686018427387904 ∧ r.fs.length ≤ 4096
def RD.sync (r : RD) (s : ByteArray) : RD × Nat :=
  if r.may [s] = 0 then if isAt r.fs s then ({ r with fs := r.fs.set (spotN r.fs s) { r.fs.getD (spotN r.fs s) default with lasts := (r.fs.getD (spotN r.fs s) default).data.length } }.did, 0) else (r, 7)
  else (r, r.may [s])
theorem isAt_lt {fs : List AF} {s : ByteArray} (h : isAt fs s = true) : spotN fs s < fs.length := by
  unfold isAt at h
  simp only [Bool.and_eq_true, decide_eq_true_eq] at h
  exact h.1
theorem map_set {l : List (AF × Value)} {fs : List AF} (h : l.map Prod.fst = fs) (k : Nat) (f : AF) (u : Value) : (l.set k (f, u)).map Prod.fst = fs.set k f := by
  rw [List.map_set, h]
theorem inB_set {m : List (AF × Value)} {k : Nat} {f : AF} {u : Value} (h : Hold W0 ((InB l).sep R) w) (hm : ∀ p ∈ m, ∃ q ∈ l, p.2 = q.2 ∧ p.1.data = q.1.data) (hq : ∃ q ∈ l, u = q.2 ∧ f.data = q.1.data) : Hold W0 ((InB (m.set k (f, u))).sep R) w :=
  inB_sub h fun p hp => by
    rcases List.mem_or_eq_of_mem_set hp with hp | rfl
    · exact hm p hp
    · exact hq
set_option maxHeartbeats 1600000 in
theorem xsync_any (H : Hold W0 ((RefA b r).sep R) w) (hok : r.Ok) (s : ByteArray) : Calls Tryz.prog 36 #[ptr b, .string s] w (RetX W0 R b (r.sync s)) := by
  have HA := Lib.hid (H.keeps ((Below.refl w.heap.size w).alloc (Nat.le_refl _) (.cells #[.string s] 9)))
  obtain ⟨w1, hw1⟩ : ∃ w1, w1 = w.alloc (.cells #[.string s] 9) := ⟨_, rfl⟩
  have hmay := xmay_any HA.out (.slice (some ⟨w.heap.size, 0, none⟩) 1 1) [s] (sl_built w [.string s] 9 (by unfold maxLen; simp))
  rw [← hw1] at HA hmay
  have hspot := xspot_any HA.out s
  obtain ⟨⟨hl1, hl2⟩, _, _⟩ := hok
  by_cases hm : r.may [s] = 0
  · have HM := Lib.hid hm
    cases hi : isAt r.fs s with
    | false =>
      have hres : Hid (r.sync s = (r, 7)) := Lib.hid (by rw [RD.sync, if_pos hm, hi]; rfl)
      rw [hi] at hspot
      have Hsp := Lib.hid hspot
      have Hmy := Lib.hid hmay
      clear hmay hspot hm H hi
      show Calls Tryz.prog 36 #[.pointer (some ⟨b, 0, none⟩), .string s] w _
      go_enter Tryz.func36, Tryz.ntmps36
      go_wp2_with fail
      rw [← hw1]
      refine Hmy.out.mono ?_
      rintro e w2 ⟨rfl, rfl⟩
      rw [HM.out]
      clear hw1
      go_wp2_with (go_at_call 15; refine Hsp.out.mono ?_; rintro e w3 ⟨rfl, n, rfl⟩)
      go_ret
      rw [hres.out]
      exact ⟨rfl, HA.out.keeps (below_drewN (Below.refl _ _) n)⟩
    | true =>
      obtain ⟨k, hk⟩ : ∃ k, k = spotN r.fs s := ⟨_, rfl⟩
      have hkl := isAt_lt hi
      rw [← hk] at hkl
      have hres : Hid (r.sync s = ({ r with fs := r.fs.set k { r.fs.getD k default with lasts := (r.fs.getD k default).data.length } }.did, 0)) := Lib.hid (by rw [RD.sync, if_pos hm, hi, if_pos rfl, hk])
      rw [hi, ← hk] at hspot
      have Hsp := Lib.hid hspot
      have Hmy := Lib.hid hmay
      clear hmay hspot hm H hi hk
      show Calls Tryz.prog 36 #[.pointer (some ⟨b, 0, none⟩), .string s] w _
      go_enter Tryz.func36, Tryz.ntmps36
      go_wp2_with fail
      rw [← hw1]
      refine Hmy.out.mono ?_
      rintro e w2 ⟨rfl, rfl⟩
      rw [HM.out]
      clear hw1
      go_wp2_with (go_at_call 15; refine Hsp.out.mono ?_; rintro e w3 ⟨rfl, n, rfl⟩)
      obtain ⟨w3, hw3⟩ : ∃ w3, w3 = w1.drewN n := ⟨_, rfl⟩
      have H3 := HA.out.keeps (below_drewN (Below.refl _ _) n)
      rw [← hw3] at H3 ⊢
      clear hw3
      obtain ⟨v, l, hl, H1⟩ := ref_open H3
      have k1 := blk_cell H1.blk 1
      have hll : l.length = r.fs.length := by rw [← hl]; simp
      have hkl2 : k < l.length := by omega
      obtain ⟨g, p, hA, ⟨c0, c1, c2⟩, ⟨f1, f2⟩, _, s2, Hp⟩ := file_at H1.drew.up2 k hkl2
      have hpl : p ∈ l := by rw [Hp.out]; simp [List.getD, hkl2]
      have hlen := (H1.up3.inB p hpl).run_len Tryz.underlying22
      have hpf : p.1 = r.fs.getD k default := by rw [Hp.out]; exact fst_get hl k hkl2
      have HH := s2 { p.1 with lasts := p.1.data.length } rfl
      have HF : Hid (Hold W0 ((RefA b ({ r with fs := r.fs.set k { r.fs.getD k default with lasts := (r.fs.getD k default).data.length } } : RD)).sep R) (w3.drew.setCell ⟨g, k * 3 + 2, none⟩ (.int .i64 p.1.data.length))) := Lib.hid (by
        refine ref_shut (v := v) (l := l.set k ({ p.1 with lasts := p.1.data.length }, p.2)) (by rw [map_set hl, hpf]) ?_
        rw [List.length_set]
        have h4 := HH.up3
        have h5 := inB_set (k := k) (f := { p.1 with lasts := p.1.data.length }) (u := p.2) h4 (fun q hq => ⟨q, hq, rfl, rfl⟩) ⟨p, hpl, rfl, rfl⟩
        exact h5.perm (by ac_rfl))
      have d0 : w3.drew.cell? ⟨b, 1, none⟩ = some v := k1
      obtain ⟨pv, hpv⟩ : ∃ pv, pv = p.2 := ⟨_, rfl⟩
      rw [← hpv] at c1 hlen
      obtain ⟨ln, hln⟩ : ∃ ln, ln = p.1.data.length := ⟨_, rfl⟩
      rw [← hln] at hlen HF
      clear H3 hl H1 hll hpl hpf HH hpv hln s2
      go_region
      go_wp2_with fail
      refine (xdid_any (r := { r with fs := r.fs.set k { r.fs.getD k default with lasts := (r.fs.getD k default).data.length } }) HF.out ⟨hl1, hl2⟩).mono ?_
      rintro e w5 ⟨rfl, h5⟩
      have H5 := Lib.hid h5
      clear h5
      go_wp2
      go_ret
      rw [hres.out]
      exact ⟨rfl, H5.out⟩
  · have HM := Lib.hid hm
    obtain ⟨m, hmm⟩ : ∃ m : Nat, m = r.may [s] := ⟨_, rfl⟩
    have hres : Hid (r.sync s = (r, m)) := Lib.hid (by rw [RD.sync, if_neg hm, hmm])
    have hne : ((m : Int) != 0) = true := by simp; omega
    rw [← hmm] at hmay
    have Hmy := Lib.hid hmay
    clear hmay hspot hm H hmm HM
    show Calls Tryz.prog 36 #[.pointer (some ⟨b, 0, none⟩), .string s] w _
    go_enter Tryz.func36, Tryz.ntmps36
    go_wp2_with fail
    rw [← hw1]
    refine Hmy.out.mono ?_
    rintro e w2 ⟨rfl, rfl⟩
    clear hw1
    go_wp2
    go_ret
    rw [hres.out]
    exact ⟨rfl, HA.out⟩
def RD.read (r : RD) (s : ByteArray) : Option (List UInt8) := if isAt r.fs s then some (r.fs.getD (spotN r.fs s) default).data else none
def RetXRead (w : World) (o : Option (List UInt8)) (e : Ending) (w' : World) : Prop :=
  (o = none ∧ e = .returned (.tuple #[.slice none 0 0, .int .i64 7]) ∧ Below w.heap.size w w') ∨ ∃ l v, o = some l ∧ e = .returned (.tuple #[v, .int .i64 0]) ∧ Own w' w.heap.size 5 1 v l.length (u8s l) ∧ Below w.heap.size w w'
theorem used_get {fs : List AF} {k : Nat} (hk : k < fs.length) : (fs.getD k default).data.length ≤ used fs := by
  have := used_take hk
  have := used_take_le fs (k + 1)
  omega
set_option maxHeartbeats 1600000 in
theorem xread_any (H : Hold W0 ((RefA b r).sep R) w) (hu : used r.fs ≤ 140737488355328) (s : ByteArray) : Calls Tryz.prog 33 #[ptr b, .string s] w (RetXRead w (r.read s)) := by
  have HA := Lib.hid H
  have hspot := xspot_any HA.out s
  cases hi : isAt r.fs s with
  | false =>
    have hres : Hid (r.read s = none) := Lib.hid (by rw [RD.read, hi]; rfl)
    rw [hi] at hspot
    have Hsp := Lib.hid hspot
    clear hspot H hi
    show Calls Tryz.prog 33 #[.pointer (some ⟨b, 0, none⟩), .string s] w _
    go_enter Tryz.func33, Tryz.ntmps33
    go_wp2_with (go_at_call 15; refine Hsp.out.mono ?_; rintro e w3 ⟨rfl, n, rfl⟩)
    go_ret2
    rw [hres.out]
    exact .inl ⟨rfl, rfl, below_drewN (Below.refl _ _) n⟩
  | true =>
    obtain ⟨k, hk⟩ : ∃ k, k = spotN r.fs s := ⟨_, rfl⟩
    have hkl := isAt_lt hi
    rw [← hk] at hkl
    have hul := used_get hkl
    have hres : Hid (r.read s = some (r.fs.getD k default).data) := Lib.hid (by rw [RD.read, hi, if_pos rfl, hk])
    rw [hi, ← hk] at hspot
    have Hsp := Lib.hid hspot
    clear hspot H hi hk
    show Calls Tryz.prog 33 #[.pointer (some ⟨b, 0, none⟩), .string s] w _
    go_enter Tryz.func33, Tryz.ntmps33
    go_wp2_with fail
    refine Hsp.out.mono ?_
    rintro e w3 ⟨rfl, n, rfl⟩
    obtain ⟨w3, hw3⟩ : ∃ w3, w3 = w.drewN n := ⟨_, rfl⟩
    have hb3 := below_drewN (Below.refl w.heap.size w) n
    have H3 := HA.out.keeps (below_drewN (Below.refl _ _) n)
    rw [← hw3] at H3 hb3 ⊢
    clear hw3
    obtain ⟨v, l, hl, H1⟩ := ref_open (H3.keeps (below_one3 w3 (.cells #[] 5)))
    have k1 := blk_cell H1.blk 1
    have hll : l.length = r.fs.length := by rw [← hl]; simp
    have hkl2 : k < l.length := by omega
    obtain ⟨g, p, hA, ⟨c0, c1, c2⟩, _, _, _, Hp⟩ := file_at H1.up2 k hkl2
    have hpl : p ∈ l := by rw [Hp.out]; simp [List.getD, hkl2]
    have hin := H1.up3.inB p hpl
    have hpf : p.1 = r.fs.getD k default := by rw [Hp.out]; exact fst_get hl k hkl2
    rw [← hpf] at hul hres
    obtain ⟨x, hx⟩ : ∃ x, x = p.1.data := ⟨_, rfl⟩
    obtain ⟨pv, hpv⟩ : ∃ pv, pv = p.2 := ⟨_, rfl⟩
    rw [← hpv] at c1 hin
    rw [← hx] at hin hul hres
    have HE := ((Hold.start w).keeps hb3).addEmpty 5
    have hA0 : (w3.alloc (.cells #[] 5)).cell? ⟨b, 1, none⟩ = some v := k1
    clear H3 hl H1 hll hpl hpf hpv hx k1
    have HEE := Lib.hid HE
    clear HE
    go_wp2_with (at_builtin; refine wpList_app (sx := .tmp 16) el8 HEE.out rfl _ rfl rfl rfl hin (u8s_one _) (by omega) (by omega) ?_; intro v4 xs4 w4 X4 H4; rw [X4.out, List.nil_append, Nat.zero_add] at H4; have HF := Lib.hid (Hold.fin H4); clear H4)
    go_ret2
    rw [hres.out]
    exact .inr ⟨x, v4, rfl, rfl, HF.out.1, HF.out.2⟩
end
end Go.Proofs.YtkbfjgmgckbogaaGreat.Dsk
