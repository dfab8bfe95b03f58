/-
  Append of the reference's disk (chapter 3).
-/
import Derived.Test.YtkbfjgmgckbogaaGreatRefAt
import Derived.Test.YtkbfjgmgckbogaaGreatStep
import Derived.Deep.RegionHeld3
import Derived.Deep.RegionWith
import Derived.Deep.RegionLaw
import Derived.Deep.DeepCutAuto
import Derived.Deep.QuietTactic
import Derived.BigQuiet
namespace Go.Proofs.YtkbfjgmgckbogaaGreat.Dsk
open Go.RowKit L Oct
section
variable {W0 w : World} {R : Asrt} {b : Nat} {r : RD} {v : Value} {l : List (AF × Value)}
theorem own_litF (w : World) (l : List (AF × Value)) (e : TypeId) (hm : l.length ≤ maxLen) : Own (w.alloc (.cells (rcl l).toArray e)) w.heap.size e 3 (.slice (some ⟨w.heap.size, 0, none⟩) l.length l.length) l.length (rcl l) :=
  ⟨rcl_length l, .inr ⟨w.heap.size, l.length, (rcl l).toArray, rfl, Nat.le_refl _, Rowed.of (heap_alloc_new w _) _, Nat.le_refl _, hm, by simp [rcl_length], by rw [List.take_of_length_le (by simp [rcl_length])]⟩⟩
def RD.full (r : RD) (s : ByteArray) (x : List UInt8) : Bool := decide (r.room < used r.fs + x.length) || (!isAt r.fs s && decide (4096 ≤ r.fs.length))
/-- with a file of that name -/
def withF (fs : List AF) (s : ByteArray) : List AF := if isAt fs s then fs else fs.take (spotN fs s) ++ ⟨s, [], 0⟩ :: fs.drop (spotN fs s)
def rputF (fs : List AF) (s : ByteArray) (x : List UInt8) : List AF := (withF fs s).set (spotN fs s) { (withF fs s).getD (spotN fs s) default with data := ((withF fs s).getD (spotN fs s) default).data ++ x }
def RD.append (r : RD) (s : ByteArray) (x : List UInt8) : RD × Nat :=
  if r.may [s] = 0 then if r.full s x then (r, 6) else ({ r with fs := rputF r.fs s x }.did, 0) else (r, r.may [s])
theorem withF_lt (fs : List AF) (s : ByteArray) : spotN fs s < (withF fs s).length := by
  unfold withF
  split
  · rename_i h; exact isAt_lt h
  · have := spotN_le fs s
    simp; omega
theorem withF_used (fs : List AF) (s : ByteArray) : used (withF fs s) = used fs := by
  unfold withF
  split
  · rfl
  · rw [used_append, used_cons]
    conv => rhs; rw [← List.take_append_drop (spotN fs s) fs]
    rw [used_append]
    simp
theorem put_at {k g : Nat} {A : Asrt} (H : Hold W0 (A.sep ((Blk b #[.int .i64 r.room, v, .int .i64 r.left] 43).sep ((Row 56 3 v l.length (rcl l)).sep R))) w) (hk : k < l.length)
    (hA : ∀ w' : World, (Instr.indexAt 41 v (.int .i64 (k : Int))).run Tryz.prog w' = .ok (.pointer (some ⟨g, k * 3, none⟩)) w') {p : AF × Value} (hp : p = l.getD k default) :
    w.cell? ⟨b, 1, none⟩ = some v ∧ w.cell? ⟨g, k * 3 + 1, none⟩ = some p.2 ∧ w.frozen? ⟨g, k * 3 + 1, none⟩ = false ∧
      ∀ (f : AF) (u : Value), f.name = p.1.name → f.lasts = p.1.lasts → Hold W0 ((Row 56 3 v l.length (rcl (l.set k (f, u)))).sep (A.sep ((Blk b #[.int .i64 r.room, v, .int .i64 r.left] 43).sep R))) (w.setCell ⟨g, k * 3 + 1, none⟩ u) := by
  have h1 := blk_cell H.up2.blk 1
  obtain ⟨g', p', hA', ⟨_, c1, _⟩, ⟨f1, _⟩, s1, _, Hp'⟩ := file_at H.up3 k hk
  obtain rfl : g = g' := by have := (hA w).symm.trans (hA' w); simpa using this
  have e : p' = p := by rw [Hp'.out, hp]
  subst e
  exact ⟨h1, c1, f1, s1⟩
theorem put_S {k g : Nat} {A : Asrt} (H : Hold W0 (A.sep ((Blk b #[.int .i64 r.room, v, .int .i64 r.left] 43).sep ((Row 56 3 v l.length (rcl l)).sep R))) w) (hk : k < l.length)
    (hA : ∀ w' : World, (Instr.indexAt 41 v (.int .i64 (k : Int))).run Tryz.prog w' = .ok (.pointer (some ⟨g, k * 3, none⟩)) w') {p : AF × Value} (hp : p = l.getD k default) :
    w.cell? ⟨b, 1, none⟩ = some v ∧ w.cell? ⟨g, k * 3 + 1, none⟩ = some p.2 := ⟨(put_at H hk hA hp).1, (put_at H hk hA hp).2.1⟩
theorem put_end {k g n : Nat} {x : List UInt8} {u : Value} {p : AF × Value} (hl : l.map Prod.fst = r.fs) (H : Hold W0 ((Row 5 1 u n (u8s (p.1.data ++ x))).sep ((Blk b #[.int .i64 r.room, v, .int .i64 r.left] 43).sep ((Row 56 3 v l.length (rcl l)).sep ((InB l).sep R)))) w) (hk : k < l.length)
    (hA : ∀ w' : World, (Instr.indexAt 41 v (.int .i64 (k : Int))).run Tryz.prog w' = .ok (.pointer (some ⟨g, k * 3, none⟩)) w') (hp : p = l.getD k default) (hn : n = (p.1.data ++ x).length) :
    w.frozen? ⟨g, k * 3 + 1, none⟩ = false ∧ (w.setCell ⟨g, k * 3 + 1, none⟩ u).cell? ⟨b, 1, none⟩ = some v ∧ Hold W0 ((RefA b { r with fs := r.fs.set k { p.1 with data := p.1.data ++ x } }).sep R) (w.setCell ⟨g, k * 3 + 1, none⟩ u) := by
  obtain ⟨_, _, f1, hset⟩ := put_at H hk hA hp
  have h1 := hset { p.1 with data := p.1.data ++ x } u rfl rfl
  refine ⟨f1, blk_cell h1.up3.blk 1, ?_⟩
  have h2 : Hold W0 ((Row 5 1 u n (u8s (p.1.data ++ x))).sep ((InB l).sep ((Row 56 3 v l.length (rcl (l.set k ({ p.1 with data := p.1.data ++ x }, u)))).sep ((Blk b #[.int .i64 r.room, v, .int .i64 r.left] 43).sep R)))) _ := h1.perm (by ac_rfl)
  have h3 := inB_join (f := { p.1 with data := p.1.data ++ x }) h2 hn
  have h4 := inB_set (k := k) (m := l) (f := { p.1 with data := p.1.data ++ x }) (u := u) h3 (fun q hq => ⟨q, List.mem_cons_of_mem _ hq, rfl, rfl⟩) ⟨_, List.mem_cons_self .., rfl, rfl⟩
  refine ref_shut (r := { r with fs := r.fs.set k { p.1 with data := p.1.data ++ x } }) (v := v) (map_set hl k _ u) ?_
  rw [List.length_set]
  exact h4.perm (by ac_rfl)
theorem slc_new {s : ByteArray} : SlcV [((⟨s, [], 0⟩ : AF), Value.slice none 0 0)] := fun p hp => by
  obtain rfl := List.mem_singleton.1 hp
  rfl
theorem ref_put {ao : Option Addr} {cap k n : Nat} {v0 : Value} {s : ByteArray} {fs1 : List AF} (hf : fs1 = (l.take k ++ ((⟨s, [], 0⟩ : AF), Value.slice none 0 0) :: l.drop k).map Prod.fst)
    (H : Hold W0 ((Row 56 3 (.slice ao n cap) n (rcl (l.take k ++ [((⟨s, [], 0⟩ : AF), Value.slice none 0 0)] ++ l.drop k))).sep ((Blk b #[.int .i64 r.room, v0, .int .i64 r.left] 43).sep ((Row 56 3 v0 l.length (rcl l)).sep ((InB l).sep R)))) w) (hn : n = k + 1 + (l.length - k)) (hk : k ≤ l.length) :
    Hold W0 ((RefA b { r with fs := fs1 }).sep R) (w.setCell ⟨b, 1, none⟩ (.slice ao n cap)) := by
  have h1 := H.up2.setB 1 (.slice ao n cap)
  have h2 := h1.up3.drop1
  have h3 := inB_sub (m := l.take k ++ ((⟨s, [], 0⟩ : AF), Value.slice none 0 0) :: l.drop k) (inB_zero (f := ⟨s, [], 0⟩) h2.up3 rfl) fun p hp => by
    rcases List.mem_append.1 hp with hp | hp
    · exact ⟨p, List.mem_cons_of_mem _ (List.mem_of_mem_take hp), rfl, rfl⟩
    · rcases List.mem_cons.1 hp with rfl | hp
      · exact ⟨_, List.mem_cons_self .., rfl, rfl⟩
      · exact ⟨p, List.mem_cons_of_mem _ (List.mem_of_mem_drop hp), rfl, rfl⟩
  refine ref_shut (r := { r with fs := fs1 }) (v := .slice ao n cap) (l := l.take k ++ ((⟨s, [], 0⟩ : AF), Value.slice none 0 0) :: l.drop k) hf.symm ?_
  rw [show (l.take k ++ ((⟨s, [], 0⟩ : AF), Value.slice none 0 0) :: l.drop k).length = n from by simp; omega]
  rw [List.append_assoc] at h3
  exact h3.perm (by ac_rfl)
set_option maxRecDepth 100000 in
set_option maxHeartbeats 3200000 in
theorem xappend_any (H : Hold W0 ((RefA b r).sep R) w) (hok : r.Ok) (hu : used r.fs ≤ 1073741824) (s : ByteArray) (v : Value) (x : List UInt8) (hv : Reads W0 R 1 v x.length (u8s x)) (hx : x.length ≤ 1073741824) :
    Calls Tryz.prog 7 #[ptr b, .string s, v] w (RetX W0 R b (r.append s x)) := by
  have HA := Lib.hid (H.keeps ((Below.refl w.heap.size w).alloc (Nat.le_refl _) (.cells #[.string s] 9)))
  obtain ⟨w1, hw1⟩ : ∃ w1, w1 = w.alloc (.cells #[.string s] 9) := ⟨_, rfl⟩
  have hmay := xmay_any HA.out (.slice (some ⟨w.heap.size, 0, none⟩) 1 1) [s] (sl_built w [.string s] 9 (by unfold maxLen; simp))
  rw [← hw1] at HA hmay
  have hspot := xspot_any HA.out s
  have hlenx := (hv.at H.drop1).run_len Tryz.underlying22
  obtain ⟨⟨hl1', hl2⟩, _, hl4⟩ := hok
  by_cases hm : r.may [s] = 0
  · have HM := Lib.hid hm
    obtain ⟨k, hk⟩ : ∃ k, k = spotN r.fs s := ⟨_, rfl⟩
    rw [← hk] at hspot
    have Hsp := Lib.hid hspot
    have Hmy := Lib.hid hmay
    have Hk := Lib.hid hk
    obtain ⟨is, his⟩ : ∃ is, is = isAt r.fs s := ⟨_, rfl⟩
    rw [← his] at Hsp
    have His := Lib.hid his
    have hkl : k ≤ r.fs.length := by rw [hk]; exact spotN_le _ _
    clear hmay hspot hm H hk his
    show Calls Tryz.prog 7 #[.pointer (some ⟨b, 0, none⟩), .string s, v] w _
    go_enter Tryz.func7, Tryz.ntmps7
    go_wp2_with fail
    rw [← hw1]
    refine Hmy.out.mono ?_
    rintro e w2 ⟨rfl, rfl⟩
    rw [HM.out]
    clear hw1
    go_wp2_with fail
    refine Hsp.out.mono ?_
    rintro e w3 ⟨rfl, n, rfl⟩
    obtain ⟨w3, hw3⟩ : ∃ w3, w3 = w1.drewN n := ⟨_, rfl⟩
    have H3 := HA.out.keeps (below_drewN (Below.refl _ _) n)
    rw [← hw3] at H3 ⊢
    clear hw3
    have hu2 : used r.fs ≤ 4611686018427387904 := by omega
    have HU := Lib.hid fun n => (xused_any (H3.keeps (below_drewN (Below.refl _ _) n)) hu2).mono fun e w' h => (⟨h.1, h.2.symm⟩ : _ ∧ w' = w3.drewN n)
    obtain ⟨v0, l, hl, H1⟩ := ref_open H3
    have k0 := blk_cell H1.blk 0
    have k1 := blk_cell H1.blk 1
    have hll : l.length = r.fs.length := by rw [← hl]; simp
    have hlenl := H1.up2.sl.run_len Tryz.underlying41
    have d0 : w3.cell? ⟨b, 0, none⟩ = some (.int .i64 r.room) := k0
    have d1 : w3.cell? ⟨b, 1, none⟩ = some v0 := k1
    have HO := Lib.hid H1
    have HL := Lib.hid hl
    have HLL := Lib.hid hll
    have hmx : l.length ≤ 4096 := by omega
    have hkl2 : k ≤ l.length := by omega
    have HD := Lib.hid H3
    clear H1 hl hll H3 k0 k1 hu2
    obtain ⟨un, hun⟩ : ∃ un, un = used r.fs := ⟨_, rfl⟩
    rw [← hun] at HU hu
    have Hun := Lib.hid hun
    clear hun
    have hsum : IntKind.i64.wrap ((un : Int) + (x.length : Int)) = (un : Int) + (x.length : Int) := IntWalk.i64_in _ (by omega)
    by_cases hfull : r.room < un + x.length
    · have g1 : decide ((r.room : Int) < (un : Int) + (x.length : Int)) = true := by simp; omega
      have hres : Hid (r.append s x = (r, 6)) := Lib.hid (by rw [RD.append, if_pos HM.out, RD.full, ← Hun.out]; simp [hfull])
      clear hfull
      go_wp2_with fail
      go_quiet ((go_at_call 16; exact Calls.quiet_of_same (HU.out _)))
      go_wp2
      go_ret
      rw [hres.out]
      exact ⟨rfl, HD.out.keeps (below_drewN (Below.refl _ _) _)⟩
    · have g1 : decide ((r.room : Int) < (un : Int) + (x.length : Int)) = false := by simp; omega
      by_cases hbig : is = false ∧ 4096 ≤ l.length
      · obtain ⟨rfl, hbig⟩ := hbig
        have g2 : decide ((4096 : Int) ≤ (l.length : Int)) = true := by simp; omega
        have hres : Hid (r.append s x = (r, 6)) := Lib.hid (by
          have : 4096 ≤ r.fs.length := by rw [← HLL.out]; exact hbig
          rw [RD.append, if_pos HM.out, RD.full, ← His.out]; simp [this])
        clear hfull hbig
        go_wp2_with fail
        go_quiet ((go_at_call 16; exact Calls.quiet_of_same (HU.out _)))
        go_wp2
        go_ret
        rw [hres.out]
        exact ⟨rfl, HD.out.keeps (below_drewN (Below.refl _ _) _)⟩
      · have hres : Hid (r.append s x = ({ r with fs := rputF r.fs s x }.did, 0)) := Lib.hid (by
          rw [RD.append, if_pos HM.out, RD.full, ← Hun.out, ← His.out, if_neg]
          rw [HLL.out] at hbig
          cases is <;> simp at hbig ⊢ <;> omega)
        have hcase : Hid ((is = true) ∨ (is = false ∧ decide ((4096 : Int) ≤ (l.length : Int)) = false)) := Lib.hid (by
          cases is with
          | true => exact .inl rfl
          | false => exact .inr ⟨rfl, by simp at hbig ⊢; omega⟩)
        clear hfull hbig
        obtain ⟨fs1, hfs1⟩ : ∃ fs1, fs1 = withF r.fs s := ⟨_, rfl⟩
        have HF1 := Lib.hid hfs1
        rcases hcase.out with rfl | ⟨rfl, g2⟩
        case' inl =>
          have hf : fs1 = r.fs := by rw [hfs1, withF, ← His.out]; rfl
          have H5' := Lib.hid (show Hold W0 ((RefA b { r with fs := fs1 }).sep R) w3 by rw [hf]; exact HD.out)
          clear hcase hf hfs1
          go_wp2_with fail
          go_quiet ((go_at_call 16; exact Calls.quiet_of_same (HU.out _)))
          go_upto_region 11 with fail
          have H5 := Lib.hid (H5'.out.keeps (below_drewN (Below.refl _ _) nq))
          obtain ⟨w5, hw5⟩ : ∃ w5, w5 = w3.drewN nq := ⟨_, rfl⟩
          rw [← hw5] at H5 ⊢
          clear hw5 H5'
        case' inr =>
          have hf : fs1 = (l.take k ++ (⟨s, [], 0⟩, .slice none 0 0) :: l.drop k).map Prod.fst := by
            rw [hfs1, withF, ← His.out, if_neg (by simp), List.map_append, List.map_cons, List.map_take, List.map_drop, HL.out, ← Hk.out]
          have Hf := Lib.hid hf
          clear hcase hf hfs1
          go_wp2_with fail
          go_quiet ((go_at_call 16; exact Calls.quiet_of_same (HU.out _)))
          obtain ⟨w4, hw4⟩ : ∃ w4, w4 = w3.drewN nq := ⟨_, rfl⟩
          have HO4 := HO.out.keeps (below_drewN (Below.refl _ _) nq)
          rw [← hw4] at HO4 ⊢
          clear hw4
          have hE : Own (w4.alloc (.cells #[] 56)) w4.heap.size 56 3 (.slice (some ⟨w4.heap.size, 0, none⟩) 0 0) 0 [] := own_litF w4 [] 56 (Nat.zero_le _)
          have H4 := HO4.addRow (below_one3 w4 (.cells #[] 56)) hE
          have hone := Lib.hid (rcl_one l (inB_slc H4.up4))
          obtain ⟨va, hra, hsa, _⟩ := run_slice_sl (P := Tryz.prog) H4.up3.sl Tryz.underlying41 Tryz.size56 none (some (.int .i64 (k : Int))) 0 k (.inl ⟨rfl, rfl⟩) (.inr ⟨.i64, rfl⟩) (by omega) (by omega)
          rw [Nat.sub_zero, Nat.zero_mul, List.drop_zero, rcl_take l k (by omega)] at hsa
          have d1' : (w4.alloc (.cells #[] 56)).cell? ⟨b, 1, none⟩ = some v0 := blk_cell H4.up2.blk 1
          have H4' := Lib.hid H4
          clear H4 HO4
          go_wp2_with (first
            | (at_builtin; refine wpList_app (sx := .tmp 48) elF H4'.out rfl _ rfl rfl rfl hsa (fun u hu => hone.out u (by rw [← List.take_append_drop (k * 3) (rcl l), rcl_take l k (by omega)]; exact List.mem_append_left _ hu)) (by omega) (by omega) ?_; intro v5 ys w5 Y5 H5; rw [Y5.out, List.nil_append, Nat.zero_add] at H5; have H5' := Lib.hid (H5.keeps (below_one3 w5 (.cells (rcl [(⟨s, [], 0⟩, .slice none 0 0)]).toArray 56))); have hsl := Lib.hid (own_litF w5 [(⟨s, [], 0⟩, .slice none 0 0)] 56 (by simp [maxLen])).sl; clear H5 hsa hra d1' H4')
            | (at_builtin; refine wpList_app (sx := .tmp 56) elF H5'.out rfl _ rfl rfl rfl hsl.out (rcl_one _ slc_new) (by simp only [List.length_singleton]; omega) (by simp only [List.length_singleton]; omega) ?_; intro v6 ys6 w6 Y6 H6; rw [Y6.out, ← rcl_append] at H6; have d6 : w6.cell? ⟨b, 1, none⟩ = some v0 := blk_cell H6.up2.blk 1; obtain ⟨vb, hrb, hsb, _⟩ := run_slice_sl (P := Tryz.prog) H6.up3.sl Tryz.underlying41 Tryz.size56 (some (.int .i64 (k : Int))) none k l.length (.inr ⟨.i64, rfl⟩) (.inl ⟨rfl, rfl⟩) (by omega) (by omega); rw [rcl_drop l k (by omega), List.take_of_length_le (by rw [rcl_length, List.length_drop]; omega)] at hsb; have H6' := Lib.hid H6; clear H6 hsl H5')
            | (at_builtin; refine wpList_app (sx := .tmp 62) elF H6'.out rfl _ rfl rfl rfl hsb (fun u hu => hone.out u (by rw [← List.take_append_drop (k * 3) (rcl l), rcl_drop l k (by omega)]; exact List.mem_append_right _ hu)) (by simp only [List.length_singleton]; omega) (by simp only [List.length_singleton]; omega) ?_; intro v7 ys7 w7 Y7 H7; rw [Y7.out, ← rcl_append] at H7; obtain ⟨ao7, cap7, rfl⟩ := H7.own.shape; have d7 : w7.cell? ⟨b, 1, none⟩ = some v0 := blk_cell H7.up2.blk 1; have f7 := blk_free H7.up2.blk 1; have H7' := Lib.hid H7; clear H7 hsb hrb H6' d6)
            | fail)
          go_upto_region 11 with fail
          have H5 : Hid (Hold W0 ((RefA b { r with fs := fs1 }).sep R) (w7.setCell ⟨b, 1, none⟩ (.slice ao7 (k + 1 + (l.length - k)) cap7))) := Lib.hid (ref_put Hf.out H7'.out rfl (by omega))
          obtain ⟨w5, hw5⟩ : ∃ w5, w5 = w7.setCell ⟨b, 1, none⟩ (.slice ao7 (k + 1 + (l.length - k)) cap7) := ⟨_, rfl⟩
          rw [← hw5] at H5 ⊢
          clear hw5 d7 f7
        all_goals
          have hkl3 : k < fs1.length := by rw [HF1.out, Hk.out]; exact withF_lt _ _
          have hul := used_get hkl3
          rw [HF1.out, withF_used, ← HF1.out, ← Hun.out] at hul
          obtain ⟨v1, l1, hl1, HB⟩ := ref_open H5.out.drew
          have hl1 : l1.map Prod.fst = fs1 := hl1
          have hll1 : l1.length = fs1.length := by rw [← hl1]; simp
          have hkl4 : k < l1.length := by omega
          obtain ⟨g, p, hA, ⟨c0, c1, c2⟩, _, _, _, Hp⟩ := file_at HB.up2 k hkl4
          have hpl : p ∈ l1 := by rw [Hp.out]; simp [List.getD, hkl4]
          have hpf : p.1 = fs1.getD k default := by rw [Hp.out]; exact fst_get hl1 k hkl4
          rw [← hpf] at hul
          have HE1 := HB.addEmpty 5
          have sA := HE1.up4.inB p hpl
          have e1 : w5.drew.cell? ⟨b, 1, none⟩ = some v1 := blk_cell HB.blk 1
          have e2 : (w5.drew.alloc (.cells #[] 5)).cell? ⟨b, 1, none⟩ = some v1 := blk_cell HE1.up2.blk 1
          obtain ⟨g', p', hA', ⟨_, e3', _⟩, _, _, _, Hp'⟩ := file_at HE1.up3 k hkl4
          obtain rfl : g = g' := by have := (hA w5).symm.trans (hA' w5); simpa using this
          rw [Hp'.out, ← Hp.out] at e3'
          have HE1' := Lib.hid HE1
          have HL1 := Lib.hid hl1
          have Hpf := Lib.hid hpf
          have Hpl := Lib.hid hpl
          clear HB HE1 hl1 hll1 hpf hpl hA' Hp'
          obtain ⟨pv, hpv⟩ : ∃ pv, pv = p.2 := ⟨_, rfl⟩
          rw [← hpv] at c1 sA e3'
          have e4 : (w5.alloc (.cells #[] 5)).drew.cell? ⟨b, 1, none⟩ = some v1 := e2
          have e5 : (w5.alloc (.cells #[] 5)).drew.cell? ⟨g, k * 3 + 1, none⟩ = some pv := e3'
          have Hpv := Lib.hid hpv
          clear hpv
          go_cut [] (fun wc => Hold W0 ((RefA b { r with fs := fs1.set k { p.1 with data := p.1.data ++ x } }).sep R) wc)
          case first =>
            go_region_law
              (first
                | (refine step_app el8 HE1'.out ?_ (.tmp 77) (.tmp 85) ?_ ?_ ?_ sA (u8s_one _) (by omega) (by omega) ?_; (any_goals rfl); intro v6 ys6 w6 Y6 H6; rw [Y6.out, List.nil_append, Nat.zero_add] at H6; obtain ⟨hT61, hT62⟩ := put_S H6 hkl4 hA Hp.out; rw [← Hpv.out] at hT62; have H6' := Lib.hid H6; clear H6 HE1' sA)
                | (refine step_app el8 H6'.out ?_ (.tmp 86) (.tmp 87) ?_ ?_ ?_ (hv.at H6'.out.drop1.drop1.drop1.drop1) (u8s_one _) (by omega) (by omega) ?_; (any_goals rfl); intro v7 ys7 w7 Y7 H7; rw [Y7.out, ← u8s_append, ← List.length_append] at H7; obtain ⟨ao7, cap7, rfl⟩ := H7.own.shape; obtain ⟨hT71, hT72⟩ := put_S H7 hkl4 hA Hp.out; rw [← Hpv.out] at hT72; obtain ⟨hf7, hT8, hset7⟩ := put_end (r := { r with fs := fs1 }) HL1.out H7 hkl4 hA Hp.out rfl; rw [List.length_append] at hset7; have HS7 := Lib.hid hset7; clear H7 H6' hset7)
                | fail)
            all_goals
              go_wp2_with fail
              go_meet
              exact HS7.out
          case rest =>
            clear HE1' sA c0 c1 c2 e1 e2 e3' e4 e5
            have HC := Lib.hid hcut
            clear hcut
            go_wp2_with fail
            refine (xdid_any HC.out ⟨hl1', hl2⟩).mono ?_
            rintro e w8 ⟨rfl, h8⟩
            have H8 := Lib.hid h8
            clear h8
            go_wp2
            go_ret
            rw [hres.out]
            refine ⟨rfl, ?_⟩
            rw [rputF, ← Hk.out, ← HF1.out, ← Hpf.out]
            exact H8.out
  · have HM := Lib.hid hm
    obtain ⟨m, hmm⟩ : ∃ m : Nat, m = r.may [s] := ⟨_, rfl⟩
    have hres : Hid (r.append s x = (r, m)) := Lib.hid (by rw [RD.append, if_neg hm, hmm])
    have hne : ((m : Int) != 0) = true := by simp; omega
    rw [← hmm] at hmay
    have Hmy := Lib.hid hmay
    clear hmay hspot hm H hmm HM
    show Calls Tryz.prog 7 #[.pointer (some ⟨b, 0, none⟩), .string s, v] w _
    go_enter Tryz.func7, Tryz.ntmps7
    go_wp2_with fail
    rw [← hw1]
    refine Hmy.out.mono ?_
    rintro e w2 ⟨rfl, rfl⟩
    clear hw1
    go_wp2
    go_ret
    rw [hres.out]
    exact ⟨rfl, HA.out⟩
end
end Go.Proofs.YtkbfjgmgckbogaaGreat.Dsk
