/-
  Texts that the proofs of this seat stand on, one behind the other: contracts of functions and plain lemmas. Conditions: those that each theorem states.
-/
import Derived.Test.YtkbfjgmgckbogaaGreatRefGone
import Derived.Test.YtkbfjgmgckbogaaGreatRefPut
import Derived.Test.YtkbfjgmgckbogaaGreatDiskCrash
import Derived.Deep.QuietTactic
import Derived.BigQuiet
/-
  Rename of the reference's disk (chapter 3).
-/

namespace Go.Proofs.YtkbfjgmgckbogaaGreat.Dsk
open Go.RowKit L Oct
section
variable {W0 w : World} {R : Asrt} {b : Nat} {r : RD} {v : Value} {l : List (AF × Value)}
def rlay (fs : List AF) (f : AF) : List AF := fs.take (spotN fs f.name) ++ f :: fs.drop (spotN fs f.name)
def RD.rename (r : RD) (old nm : ByteArray) : RD × Nat :=
  if r.may [old, nm] = 0 then if isAt r.fs old then if old.toList == nm.toList then (r.did, 0)
      else ({ r with fs := rlay (rgone (rgone r.fs old) nm) { r.fs.getD (spotN r.fs old) default with name := nm } }.did, 0)
    else (r, 7) else (r, r.may [old, nm])
theorem rgone_le (fs : List AF) (s : ByteArray) : (rgone fs s).length ≤ fs.length := by
  unfold rgone
  split
  · simp; omega
  · exact Nat.le_refl _
theorem lay_put {ao : Option Addr} {cap k n : Nat} {v0 : Value} {fs1 : List AF} {L : List (AF × Value)} {pn : AF × Value} (hs : SubB l L) (hpn : ∃ q ∈ L, pn.2 = q.2 ∧ pn.1.data = q.1.data) (hf : fs1 = (l.take k ++ pn :: l.drop k).map Prod.fst)
    (H : Hold W0 ((Row 56 3 (.slice ao n cap) n (rcl (l.take k ++ [pn] ++ l.drop k))).sep ((Blk b #[.int .i64 r.room, v0, .int .i64 r.left] 43).sep ((Row 56 3 v0 l.length (rcl l)).sep ((InB L).sep R)))) w) (hn : n = k + 1 + (l.length - k)) (hk : k ≤ l.length) :
    Hold W0 ((RefA b { r with fs := fs1 }).sep R) (w.setCell ⟨b, 1, none⟩ (.slice ao n cap)) := by
  have h1 := H.up2.setB 1 (.slice ao n cap)
  have h2 := h1.up3.drop1
  refine refL_ref (L := L) (refL_shut (r := { r with fs := fs1 }) (v := .slice ao n cap) (l := l.take k ++ pn :: l.drop k) hf.symm (fun p hp => ?_) ?_)
  · rcases List.mem_append.1 hp with hp | hp
    · exact hs p (List.mem_of_mem_take hp)
    · rcases List.mem_cons.1 hp with rfl | hp
      · exact hpn
      · exact hs p (List.mem_of_mem_drop hp)
  · rw [show (l.take k ++ pn :: l.drop k).length = n from by simp; omega]
    rw [List.append_assoc] at h2
    exact h2.perm (by ac_rfl)
end
end Go.Proofs.YtkbfjgmgckbogaaGreat.Dsk

/-
  List of the reference's disk (chapter 3).
-/

namespace Go.Proofs.YtkbfjgmgckbogaaGreat.Dsk
open Go.RowKit L Oct
section
variable {W0 w : World} {R : Asrt} {b : Nat} {r : RD}
theorem elSx : ElemOk Tryz.prog 68 9 1 16 := elemOk Tryz.underlying68 Tryz.info9 rfl (by decide)
def nms (fs : List AF) : List ByteArray := fs.map AF.name
def RetXList (w : World) (l : List ByteArray) (e : Ending) (w' : World) : Prop := ∃ v, e = .returned v ∧ Own w' w.heap.size 9 1 v l.length (strs l) ∧ Below w.heap.size w w'
def XLRel (w : World) (fs : List AF) (k : Nat) (x : Value) (wr : World) : Prop := Hold w ((Row 9 1 x k (strs (nms (fs.take k)))).sep Asrt.emp) wr
theorem nms_snoc {fs : List AF} {k : Nat} (hk : k < fs.length) : nms (fs.take (k + 1)) = nms (fs.take k) ++ [(fs.getD k default).name] := by
  rw [nms, List.take_succ_eq_append_getElem hk, List.map_append, nms]
  simp [List.getD, hk]
theorem strs_app (a b : List ByteArray) : strs (a ++ b) = strs a ++ strs b := by simp [strs]
theorem strs_one' (a : List ByteArray) : ∀ u ∈ strs a, u.oneCell' = true := fun u hu => by
  obtain ⟨x, _, rfl⟩ := List.mem_map.1 hu
  rfl
set_option maxRecDepth 100000 in
set_option maxHeartbeats 1600000 in
theorem xlist_any (H : Hold W0 ((RefA b r).sep R) w) (hl4 : r.fs.length ≤ 4096) : Calls Tryz.prog 38 #[ptr b] w (RetXList w (nms r.fs)) := by
  obtain ⟨v, l, hl, H1⟩ := ref_open H
  obtain ⟨fs, hfs⟩ : ∃ fs, fs = r.fs := ⟨_, rfl⟩
  have hll : l.length = fs.length := by rw [hfs, ← hl]; simp
  have HL : Hid (l.map Prod.fst = fs) := Lib.hid (by rw [hl, hfs])
  rw [← hfs] at hl4 ⊢
  have HO := Lib.hid H1
  have HLL := Lib.hid hll
  have hmx : l.length ≤ 4096 := by omega
  have H0 := Lib.hid ((Hold.start w).addNil 9 1)
  clear H1 hl H hfs hll
  show Calls Tryz.prog 38 #[.pointer (some ⟨b, 0, none⟩)] w _
  go_enter Tryz.func38, Tryz.ntmps38
  go_wp2
  go_loopw [3, 4] (fun x i wr => ∃ (k : Nat) (x' : Value), x' = x ∧ k ≤ l.length ∧ i = .int .i64 k ∧ XLRel w fs k x' wr) (fun _ i _ => l.length - (intOf i).toNat)
  case atStart => exact ⟨0, _, rfl, Nat.zero_le _, rfl, H0.out⟩
  case round =>
    clear H0
    obtain ⟨k, x, rfl, hk, rfl, hR⟩ := hrel
    have H2 := HO.out.keeps hR.old
    have k1 := blk_cell H2.blk 1
    have hs := H2.up2.sl
    have hlen := hs.run_len Tryz.underlying41
    by_cases hlt : k < l.length
    · obtain ⟨A, p, hA, c0, c1, c2, Hp⟩ := hs.atF k _ rfl hlt
      have hsn := nms_snoc (fs := fs) (k := k) (by rw [← HLL.out]; exact hlt)
      rw [← fst_get HL.out k hlt, ← Hp.out] at hsn
      have Hsn := Lib.hid hsn
      unfold XLRel at hR
      have HR := Lib.hid (hR.keeps (below_one3 wr (.cells #[.string p.1.name] 9)))
      have hsx := Lib.hid (sl_built wr [.string p.1.name] 9 (by unfold maxLen; simp))
      clear hsn hR H2 hs
      go_wp2_with (at_builtin; refine wpList_app (sx := .tmp 14) elSx HR.out rfl _ rfl rfl rfl hsx.out (strs_one' [p.1.name]) (by simp only [List.length_singleton]; omega) (by simp only [List.length_singleton]; omega) ?_; intro v5 ys w5 Y5 H5; rw [Y5.out, show [Value.string p.1.name] = strs [p.1.name] from rfl, ← strs_app, ← Hsn.out] at H5; have HN : Hid (XLRel w fs (k + 1) v5 w5) := Lib.hid H5; clear H5 HR)
      go_roundw
      case rel => exact ⟨k + 1, _, rfl, by omega, by go_num, HN.out⟩
      case measure => simp [intOf]; omega
    · obtain rfl : k = l.length := by omega
      unfold XLRel at hR
      have hF := Hold.fin hR
      rw [List.take_of_length_le (by rw [HLL.out]; omega)] at hF
      have HF := Lib.hid hF
      clear hR hF hs H2
      go_wp2
      go_ret
      refine ⟨x, rfl, ?_, HF.out.2⟩
      rw [show (nms fs).length = l.length from by rw [nms, List.length_map, HLL.out]]
      exact HF.out.1
end
end Go.Proofs.YtkbfjgmgckbogaaGreat.Dsk

/-
  New bytes in the place of a file's (the reference's disk, chapter 3).
-/

namespace Go.Proofs.YtkbfjgmgckbogaaGreat.Dsk
open Go.RowKit L Oct
section
variable {W0 w : World} {R : Asrt} {b : Nat} {r : RD} {v : Value} {l : List (AF × Value)}
def cutAF (f : AF) (m : Nat) : AF := { f with data := f.data.take m, lasts := min f.lasts m }
def RD.truncate (r : RD) (s : ByteArray) (n : Int) : RD × Nat :=
  if r.may [s] = 0 then if isAt r.fs s then
      if n < 0 ∨ ((r.fs.getD (spotN r.fs s) default).data.length : Int) < n then (r, 1) else ({ r with fs := r.fs.set (spotN r.fs s) (cutAF (r.fs.getD (spotN r.fs s) default) n.toNat) }.did, 0)
    else (r, 7) else (r, r.may [s])
theorem put_end2 {k g n : Nat} {x : List UInt8} {u : Value} {p : AF × Value} (hl : l.map Prod.fst = r.fs) (H : Hold W0 ((Row 5 1 u n (u8s x)).sep ((Blk b #[.int .i64 r.room, v, .int .i64 r.left] 43).sep ((Row 56 3 v l.length (rcl l)).sep ((InB l).sep R)))) w) (hk : k < l.length)
    (hA : ∀ w' : World, (Instr.indexAt 41 v (.int .i64 (k : Int))).run Tryz.prog w' = .ok (.pointer (some ⟨g, k * 3, none⟩)) w') (hp : p = l.getD k default) (hn : n = x.length) :
    w.frozen? ⟨g, k * 3 + 1, none⟩ = false ∧ (w.setCell ⟨g, k * 3 + 1, none⟩ u).cell? ⟨b, 1, none⟩ = some v ∧ Hold W0 ((RefA b { r with fs := r.fs.set k { p.1 with data := x } }).sep R) (w.setCell ⟨g, k * 3 + 1, none⟩ u) := by
  obtain ⟨_, _, f1, hset⟩ := put_at H hk hA hp
  have h1 := hset { p.1 with data := x } u rfl rfl
  refine ⟨f1, blk_cell h1.up3.blk 1, ?_⟩
  have h2 : Hold W0 ((Row 5 1 u n (u8s x)).sep ((InB l).sep ((Row 56 3 v l.length (rcl (l.set k ({ p.1 with data := x }, u)))).sep ((Blk b #[.int .i64 r.room, v, .int .i64 r.left] 43).sep R)))) _ := h1.perm (by ac_rfl)
  have h3 := inB_join (f := { p.1 with data := x }) h2 hn
  have h4 := inB_set (k := k) (m := l) (f := { p.1 with data := x }) (u := u) h3 (fun q hq => ⟨q, List.mem_cons_of_mem _ hq, rfl, rfl⟩) ⟨_, List.mem_cons_self .., rfl, rfl⟩
  refine ref_shut (r := { r with fs := r.fs.set k { p.1 with data := x } }) (v := v) (map_set hl k _ u) ?_
  rw [List.length_set]
  exact h4.perm (by ac_rfl)
end
end Go.Proofs.YtkbfjgmgckbogaaGreat.Dsk

/-
  Crash of the reference's disk (chapter 3).
-/




namespace Go.Proofs.YtkbfjgmgckbogaaGreat.Dsk
open Go.RowKit L Oct
section
variable {W0 w : World} {R : Asrt} {b : Nat} {r : RD} {v : Value} {l : List (AF × Value)}
theorem put_open {k g n : Nat} {x : List UInt8} {u : Value} {p : AF × Value} (H : Hold W0 ((Row 5 1 u n (u8s x)).sep ((Blk b #[.int .i64 r.room, v, .int .i64 r.left] 43).sep ((Row 56 3 v l.length (rcl l)).sep ((InB l).sep R)))) w) (hk : k < l.length)
    (hA : ∀ w' : World, (Instr.indexAt 41 v (.int .i64 (k : Int))).run Tryz.prog w' = .ok (.pointer (some ⟨g, k * 3, none⟩)) w') (hp : p = l.getD k default) (hn : n = x.length) :
    w.frozen? ⟨g, k * 3 + 1, none⟩ = false ∧ Hold W0 ((Blk b #[.int .i64 r.room, v, .int .i64 r.left] 43).sep ((Row 56 3 v (l.set k ({ p.1 with data := x }, u)).length (rcl (l.set k ({ p.1 with data := x }, u)))).sep ((InB (l.set k ({ p.1 with data := x }, u))).sep R))) (w.setCell ⟨g, k * 3 + 1, none⟩ u) := by
  obtain ⟨_, _, f1, hset⟩ := put_at H hk hA hp
  have h1 := hset { p.1 with data := x } u rfl rfl
  refine ⟨f1, ?_⟩
  have h2 : Hold W0 ((Row 5 1 u n (u8s x)).sep ((InB l).sep ((Row 56 3 v l.length (rcl (l.set k ({ p.1 with data := x }, u)))).sep ((Blk b #[.int .i64 r.room, v, .int .i64 r.left] 43).sep R)))) _ := h1.perm (by ac_rfl)
  have h3 := inB_join (f := { p.1 with data := x }) h2 hn
  have h4 := inB_set (k := k) (m := l) (f := { p.1 with data := x }) (u := u) h3 (fun q hq => ⟨q, List.mem_cons_of_mem _ hq, rfl, rfl⟩) ⟨_, List.mem_cons_self .., rfl, rfl⟩
  rw [List.length_set]
  exact h4.perm (by ac_rfl)
/-- behind i files of a crash -/
def crashTo (k : Nat) (fs : List AF) (i : Nat) : List AF := (fs.take i).map (crashF k) ++ fs.drop i
theorem crashTo_length (k : Nat) (fs : List AF) (i : Nat) : (crashTo k fs i).length = fs.length := by
  simp [crashTo]; omega
theorem crashTo_get {k : Nat} {fs : List AF} {i : Nat} (hi : i < fs.length) : (crashTo k fs i).getD i default = fs.getD i default := by
  unfold crashTo
  rw [List.getD, List.getElem?_append_right (by simp; omega)]
  simp [List.getD, List.getElem?_drop, Nat.min_eq_left (Nat.le_of_lt hi)]
theorem crashTo_succ {k : Nat} {fs : List AF} {i : Nat} (hi : i < fs.length) : (crashTo k fs i).set i (crashF k (fs.getD i default)) = crashTo k fs (i + 1) := by
  unfold crashTo
  rw [List.set_append_right _ _ (by simp; omega), List.take_succ_eq_append_getElem hi, List.map_append, List.append_assoc]
  congr 1
  rw [List.drop_eq_getElem_cons hi, show i - ((fs.take i).map (crashF k)).length = 0 from by simp; omega, List.set_cons_zero]
  simp only [List.getD, List.getElem?_eq_getElem hi, Option.getD_some, List.map_cons, List.map_nil, List.singleton_append]
def XCRel (W0 : World) (R : Asrt) (b : Nat) (r : RD) (k i : Nat) (wr : World) : Prop := Hold W0 ((RefA b { r with fs := crashTo k r.fs i }).sep R) wr
end
end Go.Proofs.YtkbfjgmgckbogaaGreat.Dsk

/-
  Truncate of the reference's disk (chapter 3).
-/

namespace Go.Proofs.YtkbfjgmgckbogaaGreat.Dsk
open Go.RowKit L Oct
section
variable {W0 w : World} {R : Asrt} {b : Nat} {r : RD} {v : Value} {l : List (AF × Value)}
set_option maxRecDepth 100000 in
set_option maxHeartbeats 3200000 in
theorem xtrunc_any (H : Hold W0 ((RefA b r).sep R) w) (hok : r.Ok) (hu : used r.fs ≤ 1073741824) (hla : ∀ f ∈ r.fs, f.lasts ≤ f.data.length) (s : ByteArray) (n : Int) : Calls Tryz.prog 35 #[ptr b, .string s, .int .i64 n] w (RetX W0 R b (r.truncate s n)) := by
  have HA := Lib.hid (H.keeps ((Below.refl w.heap.size w).alloc (Nat.le_refl _) (.cells #[.string s] 9)))
  obtain ⟨w1, hw1⟩ : ∃ w1, w1 = w.alloc (.cells #[.string s] 9) := ⟨_, rfl⟩
  have hmay := xmay_any HA.out (.slice (some ⟨w.heap.size, 0, none⟩) 1 1) [s] (sl_built w [.string s] 9 (by unfold maxLen; simp))
  rw [← hw1] at HA hmay
  have hspot := xspot_any HA.out s
  obtain ⟨⟨hl1, hl2⟩, _, hl4⟩ := hok
  by_cases hm : r.may [s] = 0
  · have HM := Lib.hid hm
    cases hi : isAt r.fs s with
    | false =>
      have hres : Hid (r.truncate s n = (r, 7)) := Lib.hid (by rw [RD.truncate, if_pos hm, hi]; rfl)
      rw [hi] at hspot
      have Hsp := Lib.hid hspot
      have Hmy := Lib.hid hmay
      clear hmay hspot hm H hi
      show Calls Tryz.prog 35 #[.pointer (some ⟨b, 0, none⟩), .string s, .int .i64 n] w _
      go_enter Tryz.func35, Tryz.ntmps35
      go_wp2_with fail
      rw [← hw1]
      refine Hmy.out.mono ?_
      rintro e w2 ⟨rfl, rfl⟩
      rw [HM.out]
      clear hw1
      go_wp2_with (go_at_call 15; refine Hsp.out.mono ?_; rintro e w3 ⟨rfl, nn, rfl⟩)
      go_ret
      rw [hres.out]
      exact ⟨rfl, HA.out.keeps (below_drewN (Below.refl _ _) nn)⟩
    | true =>
      obtain ⟨k, hk⟩ : ∃ k, k = spotN r.fs s := ⟨_, rfl⟩
      have hkl := isAt_lt hi
      rw [← hk] at hkl
      obtain ⟨f, hf⟩ : ∃ f, f = r.fs.getD k default := ⟨_, rfl⟩
      have hul := used_get hkl
      have hfl : f.lasts ≤ f.data.length := hla f (by rw [hf]; simp [List.getD, hkl])
      rw [← hf] at hul
      have Hres : Hid (r.truncate s n = if n < 0 ∨ (f.data.length : Int) < n then (r, 1) else ({ r with fs := r.fs.set k (cutAF f n.toNat) }.did, 0)) := Lib.hid (by rw [RD.truncate, if_pos hm, hi, if_pos rfl, ← hk, ← hf])
      rw [hi, ← hk] at hspot
      have Hsp := Lib.hid hspot
      have Hmy := Lib.hid hmay
      have HF := Lib.hid hf
      clear hmay hspot hm H hi hk hf hla
      show Calls Tryz.prog 35 #[.pointer (some ⟨b, 0, none⟩), .string s, .int .i64 n] w _
      go_enter Tryz.func35, Tryz.ntmps35
      go_wp2_with fail
      rw [← hw1]
      refine Hmy.out.mono ?_
      rintro e w2 ⟨rfl, rfl⟩
      rw [HM.out]
      clear hw1
      go_wp2_with fail
      refine Hsp.out.mono ?_
      rintro e w3 ⟨rfl, nn, rfl⟩
      obtain ⟨w3, hw3⟩ : ∃ w3, w3 = w1.drewN nn := ⟨_, rfl⟩
      have H3 := HA.out.keeps (below_drewN (Below.refl _ _) nn)
      rw [← hw3] at H3 ⊢
      clear hw3
      obtain ⟨v1, l1, hl1, HB⟩ := ref_open H3.drew
      have hkl4 : k < l1.length := by
        have : l1.length = r.fs.length := by rw [← hl1]; simp
        omega
      obtain ⟨g, p, hA, ⟨c0, c1, c2⟩, _, _, _, Hp⟩ := file_at HB.up2 k hkl4
      have hpl : p ∈ l1 := by rw [Hp.out]; simp [List.getD, hkl4]
      have hpf : p.1 = f := by rw [Hp.out, HF.out]; exact fst_get hl1 k hkl4
      have e1 : w3.drew.cell? ⟨b, 1, none⟩ = some v1 := blk_cell HB.blk 1
      have e0 : w3.cell? ⟨b, 1, none⟩ = some v1 := e1
      have c1' : w3.cell? ⟨g, k * 3 + 1, none⟩ = some p.2 := c1
      have hlp := (HB.up3.inB p hpl).run_len Tryz.underlying22
      rw [hpf] at hlp
      obtain ⟨pv, hpv⟩ : ∃ pv, pv = p.2 := ⟨_, rfl⟩
      rw [← hpv] at c1 c1' hlp
      have Hpv := Lib.hid hpv
      have Hpf := Lib.hid hpf
      have Hpl := Lib.hid hpl
      have HL1 := Lib.hid hl1
      have HBB := Lib.hid HB
      have H3' := Lib.hid H3
      clear hpv hpf hpl hl1 HB H3
      by_cases h0 : n < 0
      · have hres : Hid (r.truncate s n = (r, 1)) := Lib.hid (by rw [Hres.out, if_pos (.inl h0)])
        have g1 : decide (n < 0) = true := by simpa using h0
        clear h0
        go_wp2
        go_ret
        rw [hres.out]
        exact ⟨rfl, H3'.out⟩
      obtain ⟨m, rfl⟩ := Int.eq_ofNat_of_zero_le (show 0 ≤ n by omega)
      have g1 : decide ((m : Int) < 0) = false := by simp
      by_cases hbig : f.data.length < m
      · have hres : Hid (r.truncate s m = (r, 1)) := Lib.hid (by rw [Hres.out, if_pos (.inr (by omega))])
        have g2 : decide (f.data.length < m) = true := by simp; omega
        clear h0 hbig
        go_wp2
        go_ret
        rw [hres.out]
        exact ⟨rfl, H3'.out⟩
      have hres : Hid (r.truncate s m = ({ r with fs := r.fs.set k (cutAF f m) }.did, 0)) := Lib.hid (by rw [Hres.out, if_neg (by omega), Int.toNat_natCast])
      have g2 : decide (f.data.length < m) = false := by simp; omega
      have hmx : m ≤ f.data.length := by omega
      clear h0 hbig
      go_upto_region 9 with fail
      have HE1 := HBB.out.addEmpty 5
      have sA := HE1.up4.inB p Hpl.out
      obtain ⟨pa, hra, hsa, _⟩ := run_slice_sl (P := Tryz.prog) sA Tryz.underlying22 Tryz.size5 none (some (.int .i64 (m : Int))) 0 m (.inl ⟨rfl, rfl⟩) (.inr ⟨.i64, rfl⟩) (by omega) (by rw [Hpf.out]; omega)
      rw [Nat.sub_zero, Nat.zero_mul, List.drop_zero, Nat.mul_one, Hpf.out, show (u8s f.data).take m = u8s (f.data.take m) from by simp [u8s]] at hsa
      rw [← Hpv.out] at hra
      have e2 : (w3.drew.alloc (.cells #[] 5)).cell? ⟨b, 1, none⟩ = some v1 := blk_cell HE1.up2.blk 1
      have e4 : (w3.alloc (.cells #[] 5)).drew.cell? ⟨b, 1, none⟩ = some v1 := e2
      obtain ⟨g', p', hA', ⟨_, e3', _⟩, _, _, _, Hp'⟩ := file_at HE1.up3 k hkl4
      obtain rfl : g = g' := by have := (hA w3).symm.trans (hA' w3); simpa using this
      rw [Hp'.out, ← Hp.out, ← Hpv.out] at e3'
      have e5 : (w3.alloc (.cells #[] 5)).drew.cell? ⟨g, k * 3 + 1, none⟩ = some pv := e3'
      have HE1' := Lib.hid HE1
      clear HE1 sA hA' Hp'
      go_cut [] (fun wc => Hold W0 ((RefA b { r with fs := r.fs.set k { f with data := f.data.take m } }).sep R) wc)
      case first =>
        go_region_law
          (first
            | (refine step_app el8 HE1'.out ?_ (.tmp 45) (.tmp 55) ?_ ?_ ?_ hsa (u8s_one _) (by omega) (by omega) ?_; (any_goals rfl); intro v7 ys7 w7 Y7 H7; rw [Y7.out, List.nil_append, Nat.zero_add] at H7; obtain ⟨ao7, cap7, rfl⟩ := H7.own.shape; obtain ⟨hT71, hT72⟩ := put_S H7 hkl4 hA Hp.out; rw [← Hpv.out] at hT72; obtain ⟨hf7, hT8, hset7⟩ := put_end2 HL1.out H7 hkl4 hA Hp.out (by rw [List.length_take]; omega); rw [Hpf.out] at hset7; have HS7 := Lib.hid hset7; clear H7 HE1' hset7)
            | fail)
        all_goals
          go_wp2_with fail
          go_meet
          exact HS7.out
      case rest =>
        clear HE1' hsa hra c0 c1 c2 e1 e0 e2 e3' e4 e5 c1' hlp hA
        obtain ⟨v2, l2, hl2', H1⟩ := ref_open hcut.drew
        have hl2' : l2.map Prod.fst = r.fs.set k { f with data := f.data.take m } := hl2'
        have hll2 : l2.length = r.fs.length := by
          have : (l2.map Prod.fst).length = r.fs.length := by rw [hl2', List.length_set]
          simpa using this
        have hkl5 : k < l2.length := by omega
        obtain ⟨g2, q, hA2, ⟨d0, d1, d2⟩, ⟨f1, f2⟩, _, s2, Hq⟩ := file_at H1.up2 k hkl5
        have hqf : q.1 = { f with data := f.data.take m } := by
          rw [Hq.out, fst_get hl2' k hkl5]
          simp [List.getD, hkl]
        have hqp : q ∈ l2 := by rw [Hq.out]; simp [List.getD, hkl5]
        have eb : wc.drew.cell? ⟨b, 1, none⟩ = some v2 := blk_cell H1.blk 1
        have hql : q.1.lasts = f.lasts := by rw [hqf]
        rw [hql] at d2
        have HH := s2 (cutAF f m) (by rw [hqf]; rfl)
        have HFin : Hid (Hold W0 ((RefA b { r with fs := r.fs.set k (cutAF f m) }).sep R) (wc.drew.setCell ⟨g2, k * 3 + 2, none⟩ (.int .i64 (min f.lasts m : Nat)))) := Lib.hid (by
          refine ref_shut (r := { r with fs := r.fs.set k (cutAF f m) }) (v := v2) (l := l2.set k (cutAF f m, q.2)) (by rw [map_set hl2', List.set_set]) ?_
          rw [List.length_set]
          have h5 := inB_set (k := k) (f := cutAF f m) (u := q.2) HH.up3 (fun z hz => ⟨z, hz, rfl, rfl⟩) ⟨q, hqp, rfl, by rw [hqf]; rfl⟩
          exact h5.perm (by ac_rfl))
        clear HH H1 hl2' hll2 hqf hqp hql s2 hcut
        by_cases hmn : f.lasts ≤ m
        case' pos =>
          have em : min f.lasts m = f.lasts := by omega
          have gm : ¬ (m : Int) < (f.lasts : Int) := by omega
          have gm2 : min (f.lasts : Int) (m : Int) = (f.lasts : Int) := by omega
        case' neg =>
          have em : min f.lasts m = m := by omega
          have gm : (m : Int) < (f.lasts : Int) := by omega
          have gm2 : min (f.lasts : Int) (m : Int) = (m : Int) := by omega
        all_goals
          rw [em] at HFin
          clear em hmn
          go_wp2_with fail
          go_region
          go_wp2_with fail
          refine (xdid_any HFin.out ⟨hl1, hl2⟩).mono ?_
          rintro e w8 ⟨rfl, h8⟩
          have H8 := Lib.hid h8
          clear h8
          go_wp2
          go_ret
          rw [hres.out]
          exact ⟨rfl, H8.out⟩
  · have HM := Lib.hid hm
    obtain ⟨m, hmm⟩ : ∃ m : Nat, m = r.may [s] := ⟨_, rfl⟩
    have hres : Hid (r.truncate s n = (r, m)) := Lib.hid (by rw [RD.truncate, if_neg hm, hmm])
    have hne : ((m : Int) != 0) = true := by simp; omega
    rw [← hmm] at hmay
    have Hmy := Lib.hid hmay
    clear hmay hspot hm H hmm HM
    show Calls Tryz.prog 35 #[.pointer (some ⟨b, 0, none⟩), .string s, .int .i64 n] w _
    go_enter Tryz.func35, Tryz.ntmps35
    go_wp2_with fail
    rw [← hw1]
    refine Hmy.out.mono ?_
    rintro e w2 ⟨rfl, rfl⟩
    clear hw1
    go_wp2
    go_ret
    rw [hres.out]
    exact ⟨rfl, HA.out⟩
end
end Go.Proofs.YtkbfjgmgckbogaaGreat.Dsk
