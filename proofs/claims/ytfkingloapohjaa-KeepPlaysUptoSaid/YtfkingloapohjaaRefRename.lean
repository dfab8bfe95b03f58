/-
  Rename of the reference's disk (chapter 3).
-/
import Derived.Test.YtfkingloapohjaaRefGone
namespace Go.Proofs.Ytfkingloapohjaa.Dsk
open Go.RowKit L Oct
section
variable {W0 w : World} {R : Asrt} {b : Nat} {r : RD} {v : Value} {l : List (AF × Value)}
def rlay (fs : List AF) (f : AF) : List AF := fs.take (spotN fs f.name) ++ f :: fs.drop (spotN fs f.name)
def RD.rename (r : RD) (old nm : ByteArray) : RD × Nat :=
  if r.may [old, nm] = 0 then if isAt r.fs old then if old.toList == nm.toList then (r.did, 0)
      else ({ r with fs := rlay (rgone (rgone r.fs old) nm) { r.fs.getD (spotN r.fs old) default with name := nm } }.did, 0)
    else (r, 7) else (r, r.may [old, nm])
theorem rgone_le (fs : List AF) (s : ByteArray) : (rgone fs s).length ≤ fs.length := by
  unfold rgone
  split
  · simp; omega
  · exact Nat.le_refl _
theorem lay_put {ao : Option Addr} {cap k n : Nat} {v0 : Value} {fs1 : List AF} {L : List (AF × Value)} {pn : AF × Value} (hs : SubB l L) (hpn : ∃ q ∈ L, pn.2 = q.2 ∧ pn.1.data = q.1.data) (hf : fs1 = (l.take k ++ pn :: l.drop k).map Prod.fst)
    (H : Hold W0 ((Row 81 3 (.slice ao n cap) n (rcl (l.take k ++ [pn] ++ l.drop k))).sep ((Blk b #[.int .i64 r.room, v0, .int .i64 r.left] 76).sep ((Row 81 3 v0 l.length (rcl l)).sep ((InB L).sep R)))) w) (hn : n = k + 1 + (l.length - k)) (hk : k ≤ l.length) :
    Hold W0 ((RefA b { r with fs := fs1 }).sep R) (w.setCell ⟨b, 1, none⟩ (.slice ao n cap)) := by
  have h1 := H.up2.setB 1 (.slice ao n cap)
  have h2 := h1.up3.drop1
  refine refL_ref (L := L) (refL_shut (r := { r with fs := fs1 }) (v := .slice ao n cap) (l := l.take k ++ pn :: l.drop k) hf.symm (fun p hp => ?_) ?_)
  · rcases List.mem_append.1 hp with hp | hp
    · exact hs p (List.mem_of_mem_take hp)
    · rcases List.mem_cons.1 hp with rfl | hp
      · exact hpn
      · exact hs p (List.mem_of_mem_drop hp)
  · rw [show (l.take k ++ pn :: l.drop k).length = n from by simp; omega]
    rw [List.append_assoc] at h2
    exact h2.perm (by ac_rfl)
set_option maxRecDepth 100000 in
set_option maxHeartbeats 3200000 in
theorem xrename_any (H : Hold W0 ((RefA b r).sep R) w) (hok : r.Ok) (s nm : ByteArray) : Calls Try.prog 68 #[ptr b, .string s, .string nm] w (RetX W0 R b (r.rename s nm)) := by
  have HA := Lib.hid (H.keeps ((Below.refl w.heap.size w).alloc (Nat.le_refl _) (.cells #[.string s, .string nm] 9)))
  obtain ⟨w1, hw1⟩ : ∃ w1, w1 = w.alloc (.cells #[.string s, .string nm] 9) := ⟨_, rfl⟩
  have hmay := xmay_any HA.out (.slice (some ⟨w.heap.size, 0, none⟩) 2 2) [s, nm] (sl_built w [.string s, .string nm] 9 (by unfold maxLen; simp))
  rw [← hw1] at HA hmay
  have hspot := xspot_any HA.out s
  obtain ⟨⟨hl1, hl2⟩, _, hl4⟩ := hok
  by_cases hm : r.may [s, nm] = 0
  · have HM := Lib.hid hm
    cases hi : isAt r.fs s with
    | false =>
      have hres : Hid (r.rename s nm = (r, 7)) := Lib.hid (by rw [RD.rename, if_pos hm, hi]; rfl)
      rw [hi] at hspot
      have Hsp := Lib.hid hspot
      have Hmy := Lib.hid hmay
      clear hmay hspot hm H hi
      show Calls Try.prog 68 #[.pointer (some ⟨b, 0, none⟩), .string s, .string nm] w _
      go_enter Try.func68, Try.ntmps68
      go_wp2_with fail
      rw [← hw1]
      refine Hmy.out.mono ?_
      rintro e w2 ⟨rfl, rfl⟩
      rw [HM.out]
      clear hw1
      go_wp2_with (go_at_call 48; refine Hsp.out.mono ?_; rintro e w3 ⟨rfl, nn, rfl⟩)
      go_ret
      rw [hres.out]
      exact ⟨rfl, HA.out.keeps (below_drewN (Below.refl _ _) nn)⟩
    | true =>
      obtain ⟨k, hk⟩ : ∃ k, k = spotN r.fs s := ⟨_, rfl⟩
      have hkl := isAt_lt hi
      rw [← hk] at hkl
      obtain ⟨f, hf⟩ : ∃ f, f = r.fs.getD k default := ⟨_, rfl⟩
      have Hres : Hid (r.rename s nm = if s.toList == nm.toList then (r.did, 0) else ({ r with fs := rlay (rgone (rgone r.fs s) nm) { f with name := nm } }.did, 0)) := Lib.hid (by rw [RD.rename, if_pos hm, hi, if_pos rfl, ← hk, ← hf])
      rw [hi, ← hk] at hspot
      have Hsp := Lib.hid hspot
      have Hmy := Lib.hid hmay
      have HF := Lib.hid hf
      clear hmay hspot hm H hi hk hf
      show Calls Try.prog 68 #[.pointer (some ⟨b, 0, none⟩), .string s, .string nm] w _
      go_enter Try.func68, Try.ntmps68
      go_wp2_with fail
      rw [← hw1]
      refine Hmy.out.mono ?_
      rintro e w2 ⟨rfl, rfl⟩
      rw [HM.out]
      clear hw1
      go_wp2_with fail
      refine Hsp.out.mono ?_
      rintro e w3 ⟨rfl, nn, rfl⟩
      obtain ⟨w3, hw3⟩ : ∃ w3, w3 = w1.drewN nn := ⟨_, rfl⟩
      have H3 := HA.out.keeps (below_drewN (Below.refl _ _) nn)
      rw [← hw3] at H3 ⊢
      clear hw3
      cases heq : (s.toList == nm.toList) with
      | true =>
        have hres : Hid (r.rename s nm = (r.did, 0)) := Lib.hid (by rw [Hres.out, heq]; rfl)
        have H3' := Lib.hid H3
        clear H3
        go_wp2_with fail
        refine (xdid_any H3'.out ⟨hl1, hl2⟩).mono ?_
        rintro e w8 ⟨rfl, h8⟩
        have H8 := Lib.hid h8
        clear h8
        go_wp2
        go_ret
        rw [hres.out]
        exact ⟨rfl, H8.out⟩
      | false =>
        have hres : Hid (r.rename s nm = ({ r with fs := rlay (rgone (rgone r.fs s) nm) { f with name := nm } }.did, 0)) := Lib.hid (by rw [Hres.out, heq]; rfl)
        obtain ⟨L, hLf, HL⟩ := ref_refL H3
        obtain ⟨v1, l1, hl1', hsub, HB⟩ := refL_open HL
        have hkl4 : k < l1.length := by
          have : l1.length = r.fs.length := by rw [← hl1']; simp
          omega
        obtain ⟨g, p, hA, ⟨c0, c1, c2⟩, _, _, _, Hp⟩ := file_at HB.up2 k hkl4
        have hpl : p ∈ l1 := by rw [Hp.out]; simp [List.getD, hkl4]
        have hpf : p.1 = f := by rw [Hp.out, HF.out]; exact fst_get hl1' k hkl4
        have e0 : w3.cell? ⟨b, 1, none⟩ = some v1 := blk_cell HB.blk 1
        have hpin := Lib.hid (hsub p hpl)
        rw [hpf] at c0 c2 hpin
        obtain ⟨pv, hpv⟩ : ∃ pv, pv = p.2 := ⟨_, rfl⟩
        have hone := (HB.up3.inB)
        have hpo : ∃ ao n cap, pv = .slice ao n cap := by
          obtain ⟨q, hq, e, _⟩ := hpin.out
          obtain ⟨_, ao, cap, e2, _⟩ := hone q hq
          exact ⟨ao, _, cap, by rw [hpv, e, e2]⟩
        rw [← hpv] at c1 hpin
        clear hpv
        obtain ⟨pa, pn, pc, rfl⟩ := hpo
        obtain ⟨pv, hpv⟩ : ∃ pv, pv = Value.slice pa pn pc := ⟨_, rfl⟩
        rw [← hpv] at hpin
        have Hpv := Lib.hid hpv
        clear hpv
        have HB12 := Lib.hid (HL.addBlk (cs := #[.string nm, .slice pa pn pc, .int .i64 f.lasts]) (t := 81) (b := w3.heap.size) rfl)
        clear H3 HL hl1' hsub HB hpl hpf hone hLf
        go_upto_region 11 with fail
        obtain ⟨b10, hb10⟩ : ∃ b10, b10 = w3.heap.size := ⟨_, rfl⟩
        obtain ⟨w5, hw5⟩ : ∃ w5, w5 = w3.alloc (.cells #[.string nm, .slice pa pn pc, .int .i64 f.lasts] 81) := ⟨_, rfl⟩
        rw [← hw5, ← hb10] at HB12
        rw [← hw5, ← hb10]
        clear hw5 hb10
        go_wp2_with fail
        refine (xremove_L HB12.out.up2 hl4 s).mono ?_
        rintro e w6 ⟨rfl, h6⟩
        have H6 := Lib.hid h6
        have hg1 := rgone_le r.fs s
        clear h6 HB12
        go_wp2_with fail
        refine (xremove_L (r := { r with fs := rgone r.fs s }) H6.out (by show (rgone r.fs s).length ≤ 4096; omega) nm).mono ?_
        rintro e w7 ⟨rfl, h7⟩
        obtain ⟨fs2, hfs2⟩ : ∃ fs2, fs2 = rgone (rgone r.fs s) nm := ⟨_, rfl⟩
        have hg2 := rgone_le (rgone r.fs s) nm
        have h7 : Hold W0 ((RefL b { r with fs := fs2 } L).sep ((Blk b10 #[.string nm, .slice pa pn pc, .int .i64 f.lasts] 81).sep R)) w7 := by rw [hfs2]; exact h7
        rw [← hfs2] at hg2
        have HF2 := Lib.hid hfs2
        have H7 := Lib.hid h7
        have hsp2 := xspot_any (refL_ref h7) nm
        have hsp2 : Calls Try.prog 48 #[ptr b, .string nm] w7 fun e w' => e = .returned (.tuple #[.int .i64 (spotN fs2 nm : Nat), .bool (isAt fs2 nm)]) ∧ ∃ n, w' = w7.drewN n := hsp2
        obtain ⟨k2, hk2⟩ : ∃ k, k = spotN fs2 nm := ⟨_, rfl⟩
        have hkl2 := spotN_le fs2 nm
        rw [← hk2] at hsp2 hkl2
        obtain ⟨is2, his2⟩ : ∃ i, i = isAt fs2 nm := ⟨_, rfl⟩
        rw [← his2] at hsp2
        have Hsp2 := Lib.hid hsp2
        have Hk2 := Lib.hid hk2
        clear h7 H6 hsp2 hfs2 hk2 his2
        go_wp2_with fail
        refine Hsp2.out.mono ?_
        rintro e w8 ⟨rfl, nq, rfl⟩
        obtain ⟨w8, hw8⟩ : ∃ w8, w8 = w7.drewN nq := ⟨_, rfl⟩
        have H8 := H7.out.keeps (below_drewN (Below.refl _ _) nq)
        rw [← hw8] at H8 ⊢
        clear hw8
        obtain ⟨v2, l2, hl2', hsub2, H9⟩ := refL_open H8
        have hl2' : l2.map Prod.fst = fs2 := hl2'
        have hll2 : l2.length = fs2.length := by
          have : (l2.map Prod.fst).length = fs2.length := by rw [hl2']
          simpa using this
        have hkl3 : k2 ≤ l2.length := by omega
        have hmx : l2.length ≤ 4096 := by omega
        have hE : Own (w8.alloc (.cells #[] 81)) w8.heap.size 81 3 (.slice (some ⟨w8.heap.size, 0, none⟩) 0 0) 0 [] := own_litF w8 [] 81 (Nat.zero_le _)
        have H4 := H9.addRow (below_one3 w8 (.cells #[] 81)) hE
        have hone := Lib.hid (rcl_one l2 (sub_slc hsub2 (inB_slc H4.up4)))
        obtain ⟨va, hra, hsa, _⟩ := run_slice_sl (P := Try.prog) H4.up3.sl Try.underlying74 Try.size81 none (some (.int .i64 (k2 : Int))) 0 k2 (.inl ⟨rfl, rfl⟩) (.inr ⟨.i64, rfl⟩) (by omega) (by omega)
        rw [Nat.sub_zero, Nat.zero_mul, List.drop_zero, rcl_take l2 k2 (by omega)] at hsa
        have d1' : (w8.alloc (.cells #[] 81)).cell? ⟨b, 1, none⟩ = some v2 := blk_cell H4.up2.blk 1
        have H4' := Lib.hid H4
        have Hsub2 := Lib.hid hsub2
        obtain ⟨pn2, hpn2⟩ : ∃ pn2 : AF × Value, pn2 = ({ f with name := nm }, Value.slice pa pn pc) := ⟨_, rfl⟩
        have hfin : rlay fs2 { f with name := nm } = (l2.take k2 ++ pn2 :: l2.drop k2).map Prod.fst := by
          rw [rlay, List.map_append, List.map_cons, List.map_take, List.map_drop, hl2', hpn2]
          show fs2.take (spotN fs2 nm) ++ _ = _
          rw [← Hk2.out]
        have Hfin := Lib.hid hfin
        have hpin2 : ∃ q ∈ L, pn2.2 = q.2 ∧ pn2.1.data = q.1.data := by
          obtain ⟨q, hq, e1, e2⟩ := hpin.out
          exact ⟨q, hq, by rw [hpn2, ← e1, Hpv.out], by rw [hpn2]; exact e2⟩
        have Hpin2 := Lib.hid hpin2
        have hslc : SlcV [pn2] := fun z hz => by
          obtain rfl := List.mem_singleton.1 hz
          rw [hpn2]; rfl
        have Hslc := Lib.hid hslc
        have hcl : rcl [pn2] = [.string nm, .slice pa pn pc, .int .i64 f.lasts] := by rw [hpn2]; rfl
        have Hcl := Lib.hid hcl
        clear H8 H9 hE H4 hsub2 hl2' hll2 hfin hpin2 hpn2 hslc hcl
        go_wp2_with (first
          | (at_builtin; refine wpList_app (sx := .tmp 56) elF H4'.out rfl _ rfl rfl rfl hsa (fun u hu => hone.out u (by rw [← List.take_append_drop (k2 * 3) (rcl l2), rcl_take l2 k2 (by omega)]; exact List.mem_append_left _ hu)) (by omega) (by omega) ?_; intro v5 ys w9 Y5 H5; rw [Y5.out, List.nil_append, Nat.zero_add] at H5; have kb0 := blk_cell H5.up5.blk 0; have kb1 := blk_cell H5.up5.blk 1; have kb2 := blk_cell H5.up5.blk 2; have H5' := Lib.hid (H5.keeps (below_one3 w9 (.cells #[.string nm, .slice pa pn pc, .int .i64 f.lasts] 81))); have hsl := Lib.hid (own_litF w9 [pn2] 81 (by simp [maxLen])).sl; rw [Hcl.out] at hsl; clear H5 hsa hra d1' H4')
          | (at_builtin; refine wpList_app (sx := .tmp 64) elF H5'.out rfl _ rfl rfl rfl hsl.out (by rw [← Hcl.out]; exact rcl_one _ Hslc.out) (by simp only [List.length_singleton]; omega) (by simp only [List.length_singleton]; omega) ?_; intro v6 ys6 w10 Y6 H6; rw [Y6.out, ← Hcl.out, ← rcl_append] at H6; have d6 : w10.cell? ⟨b, 1, none⟩ = some v2 := blk_cell H6.up2.blk 1; obtain ⟨vb, hrb, hsb, _⟩ := run_slice_sl (P := Try.prog) H6.up3.sl Try.underlying74 Try.size81 (some (.int .i64 (k2 : Int))) none k2 l2.length (.inr ⟨.i64, rfl⟩) (.inl ⟨rfl, rfl⟩) (by omega) (by omega); rw [rcl_drop l2 k2 (by omega), List.take_of_length_le (by rw [rcl_length, List.length_drop]; omega)] at hsb; have H6' := Lib.hid H6; clear H6 hsl H5' kb0 kb1 kb2)
          | (at_builtin; refine wpList_app (sx := .tmp 69) elF H6'.out rfl _ rfl rfl rfl hsb (fun u hu => hone.out u (by rw [← List.take_append_drop (k2 * 3) (rcl l2), rcl_drop l2 k2 (by omega)]; exact List.mem_append_right _ hu)) (by simp only [List.length_singleton]; omega) (by simp only [List.length_singleton]; omega) ?_; intro v7 ys7 w11 Y7 H7; rw [Y7.out, ← rcl_append] at H7; obtain ⟨ao7, cap7, rfl⟩ := H7.own.shape; have d7 : w11.cell? ⟨b, 1, none⟩ = some v2 := blk_cell H7.up2.blk 1; have f7 := blk_free H7.up2.blk 1; have HE := Lib.hid (lay_put (r := { r with fs := fs2 }) Hsub2.out Hpin2.out Hfin.out H7 rfl (by omega)); clear H7 hsb hrb H6' d6)
          | fail)
        refine (xdid_any HE.out ⟨hl1, hl2⟩).mono ?_
        rintro e w12 ⟨rfl, h12⟩
        have H12 := Lib.hid h12
        clear h12
        go_wp2
        go_ret
        rw [hres.out, ← HF2.out]
        exact ⟨rfl, H12.out.up2.drop1⟩
  · have HM := Lib.hid hm
    obtain ⟨m, hmm⟩ : ∃ m : Nat, m = r.may [s, nm] := ⟨_, rfl⟩
    have hres : Hid (r.rename s nm = (r, m)) := Lib.hid (by rw [RD.rename, if_neg hm, hmm])
    have hne : ((m : Int) != 0) = true := by simp; omega
    rw [← hmm] at hmay
    have Hmy := Lib.hid hmay
    clear hmay hspot hm H hmm HM
    show Calls Try.prog 68 #[.pointer (some ⟨b, 0, none⟩), .string s, .string nm] w _
    go_enter Try.func68, Try.ntmps68
    go_wp2_with fail
    rw [← hw1]
    refine Hmy.out.mono ?_
    rintro e w2 ⟨rfl, rfl⟩
    clear hw1
    go_wp2
    go_ret
    rw [hres.out]
    exact ⟨rfl, HA.out⟩
end
end Go.Proofs.Ytfkingloapohjaa.Dsk
