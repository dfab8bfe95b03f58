/-
  Truncate of the reference's disk (chapter 3).
-/
import Derived.Test.YtnaggipeliifgaaF6
namespace Go.Proofs.Ytnaggipeliifgaa.Dsk
open Go.RowKit L Oct
section
variable {W0 w : World} {R : Asrt} {b : Nat} {r : RD} {v : Value} {l : List (AF × Value)}
set_option maxRecDepth 100000 in
set_option maxHeartbeats 3200000 in
theorem xtrunc_any (H : Hold W0 ((RefA b r).sep R) w) (hok : r.Ok) (hu : used r.fs ≤ 1073741824) (hla : ∀ f ∈ r.fs, f.lasts ≤ f.data.length) (s : ByteArray) (n : Int) : Calls Try.prog 44 #[ptr b, .string s, .int .i64 n] w (RetX W0 R b (r.truncate s n)) := by
  have HA := Lib.hid (H.keeps ((Below.refl w.heap.size w).alloc (Nat.le_refl _) (.cells #[.string s] 9)))
  obtain ⟨w1, hw1⟩ : ∃ w1, w1 = w.alloc (.cells #[.string s] 9) := ⟨_, rfl⟩
  have hmay := xmay_any HA.out (.slice (some ⟨w.heap.size, 0, none⟩) 1 1) [s] (sl_built w [.string s] 9 (by unfold maxLen; simp))
  rw [← hw1] at HA hmay
  have hspot := xspot_any HA.out s
  obtain ⟨⟨hl1, hl2⟩, _, hl4⟩ := hok
  by_cases hm : r.may [s] = 0
  · have HM := Lib.hid hm
    cases hi : isAt r.fs s with
    | false =>
      have hres : Hid (r.truncate s n = (r, 7)) := Lib.hid (by rw [RD.truncate, if_pos hm, hi]; rfl)
      rw [hi] at hspot
      have Hsp := Lib.hid hspot
      have Hmy := Lib.hid hmay
      clear hmay hspot hm H hi
      show Calls Try.prog 44 #[.pointer (some ⟨b, 0, none⟩), .string s, .int .i64 n] w _
      go_enter Try.func44, Try.ntmps44
      go_wp2_with fail
      rw [← hw1]
      refine Hmy.out.mono ?_
      rintro e w2 ⟨rfl, rfl⟩
      rw [HM.out]
      clear hw1
      go_wp2_with (go_at_call 57; refine Hsp.out.mono ?_; rintro e w3 ⟨rfl, nn, rfl⟩)
      go_ret
      rw [hres.out]
      exact ⟨rfl, HA.out.keeps (below_drewN (Below.refl _ _) nn)⟩
    | true =>
      obtain ⟨k, hk⟩ : ∃ k, k = spotN r.fs s := ⟨_, rfl⟩
      have hkl := isAt_lt hi
      rw [← hk] at hkl
      obtain ⟨f, hf⟩ : ∃ f, f = r.fs.getD k default := ⟨_, rfl⟩
      have hul := used_get hkl
      have hfl : f.lasts ≤ f.data.length := hla f (by rw [hf]; simp [List.getD, hkl])
      rw [← hf] at hul
      have Hres : Hid (r.truncate s n = if n < 0 ∨ (f.data.length : Int) < n then (r, 1) else ({ r with fs := r.fs.set k (cutAF f n.toNat) }.did, 0)) := Lib.hid (by rw [RD.truncate, if_pos hm, hi, if_pos rfl, ← hk, ← hf])
      rw [hi, ← hk] at hspot
      have Hsp := Lib.hid hspot
      have Hmy := Lib.hid hmay
      have HF := Lib.hid hf
      clear hmay hspot hm H hi hk hf hla
      show Calls Try.prog 44 #[.pointer (some ⟨b, 0, none⟩), .string s, .int .i64 n] w _
      go_enter Try.func44, Try.ntmps44
      go_wp2_with fail
      rw [← hw1]
      refine Hmy.out.mono ?_
      rintro e w2 ⟨rfl, rfl⟩
      rw [HM.out]
      clear hw1
      go_wp2_with fail
      refine Hsp.out.mono ?_
      rintro e w3 ⟨rfl, nn, rfl⟩
      obtain ⟨w3, hw3⟩ : ∃ w3, w3 = w1.drewN nn := ⟨_, rfl⟩
      have H3 := HA.out.keeps (below_drewN (Below.refl _ _) nn)
      rw [← hw3] at H3 ⊢
      clear hw3
      obtain ⟨v1, l1, hl1, HB⟩ := ref_open H3.drew
      have hkl4 : k < l1.length := by
        have : l1.length = r.fs.length := by rw [← hl1]; simp
        omega
      obtain ⟨g, p, hA, ⟨c0, c1, c2⟩, _, _, _, Hp⟩ := file_at HB.up2 k hkl4
      have hpl : p ∈ l1 := by rw [Hp.out]; simp [List.getD, hkl4]
      have hpf : p.1 = f := by rw [Hp.out, HF.out]; exact fst_get hl1 k hkl4
      have e1 : w3.drew.cell? ⟨b, 1, none⟩ = some v1 := blk_cell HB.blk 1
      have e0 : w3.cell? ⟨b, 1, none⟩ = some v1 := e1
      have c1' : w3.cell? ⟨g, k * 3 + 1, none⟩ = some p.2 := c1
      have hlp := (HB.up3.inB p hpl).run_len Try.underlying23
      rw [hpf] at hlp
      obtain ⟨pv, hpv⟩ : ∃ pv, pv = p.2 := ⟨_, rfl⟩
      rw [← hpv] at c1 c1' hlp
      have Hpv := Lib.hid hpv
      have Hpf := Lib.hid hpf
      have Hpl := Lib.hid hpl
      have HL1 := Lib.hid hl1
      have HBB := Lib.hid HB
      have H3' := Lib.hid H3
      clear hpv hpf hpl hl1 HB H3
      by_cases h0 : n < 0
      · have hres : Hid (r.truncate s n = (r, 1)) := Lib.hid (by rw [Hres.out, if_pos (.inl h0)])
        have g1 : decide (n < 0) = true := by simpa using h0
        clear h0
        go_wp2
        go_ret
        rw [hres.out]
        exact ⟨rfl, H3'.out⟩
      obtain ⟨m, rfl⟩ := Int.eq_ofNat_of_zero_le (show 0 ≤ n by omega)
      have g1 : decide ((m : Int) < 0) = false := by simp
      by_cases hbig : f.data.length < m
      · have hres : Hid (r.truncate s m = (r, 1)) := Lib.hid (by rw [Hres.out, if_pos (.inr (by omega))])
        have g2 : decide (f.data.length < m) = true := by simp; omega
        clear h0 hbig
        go_wp2
        go_ret
        rw [hres.out]
        exact ⟨rfl, H3'.out⟩
      have hres : Hid (r.truncate s m = ({ r with fs := r.fs.set k (cutAF f m) }.did, 0)) := Lib.hid (by rw [Hres.out, if_neg (by omega), Int.toNat_natCast])
      have g2 : decide (f.data.length < m) = false := by simp; omega
      have hmx : m ≤ f.data.length := by omega
      clear h0 hbig
      go_upto_region 9 with fail
      have HE1 := HBB.out.addEmpty 5
      have sA := HE1.up4.inB p Hpl.out
      obtain ⟨pa, hra, hsa, _⟩ := run_slice_sl (P := Try.prog) sA Try.underlying23 Try.size5 none (some (.int .i64 (m : Int))) 0 m (.inl ⟨rfl, rfl⟩) (.inr ⟨.i64, rfl⟩) (by omega) (by rw [Hpf.out]; omega)
      rw [Nat.sub_zero, Nat.zero_mul, List.drop_zero, Nat.mul_one, Hpf.out, show (u8s f.data).take m = u8s (f.data.take m) from by simp [u8s]] at hsa
      rw [← Hpv.out] at hra
      have e2 : (w3.drew.alloc (.cells #[] 5)).cell? ⟨b, 1, none⟩ = some v1 := blk_cell HE1.up2.blk 1
      have e4 : (w3.alloc (.cells #[] 5)).drew.cell? ⟨b, 1, none⟩ = some v1 := e2
      obtain ⟨g', p', hA', ⟨_, e3', _⟩, _, _, _, Hp'⟩ := file_at HE1.up3 k hkl4
      obtain rfl : g = g' := by have := (hA w3).symm.trans (hA' w3); simpa using this
      rw [Hp'.out, ← Hp.out, ← Hpv.out] at e3'
      have e5 : (w3.alloc (.cells #[] 5)).drew.cell? ⟨g, k * 3 + 1, none⟩ = some pv := e3'
      have HE1' := Lib.hid HE1
      clear HE1 sA hA' Hp'
      go_cut [] (fun wc => Hold W0 ((RefA b { r with fs := r.fs.set k { f with data := f.data.take m } }).sep R) wc)
      case first =>
        go_region_law
          (first
            | (refine step_app el8 HE1'.out ?_ (.tmp 45) (.tmp 55) ?_ ?_ ?_ hsa (u8s_one _) (by omega) (by omega) ?_; (any_goals rfl); intro v7 ys7 w7 Y7 H7; rw [Y7.out, List.nil_append, Nat.zero_add] at H7; obtain ⟨ao7, cap7, rfl⟩ := H7.own.shape; obtain ⟨hT71, hT72⟩ := put_S H7 hkl4 hA Hp.out; rw [← Hpv.out] at hT72; obtain ⟨hf7, hT8, hset7⟩ := put_end2 HL1.out H7 hkl4 hA Hp.out (by rw [List.length_take]; omega); rw [Hpf.out] at hset7; have HS7 := Lib.hid hset7; clear H7 HE1' hset7)
            | fail)
        all_goals
          go_wp2_with fail
          go_meet
          exact HS7.out
      case rest =>
        clear HE1' hsa hra c0 c1 c2 e1 e0 e2 e3' e4 e5 c1' hlp hA
        obtain ⟨v2, l2, hl2', H1⟩ := ref_open hcut.drew
        have hl2' : l2.map Prod.fst = r.fs.set k { f with data := f.data.take m } := hl2'
        have hll2 : l2.length = r.fs.length := by
          have : (l2.map Prod.fst).length = r.fs.length := by rw [hl2', List.length_set]
          simpa using this
        have hkl5 : k < l2.length := by omega
        obtain ⟨g2, q, hA2, ⟨d0, d1, d2⟩, ⟨f1, f2⟩, _, s2, Hq⟩ := file_at H1.up2 k hkl5
        have hqf : q.1 = { f with data := f.data.take m } := by
          rw [Hq.out, fst_get hl2' k hkl5]
          simp [List.getD, hkl]
        have hqp : q ∈ l2 := by rw [Hq.out]; simp [List.getD, hkl5]
        have eb : wc.drew.cell? ⟨b, 1, none⟩ = some v2 := blk_cell H1.blk 1
        have hql : q.1.lasts = f.lasts := by rw [hqf]
        rw [hql] at d2
        have HH := s2 (cutAF f m) (by rw [hqf]; rfl)
        have HFin : Hid (Hold W0 ((RefA b { r with fs := r.fs.set k (cutAF f m) }).sep R) (wc.drew.setCell ⟨g2, k * 3 + 2, none⟩ (.int .i64 (min f.lasts m : Nat)))) := Lib.hid (by
          refine ref_shut (r := { r with fs := r.fs.set k (cutAF f m) }) (v := v2) (l := l2.set k (cutAF f m, q.2)) (by rw [map_set hl2', List.set_set]) ?_
          rw [List.length_set]
          have h5 := inB_set (k := k) (f := cutAF f m) (u := q.2) HH.up3 (fun z hz => ⟨z, hz, rfl, rfl⟩) ⟨q, hqp, rfl, by rw [hqf]; rfl⟩
          exact h5.perm (by ac_rfl))
        clear HH H1 hl2' hll2 hqf hqp hql s2 hcut
        by_cases hmn : f.lasts ≤ m
        case' pos =>
          have em : min f.lasts m = f.lasts := by omega
          have gm : ¬ (m : Int) < (f.lasts : Int) := by omega
          have gm2 : min (f.lasts : Int) (m : Int) = (f.lasts : Int) := by omega
        case' neg =>
          have em : min f.lasts m = m := by omega
          have gm : (m : Int) < (f.lasts : Int) := by omega
          have gm2 : min (f.lasts : Int) (m : Int) = (m : Int) := by omega
        all_goals
          rw [em] at HFin
          clear em hmn
          go_wp2_with fail
          go_region
          go_wp2_with fail
          refine (xdid_any HFin.out ⟨hl1, hl2⟩).mono ?_
          rintro e w8 ⟨rfl, h8⟩
          have H8 := Lib.hid h8
          clear h8
          go_wp2
          go_ret
          rw [hres.out]
          exact ⟨rfl, H8.out⟩
  · have HM := Lib.hid hm
    obtain ⟨m, hmm⟩ : ∃ m : Nat, m = r.may [s] := ⟨_, rfl⟩
    have hres : Hid (r.truncate s n = (r, m)) := Lib.hid (by rw [RD.truncate, if_neg hm, hmm])
    have hne : ((m : Int) != 0) = true := by simp; omega
    rw [← hmm] at hmay
    have Hmy := Lib.hid hmay
    clear hmay hspot hm H hmm HM
    show Calls Try.prog 44 #[.pointer (some ⟨b, 0, none⟩), .string s, .int .i64 n] w _
    go_enter Try.func44, Try.ntmps44
    go_wp2_with fail
    rw [← hw1]
    refine Hmy.out.mono ?_
    rintro e w2 ⟨rfl, rfl⟩
    clear hw1
    go_wp2
    go_ret
    rw [hres.out]
    exact ⟨rfl, HA.out⟩
end
end Go.Proofs.Ytnaggipeliifgaa.Dsk
