/-
  Crash of the reference's disk (chapter 3).
-/
import Derived.Test.YtfkingloapohjaaF13
import Derived.Test.YtfkingloapohjaaDiskCrash
import Derived.Deep.QuietTactic
import Derived.BigQuiet
namespace Go.Proofs.Ytfkingloapohjaa.Dsk
open Go.RowKit L Oct
section
variable {W0 w : World} {R : Asrt} {b : Nat} {r : RD} {v : Value} {l : List (AF × Value)}
theorem put_open {k g n : Nat} {x : List UInt8} {u : Value} {p : AF × Value} (H : Hold W0 ((Row 5 1 u n (u8s x)).sep ((Blk b #[.int .i64 r.room, v, .int .i64 r.left] 76).sep ((Row 81 3 v l.length (rcl l)).sep ((InB l).sep R)))) w) (hk : k < l.length)
    (hA : ∀ w' : World, (Instr.indexAt 74 v (.int .i64 (k : Int))).run Try.prog w' = .ok (.pointer (some ⟨g, k * 3, none⟩)) w') (hp : p = l.getD k default) (hn : n = x.length) :
    w.frozen? ⟨g, k * 3 + 1, none⟩ = false ∧ Hold W0 ((Blk b #[.int .i64 r.room, v, .int .i64 r.left] 76).sep ((Row 81 3 v (l.set k ({ p.1 with data := x }, u)).length (rcl (l.set k ({ p.1 with data := x }, u)))).sep ((InB (l.set k ({ p.1 with data := x }, u))).sep R))) (w.setCell ⟨g, k * 3 + 1, none⟩ u) := by
  obtain ⟨_, _, f1, hset⟩ := put_at H hk hA hp
  have h1 := hset { p.1 with data := x } u rfl rfl
  refine ⟨f1, ?_⟩
  have h2 : Hold W0 ((Row 5 1 u n (u8s x)).sep ((InB l).sep ((Row 81 3 v l.length (rcl (l.set k ({ p.1 with data := x }, u)))).sep ((Blk b #[.int .i64 r.room, v, .int .i64 r.left] 76).sep R)))) _ := h1.perm (by ac_rfl)
  have h3 := inB_join (f := { p.1 with data := x }) h2 hn
  have h4 := inB_set (k := k) (m := l) (f := { p.1 with data := x }) (u := u) h3 (fun q hq => ⟨q, List.mem_cons_of_mem _ hq, rfl, rfl⟩) ⟨_, List.mem_cons_self .., rfl, rfl⟩
  rw [List.length_set]
  exact h4.perm (by ac_rfl)
/-- behind i files of a crash -/
def crashTo (k : Nat) (fs : List AF) (i : Nat) : List AF := (fs.take i).map (crashF k) ++ fs.drop i
theorem crashTo_length (k : Nat) (fs : List AF) (i : Nat) : (crashTo k fs i).length = fs.length := by
  simp [crashTo]; omega
theorem crashTo_get {k : Nat} {fs : List AF} {i : Nat} (hi : i < fs.length) : (crashTo k fs i).getD i default = fs.getD i default := by
  unfold crashTo
  rw [List.getD, List.getElem?_append_right (by simp; omega)]
  simp [List.getD, List.getElem?_drop, Nat.min_eq_left (Nat.le_of_lt hi)]
theorem crashTo_succ {k : Nat} {fs : List AF} {i : Nat} (hi : i < fs.length) : (crashTo k fs i).set i (crashF k (fs.getD i default)) = crashTo k fs (i + 1) := by
  unfold crashTo
  rw [List.set_append_right _ _ (by simp; omega), List.take_succ_eq_append_getElem hi, List.map_append, List.append_assoc]
  congr 1
  rw [List.drop_eq_getElem_cons hi, show i - ((fs.take i).map (crashF k)).length = 0 from by simp; omega, List.set_cons_zero]
  simp only [List.getD, List.getElem?_eq_getElem hi, Option.getD_some, List.map_cons, List.map_nil, List.singleton_append]
def XCRel (W0 : World) (R : Asrt) (b : Nat) (r : RD) (k i : Nat) (wr : World) : Prop := Hold W0 ((RefA b { r with fs := crashTo k r.fs i }).sep R) wr
set_option maxRecDepth 100000 in
set_option maxHeartbeats 3200000 in
theorem xcrash_at (H : Hold W0 ((RefA b r).sep R) w) (hl4 : r.fs.length ≤ 4096) (hla : ∀ f ∈ r.fs, f.lasts ≤ f.data.length ∧ f.data.length ≤ 1073741824) (n : Int) (k : Nat) (hk : (0 < n ∧ n = k) ∨ (n ≤ 0 ∧ k = 0)) (hk2 : k ≤ 9223372036854775807) :
    Calls Try.prog 22 #[ptr b, .int .i64 n] w fun e w' => e = .returned (.tuple #[]) ∧ Hold W0 ((RefA b { r with fs := r.fs.map (crashF k), left := -1 }).sep R) w' := by
  have H0 : Hid (XCRel W0 R b r k 0 w) := Lib.hid H
  obtain ⟨vv, ll, hll', HH⟩ := ref_open H
  have Hla := Lib.hid hla
  clear hla HH hll' H
  show Calls Try.prog 22 #[.pointer (some ⟨b, 0, none⟩), .int .i64 n] w _
  go_enter Try.func22, Try.ntmps22
  go_upto_region 0 with fail
  go_cut [1] (fun s1 wc => s1 = .int .i64 (k : Int) ∧ wc = w)
  case first =>
    rcases hk with ⟨h0, rfl⟩ | ⟨h0, rfl⟩
    case' inl => have h1 : (0 : Int) < (k : Int) := h0
    case' inr => have h1 : ¬ (0 : Int) < n := by omega
    all_goals
      go_wp2_with fail
      go_meet
      exact ⟨rfl, rfl⟩
  case rest =>
    clear hk
    obtain ⟨rfl, rfl⟩ := hcut
    go_wp2_with fail
    go_loopw [4] (fun i wr => ∃ j : Nat, i = .int .i64 j ∧ j ≤ r.fs.length ∧ XCRel W0 R b r k j wr) (fun i _ => r.fs.length - (intOf i).toNat)
    case atStart => exact ⟨0, rfl, Nat.zero_le _, H0.out⟩
    case round =>
      clear H0
      obtain ⟨i, rfl, hi, hR⟩ := hrel
      unfold XCRel at hR
      obtain ⟨v, l, hl, HB⟩ := ref_open hR
      have hl : l.map Prod.fst = crashTo k r.fs i := hl
      have hll : l.length = r.fs.length := by
        have : (l.map Prod.fst).length = r.fs.length := by rw [hl, crashTo_length]
        simpa using this
      have k1 := blk_cell HB.blk 1
      have hlen := HB.up2.sl.run_len Try.underlying74
      by_cases hlt : i < r.fs.length
      · have hlt2 : i < l.length := by omega
        obtain ⟨g, p, hA, ⟨c0, c1, c2⟩, _, _, _, Hp⟩ := file_at HB.up2 i hlt2
        have hpl : p ∈ l := by rw [Hp.out]; simp [List.getD, hlt2]
        have hpf : p.1 = r.fs.getD i default := by rw [Hp.out, fst_get hl i hlt2, crashTo_get hlt]
        have hin := HB.up3.inB p hpl
        obtain ⟨hf1, hf2⟩ := Hla.out p.1 (by rw [hpf]; simp [List.getD, hlt])
        have hlp := hin.run_len Try.underlying23
        obtain ⟨N, hN⟩ : ∃ N, N = p.1.data.length := ⟨_, rfl⟩
        obtain ⟨S, hS⟩ : ∃ S, S = p.1.lasts := ⟨_, rfl⟩
        obtain ⟨pv, hpv⟩ : ∃ pv, pv = p.2 := ⟨_, rfl⟩
        rw [← hpv] at c1 hlp
        rw [← hN] at hlp hf1 hf2
        rw [← hS] at c2 hf1
        have HBB := Lib.hid HB
        have Hpv := Lib.hid hpv
        have HN := Lib.hid hN
        have HS := Lib.hid hS
        have HL := Lib.hid hl
        have HLL := Lib.hid hll
        have Hpl := Lib.hid hpl
        have Hpf := Lib.hid hpf
        obtain ⟨U, hU⟩ : ∃ U, U = N - S := ⟨_, rfl⟩
        have a1 : IntKind.i64.wrap ((N : Int) - (S : Int)) = (U : Int) := by rw [IntWalk.i64_in _ (by omega)]; omega
        have HU := Lib.hid hU
        clear HB hl hpl hpf hin hN hS hpv hR hll hU
        go_upto_region 5 with fail
        go_quiet (fail)
        clear a1 k1 c0 c1 c2 hlp hlen
        obtain ⟨w5, hw5⟩ : ∃ w5, w5 = wr.drewN nq := ⟨_, rfl⟩
        have H5 := HBB.out.keeps (below_drewN (Below.refl _ _) nq)
        rw [← hw5] at H5 ⊢
        clear hw5
        go_upto_region 6 with fail
        have HB6 := H5.drew
        obtain ⟨g', p', hA', ⟨_, c1, c2⟩, _, _, _, Hp'⟩ := file_at HB6.up2 i hlt2
        obtain rfl : g = g' := by have := (hA w5).symm.trans (hA' w5); simpa using this
        rw [Hp'.out, ← Hp.out] at c1 c2
        have HE1 := HB6.addEmpty 5
        have sA := HE1.up4.inB p Hpl.out
        obtain ⟨g', p2, hA2, ⟨_, d1, d2⟩, _, _, _, Hp2⟩ := file_at HE1.up3 i hlt2
        obtain rfl : g = g' := by have := (hA w5).symm.trans (hA2 w5); simpa using this
        rw [Hp2.out, ← Hp.out] at d1 d2
        have hU := HU.out
        obtain ⟨md, hmd⟩ : ∃ md, md = k % (U + 1) := ⟨_, rfl⟩
        have hmd2 : md < U + 1 := by rw [hmd]; exact Nat.mod_lt _ (by omega)
        obtain ⟨st, hst⟩ : ∃ st, st = S + md := ⟨_, rfl⟩
        have hstN : st ≤ N := by omega
        obtain ⟨pa, hra, hsa, _⟩ := run_slice_sl (P := Try.prog) sA Try.underlying23 Try.size5 none (some (.int .i64 (st : Int))) 0 st (.inl ⟨rfl, rfl⟩) (.inr ⟨.i64, rfl⟩) (by omega) (by rw [← HN.out]; exact hstN)
        rw [Nat.sub_zero, Nat.zero_mul, List.drop_zero, Nat.mul_one, show (u8s p.1.data).take st = u8s (p.1.data.take st) from by simp [u8s]] at hsa
        rw [← Hpv.out] at c1 d1 hra
        rw [← HS.out] at c2 d2
        have a2 : IntKind.i64.wrap ((U : Int) + 1) = (U : Int) + 1 := IntWalk.i64_in _ (by omega)
        have a3 : ¬ ((U : Int) + 1 = 0) := by omega
        have a4 : Int.tmod (k : Int) ((U : Int) + 1) = (md : Int) := by
          have e : (U : Int) + 1 = ((U + 1 : Nat) : Int) := by omega
          rw [e, ← Int.ofNat_tmod, hmd]
        have a5 : IntKind.i64.wrap ((S : Int) + (md : Int)) = (st : Int) := by
          rw [IntWalk.i64_in _ (by omega)]; omega
        have a6 : IntKind.i64.wrap (md : Int) = (md : Int) := IntWalk.i64_in _ (by omega)
        have Hst : Hid (crashF k p.1 = ⟨p.1.name, p.1.data.take st, st⟩) := Lib.hid (by
          have e : stays k p.1 = st := by rw [stays, ← HN.out, ← HS.out, ← hU, ← hmd, hst]
          rw [crashF, e])
        have d3 : (w5.alloc (.cells #[] 5)).drew.cell? ⟨g, i * 3 + 1, none⟩ = some pv := d1
        have d4 : (w5.alloc (.cells #[] 5)).drew.cell? ⟨g, i * 3 + 2, none⟩ = some (.int .i64 S) := d2
        have HE1' := Lib.hid HE1
        have HlN : Hid ((p.1.data.take st).length = st) := Lib.hid (by rw [List.length_take, ← HN.out]; omega)
        clear HE1 sA hA' Hp' hA2 Hp2 hmd hst hU H5 HB6
        go_cut [] (fun wc => ∃ u, Hold W0 ((Blk b #[.int .i64 r.room, v, .int .i64 r.left] 76).sep ((Row 81 3 v (l.set i ({ p.1 with data := p.1.data.take st }, u)).length (rcl (l.set i ({ p.1 with data := p.1.data.take st }, u)))).sep ((InB (l.set i ({ p.1 with data := p.1.data.take st }, u))).sep R))) wc)
        case first =>
          go_region_law
            (first
              | (refine step_app el8 HE1'.out ?_ (.tmp 35) (.tmp 49) ?_ ?_ ?_ hsa (u8s_one _) (by omega) (by omega) ?_; (any_goals rfl); intro v7 ys7 w7 Y7 H7; rw [Y7.out, List.nil_append, Nat.zero_add] at H7; obtain ⟨ao7, cap7, rfl⟩ := H7.own.shape; obtain ⟨hT71, hT72⟩ := put_S (r := { r with fs := crashTo k r.fs i }) H7 hlt2 hA Hp.out; rw [← Hpv.out] at hT72; obtain ⟨hf7, hset7⟩ := put_open (r := { r with fs := crashTo k r.fs i }) H7 hlt2 hA Hp.out HlN.out.symm; have HS7 := Lib.hid hset7; clear H7 HE1' hset7)
              | fail)
          all_goals
            go_wp2_with fail
            go_meet
            exact ⟨_, HS7.out⟩
        case rest =>
          clear HE1' hsa hra c1 c2 d1 d2 d3 d4 a2 a3 a4 a5 a6
          obtain ⟨u, HC⟩ := hcut
          obtain ⟨l2, hl2⟩ : ∃ l2, l2 = l.set i ({ p.1 with data := p.1.data.take st }, u) := ⟨_, rfl⟩
          rw [← hl2] at HC
          have hll2 : l2.length = l.length := by rw [hl2, List.length_set]
          have hlt3 : i < l2.length := by omega
          obtain ⟨g', q, hA2, ⟨_, d1, d2⟩, ⟨_, f2⟩, _, s2, Hq⟩ := file_at HC.up2 i hlt3
          obtain rfl : g = g' := by have := (hA wc).symm.trans (hA2 wc); simpa using this
          have hq : q = ({ p.1 with data := p.1.data.take st }, u) := by rw [Hq.out, hl2]; simp [List.getD, hlt2]
          have hqm : q ∈ l2 := by rw [Hq.out]; simp [List.getD, hlt3]
          have hqs := HC.up3.inB q hqm
          rw [hq] at hqs d1 s2
          have hqs : Sl wc 1 u (p.1.data.take st).length (u8s (p.1.data.take st)) := hqs
          rw [HlN.out] at hqs
          have hlu := hqs.run_len Try.underlying23
          have HH := s2 (crashF k p.1) (by rw [Hst.out])
          have HN2 : Hid (XCRel W0 R b r k (i + 1) (wc.setCell ⟨g, i * 3 + 2, none⟩ (.int .i64 (st : Int)))) := Lib.hid (by
            unfold XCRel
            refine ref_shut (r := { r with fs := crashTo k r.fs (i + 1) }) (v := v) (l := l2.set i (crashF k p.1, u)) ?_ ?_
            · show (l2.set i (crashF k p.1, u)).map Prod.fst = crashTo k r.fs (i + 1)
              rw [hl2, List.set_set, map_set HL.out, Hpf.out, crashTo_succ hlt]
            · rw [List.length_set]
              have hlz : ((crashF k p.1).lasts : Int) = (st : Int) := by rw [Hst.out]
              rw [hlz] at HH
              have h5 := inB_set (k := i) (f := crashF k p.1) (u := u) HH.up3 (fun z hz => ⟨z, hz, rfl, rfl⟩) ⟨q, hqm, by rw [hq], by rw [hq, Hst.out]⟩
              exact h5.perm (by ac_rfl))
          have d1' : wc.cell? ⟨g, i * 3 + 1, none⟩ = some u := d1
          clear HC HH hq hqm hqs s2 hl2 d1
          go_wp2
          go_roundw
          case rel => exact ⟨i + 1, by go_num, by omega, HN2.out⟩
          case measure => simp [intOf]; omega
      · obtain rfl : i = r.fs.length := by omega
        have hend : crashTo k r.fs r.fs.length = r.fs.map (crashF k) := by simp [crashTo]
        have k2 := blk_cell HB.blk 2
        have f2 := blk_free HB.blk 2
        have HF := Lib.hid (ref_shut (r := { r with fs := r.fs.map (crashF k), left := -1 }) (by rw [hl, hend]) (HB.setB 2 (.int .i64 (-1))))
        have hnl : ¬ r.fs.length < l.length := by omega
        have hnl2 : l.length = r.fs.length := hll
        clear HB hl hR hll
        go_wp2
        go_end0
        exact ⟨rfl, HF.out⟩
end
end Go.Proofs.Ytfkingloapohjaa.Dsk
