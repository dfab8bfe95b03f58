/-
  LedgerTorn: of a log that is torn at any byte the whole entries are there, and the next one stands behind them.
-/
import Derived.Test.YtkbfjgmgckbogaaLedViewPure
import Derived.Test.YtkbfjgmgckbogaaF17
import Derived.Test.YtkbfjgmgckbogaaF2
namespace Go.Proofs.Ytkbfjgmgckbogaa.ledgerTorn
open Go.RowKit L Oct Dsk Fr Kp Ld
/-- the ends of the first j entries -/
def endsL (rs : List (List UInt8)) (j : Nat) : List Int := (List.range j).map fun i => ((endOf rs (i + 1) : Nat) : Int)
theorem ends_snoc (rs : List (List UInt8)) (j : Nat) : endsL rs (j + 1) = endsL rs j ++ [((endOf rs (j + 1) : Nat) : Int)] := by
  unfold endsL
  rw [List.range_succ, List.map_append]; rfl
theorem ends_len (rs : List (List UInt8)) (j : Nat) : (endsL rs j).length = j := by simp [endsL]
def fl (rs : List (List UInt8)) (k : Nat) : Nat := (rs.take k).flatten.length
theorem fl_succ {rs : List (List UInt8)} {k : Nat} (hk : k < rs.length) : fl rs (k + 1) = fl rs k + (rs.getD k []).length := heavy_step hk
theorem fl_le (rs : List (List UInt8)) : ∀ k, k ≤ rs.length → (∀ j, j < k → (rs.getD j []).length ≤ 2000) → fl rs k ≤ 2000 * k
  | 0, _, _ => by simp [fl]
  | k + 1, hk, h => by
    have := fl_le rs k (by omega) (fun j hj => h j (by omega))
    have h2 := h k (by omega)
    rw [fl_succ (by omega)]; omega
theorem elI : ElemOk Try.prog 46 3 1 8 := elemOk Try.underlying46 Try.info3 rfl (by decide)
theorem ints_one (zs : List Int) : ∀ u ∈ ints zs, u.oneCell' = true := by
  intro u hu
  obtain ⟨c, _, rfl⟩ := List.mem_map.1 hu
  rfl
theorem lgE_ok {pre : ByteArray} {E : List (List UInt8)} (hp : pre.size ≤ 20) (hl : E.length ≤ 1048576) (hE : ∀ p ∈ E, p.length ≤ 1073741824) : GOk (lgE pre E) := ⟨hp, Nat.zero_le _, hl, Nat.zero_le _, hE⟩
theorem mem_le {rs : List (List UInt8)} {n : Nat} (h : rs.flatten.length ≤ n) {p : List UInt8} (hp : p ∈ rs) : p.length ≤ n := Nat.le_trans (List.Sublist.length_le (List.sublist_flatten_of_mem hp)) h
theorem cut_at {rs : List (List UInt8)} {d : D} {k : Nat} (h : TS rs sAx rs.length d) (h1 : 1 ≤ rs.length) (hk : k ≤ endOf rs rs.length) : (d.truncate (logN sAx) (k : Int)).2 = 0 ∧ TC rs sAx k (d.truncate (logN sAx) (k : Int)).1 := by
  have hv := h.view (logN sAx)
  rw [if_pos ⟨rfl, by omega⟩, List.take_length] at hv
  have he : endOf rs rs.length = (logB 1 rs).length := by unfold endOf; rw [List.take_length]
  obtain ⟨t1, t2⟩ := truncate_v (k := k) (names_ok (pre := sAx) (by decide)).2.1 (fun h2 => by rw [h.fused] at h2; cases h2) hv (by rw [← he]; exact hk)
  obtain ⟨u1, u2⟩ := trunc_fused d (logN sAx) (k : Int)
  refine ⟨t1, h.inv.truncate _ _, u1.trans h.fused, u2.trans h.room, fun t => ?_⟩
  rw [t2]
  unfold upV
  by_cases ht : t = logN sAx
  · rw [if_pos ht, if_pos ht, Nat.min_eq_right hk]
  · rw [if_neg ht, if_neg ht, h.view, if_neg (fun h => ht h.1)]
theorem ends_at {rs : List (List UInt8)} {n j : Nat} (hj : j < n) : (ints (endsL rs n)).getD j undef = .int .i64 ((endOf rs (j + 1) : Nat) : Int) := by
  unfold ints endsL
  simp [List.getD, hj]
/-- one more entry behind what was opened, a crash, and the Open behind it -/
theorem torn_next {rs : List (List UInt8)} {pre : ByteArray} {d : D} {j : Nat} {nx : List UInt8} (hp : pre.size ≤ 20) (hn : rs.length ≤ 30) (hfl : rs.flatten.length ≤ 3000) (hj : j ≤ rs.length) (hx : nx.length ≤ 10)
    (hi : DInv d (rs.length + 1)) (hf : d.fused = false) (hr : d.room = 65536) (hu : d.used = endOf rs j) (hv : ∀ t, fv d t = if t = logN pre ∧ 0 < j then some (logB 1 (rs.take j), endOf rs j) else none) :
    ∃ d4 d5, appendL d (lgE pre (rs.take j)) nx = (d4, lgE pre (rs.take j ++ [nx]), j + 1, 0) ∧ DInv d4 100 ∧ d4.room = 65536 ∧ openL (d4.crash 0) pre = (d5, lgE pre (rs.take j ++ [nx]), 0) := by
  have hmem : ∀ p ∈ rs, p.length ≤ 3000 := fun p hp => Nat.le_trans (List.Sublist.length_le (List.sublist_flatten_of_mem hp)) hfl
  have hl : (rs.take j).length = j := by rw [List.length_take]; omega
  have he := end_le rs (fun p hp => by have := hmem p hp; omega) j hj
  have hft := flat_take_le rs j
  have lv : LV d pre none (rs.take j) := by
    refine ⟨by rw [hv, if_neg (fun h => img_log pre h.1)]; rfl, ?_⟩
    rw [hv]
    show _ = logV 1 (rs.take j)
    unfold logV
    by_cases h0 : 0 < j
    · rw [if_pos ⟨rfl, h0⟩, if_neg (fun e => by rw [e, List.length_nil] at hl; omega)]; rfl
    · rw [if_neg (fun h => h0 h.2), if_pos (by
        have : j = 0 := by omega
        subst this; simp)]
  obtain ⟨d4, a1, a2, a3, a4, _, a6, _⟩ := append_lv (p := nx) hi hf hp (by omega) lv (by show 0 + _ < _; omega) (by rw [hr, hu]; omega) (by have := hi.len; omega)
  have hk : LOk none (rs.take j ++ [nx]) := ⟨by show 0 ≤ _; omega, by show 0 + _ ≤ _; simp; omega, fun q hq => by
    rcases List.mem_append.1 hq with hq | hq
    · have := hmem q (List.mem_of_mem_take hq); omega
    · rw [List.mem_singleton.1 hq]; omega⟩
  obtain ⟨d5, e1, _⟩ := open_lv (d := d4.crash 0) rfl hp (crash_lv 0 a6) hk
  have e2 : baseO none + (rs.take j).length + 1 = j + 1 := by show 0 + _ + 1 = _; omega
  rw [e2] at a1
  exact ⟨d4, d5, a1, a2.le (by omega), a4.trans hr, e1⟩
theorem torn_at {rs : List (List UInt8)} {j k : Nat} (hj : j ≤ rs.length) (h : k < j) : (lgE sAx (rs.take j)).at ((k : Int) + 1) = some (rs.getD k []) := by
  have hl : (rs.take j).length = j := by rw [List.length_take]; omega
  unfold Lg.at
  rw [if_neg (by
    show ¬ ((k : Int) + 1 ≤ ((0 : Nat) : Int) ∨ ((0 + (rs.take j).length : Nat) : Int) < (k : Int) + 1)
    omega)]
  show some ((rs.take j).getD (((k : Int) + 1).toNat - 0 - 1) []) = _
  rw [show ((k : Int) + 1).toNat - 0 - 1 = k from by omega]
  simp [List.getD, h]
theorem files_ok {d : D} {n : Nat} (h : DInv d n) : ∀ f ∈ d.fs, f.lasts ≤ f.data.length ∧ f.data.length ≤ 4611686018427387904 := fun f hf => ⟨h.ok.lasts f hf, by have := h.fit f hf; omega⟩
def WRel (rs : List (List UInt8)) (kk : Nat) (a : Value) : Prop := ∃ j : Nat, j ≤ rs.length ∧ a = .int .i64 j ∧ endOf rs j ≤ kk
def IRel (W0 : World) (lb b : Nat) (g : Lg) (d : D) (j : Nat) (a : Value) (wr : World) : Prop := ∃ i : Nat, i ≤ j ∧ a = .int .i64 ((i : Int) + 1) ∧ Hold W0 ((LedgA lb b g).sep ((DiskA b d).sep Asrt.emp)) wr
def SzRel (rs : List (List UInt8)) (n i : Value) : Prop := ∃ k : Nat, k ≤ rs.length ∧ i = .int .i64 k ∧ n = .int .i64 (fl rs k) ∧ ∀ j, j < k → (rs.getD j []).length ≤ 2000
def ApRel (W0 : World) (rs : List (List UInt8)) (b lb : Nat) (ends i : Value) (wr : World) : Prop := ∃ (k : Nat) (d : D), k ≤ rs.length ∧ i = .int .i64 k ∧ TS rs sAx k d ∧
  Hold W0 ((Row 3 1 ends k (ints (endsL rs k))).sep ((LedgA lb b (lgE sAx (rs.take k))).sep ((DiskA b d).sep Asrt.emp))) wr
set_option maxRecDepth 1000000 in
set_option maxHeartbeats 3200000 in
theorem walk {w : World} (v0 : Value) (l0 : List (List UInt8)) (h0 : SlRows w v0 l0) (_b0 : l0.length * 24 ≤ 140737488351232) (_c0 : ∀ x ∈ l0, x.length ≤ 140737488351232) (a1 : Int) (_w1 : (Lit.int .i64 a1).wf = true) :
    Calls Try.prog 6 #[v0, .int .i64 a1] w fun e w' => e = .returned (.bool true) ∧ Below w.heap.size w w' := by
  have kc := fun (w : World) (C : Array Value) (n c : Nat) => Lib.run_convert_bytes_const (P := Try.prog) w 33 5 C n c Try.underlying33 Try.underlying5
  have hlen := h0.run_len Try.underlying45
  have HS := Lib.hid h0
  clear h0
  by_cases hfew : l0.length < 1
  · have g1 : decide ((l0.length : Int) < 1) = true := by simp; omega
    go_enter Try.func6, Try.ntmps6
    go_wp2
    go_ret
    exact ⟨rfl, Below.refl _ _⟩
  have g1 : decide ((l0.length : Int) < 1) = false := by simp; omega
  by_cases hmany : 20 < l0.length
  · have g2 : decide ((20 : Int) < (l0.length : Int)) = true := by simp; omega
    go_enter Try.func6, Try.ntmps6
    go_wp2
    go_ret
    exact ⟨rfl, Below.refl _ _⟩
  have g2 : decide ((20 : Int) < (l0.length : Int)) = false := by simp; omega
  have HN : Hid (1 ≤ l0.length ∧ l0.length ≤ 20) := Lib.hid ⟨by omega, by omega⟩
  clear hfew hmany
  go_enter Try.func6, Try.ntmps6
  go_wp2
  go_loop [5, 6] (fun n i => SzRel l0 n i) (fun _ i => l0.length - (intOf i).toNat)
  case atStart => exact ⟨0, Nat.zero_le _, rfl, by simp [fl], fun j hj => by omega⟩
  case round =>
    clear g1 g2
    obtain ⟨k, hk, rfl, rfl, hall⟩ := hrel
    have Hall := Lib.hid hall
    have hle : fl l0 k ≤ 40000 := by
      have := fl_le l0 k hk hall
      have := HN.out.2
      omega
    clear hall
    by_cases hlt : k < l0.length
    · obtain ⟨A, u, x, hA, _, hc, Hx, hsx⟩ := HS.out.at (P := Try.prog) Try.underlying45 Try.size33 k hlt
      have hxl := hsx.run_len Try.underlying33
      have hxm := hsx.le'
      have hst := fl_succ hlt
      rw [← Hx.out] at hst
      have Hst := Lib.hid hst
      clear hst hsx
      by_cases hbig : 2000 < x.length
      · have g1 : decide ((2000 : Int) < (x.length : Int)) = true := by simp; omega
        clear hbig
        go_wp2
        go_ret
        exact ⟨rfl, Below.refl _ _⟩
      · have g1 : decide ((2000 : Int) < (x.length : Int)) = false := by simp; omega
        have Hall2 : Hid (∀ j, j < k + 1 → (l0.getD j []).length ≤ 2000) := Lib.hid fun j hj => by
          by_cases e : j = k
          · subst e; rw [← Hx.out]; omega
          · exact Hall.out j (by omega)
        have hx2 : x.length ≤ 2000 := by omega
        clear hbig
        go_wp2
        go_round
        case rel => exact ⟨k + 1, by omega, by go_num, by rw [Hst.out]; go_num, Hall2.out⟩
        case measure => simp [intOf]; omega
    · obtain rfl : k = l0.length := by omega
      by_cases hbig : 2000 < fl l0 l0.length
      · have g1 : decide ((2000 : Int) < (fl l0 l0.length : Int)) = true := by simp; omega
        clear hbig hk hlt
        go_wp2
        go_ret
        exact ⟨rfl, Below.refl _ _⟩
      · have g1 : decide ((2000 : Int) < (fl l0 l0.length : Int)) = false := by simp; omega
        have HFl : Hid (l0.flatten.length ≤ 3000) := Lib.hid (by
          have : fl l0 l0.length = l0.flatten.length := by unfold fl; rw [List.take_length]
          omega)
        clear hbig hk hlt hle
        go_wp2_with fail
        refine (Dsk.new_ok (Hold.start w) 65536 (by omega)).mono ?_
        rintro e w1 ⟨_, rfl, b, rfl, h1⟩
        unfold ptr
        have H1 : Hid (Hold w ((DiskA b (kd [])).sep Asrt.emp) w1) := Lib.hid h1
        clear h1
        go_wp2_with fail
        refine (open_any H1.out kd_inv0 (by omega) (by show 65536 ≤ 1000000; omega) (pre := sAx) (by decide) (by decide)).mono ?_
        intro e w2 h2
        unfold RetOpen at h2
        rw [open_empty] at h2
        rcases h2 with ⟨_, lb, rfl, h2⟩ | ⟨h2, _⟩
        case inr => exact absurd rfl h2
        unfold ptr
        have HP : Hid (ApRel w l0 b lb (.slice none 0 0) (.int .i64 0) w2) := Lib.hid ⟨0, kd [], Nat.zero_le _, rfl, ⟨kd_inv0.le (by omega), rfl, rfl, by rw [end_zero]; rfl, fun t => by rw [if_neg (fun h => absurd h.2 (by omega))]; rfl⟩, h2.addNil 3 1⟩
        clear h2 H1
        go_wp2_with fail
        go_loopw [11, 12] (fun ends i wr => ApRel w l0 b lb ends i wr) (fun _ i _ => l0.length - (intOf i).toNat)
        case atStart => exact HP.out
        case round =>
          clear HP g1
          obtain ⟨k, d, hk, rfl, hts, hH⟩ := hrel
          have HTs := Lib.hid hts
          have HW := Lib.hid hH
          clear hts hH
          by_cases hlt : k < l0.length
          · obtain ⟨A, u, x, hA, _, hc, Hx, hsx⟩ := HS.out.at (P := Try.prog) Try.underlying45 Try.size33 k hlt
            have hxl : x.length ≤ 3000 := by
              rw [Hx.out]
              exact Nat.le_trans (List.Sublist.length_le (List.sublist_flatten_of_mem (by simp [List.getD, hlt]))) HFl.out
            obtain ⟨d2, e2, ts2⟩ := ts_step HTs.out hlt (by have := HN.out.2; omega) (by decide) HFl.out
            rw [← Hx.out] at e2
            have HE2 := Lib.hid e2
            have HTs2 := Lib.hid ts2
            have HSx := Lib.hid hsx
            have hcw := cell_on HW.out.old hc
            have H1 : Hid (Hold w ((LedgA lb b (lgE sAx (l0.take k))).sep ((DiskA b d).sep ((Row 3 1 u11 k (ints (endsL l0 k))).sep Asrt.emp))) wr) := Lib.hid (HW.out.perm (by ac_rfl))
            clear e2 ts2 hsx hc HW
            go_wp2_with fail
            refine (appendL_any H1.out (lgE_ok (by decide) (by rw [List.length_take]; have := HN.out.2; omega) (fun p hp => by have := mem_le HFl.out (List.mem_of_mem_take hp); omega)) (by show (l0.take k).length + 1 ≤ _; rw [List.length_take]; have := HN.out.2; omega) HTs.out.inv u x (Reads.old HSx.out) (by omega)).mono ?_
            rintro e w4 ⟨rfl, h4⟩
            rw [HE2.out] at h4 ⊢
            have H4 := Lib.hid h4
            have hfv := HTs2.out.view (logN sAx)
            rw [if_pos ⟨rfl, by omega⟩] at hfv
            obtain ⟨f, hf, hfd, _⟩ := fv_some hfv
            have hrd := read_yes H4.out.up2 (logN sAx) hf (by rw [hfd]; show endOf l0 (k + 1) ≤ _; have := HTs2.out.inv.ok.used; have h2 := HTs2.out.used; have h3 := HTs2.out.inv.ok.room; omega)
            rw [hfd] at hrd
            have hrd2 : Calls Try.prog 19 #[.pointer (some ⟨b, 0, none⟩), .string ⟨#[97, 45, 108, 111, 103]⟩] w4 (RetRead w4 (logB 1 (l0.take (k + 1)))) := hrd
            have HRd := Lib.hid hrd2
            clear h4 hfv hf hfd hrd hrd2 hcw hA H1
            go_wp2_with fail
            refine HRd.out.mono ?_
            rintro e w5 ⟨v5, rfl, ho5, hb5⟩
            have hlen5 := ho5.sl.run_len Try.underlying33
            have hel : ((logB 1 (l0.take (k + 1))).length : Int) = ((endOf l0 (k + 1) : Nat) : Int) := rfl
            rw [hel] at hlen5
            have H5 := Lib.hid (H4.out.keeps hb5)
            have H6 : Hold w ((Row 3 1 u11 k (ints (endsL l0 k))).sep ((LedgA lb b (lgE sAx (l0.take (k + 1)))).sep ((DiskA b d2).sep Asrt.emp))) w5 := H5.out.perm (by ac_rfl)
            clear ho5 hb5 HRd H4 H5 hel
            go_wp2_with (at_builtin; refine wpList_appLit (sx := .tmp 86) elI H6 (ints [((endOf l0 (k + 1) : Nat) : Int)]) rfl _ rfl rfl rfl rfl (ints_one _) (by simp [ints]; have := HN.out.2; omega) (by simp [ints]; have := HN.out.2; omega) ?_; intro v9 xs9 w9 X9 H9)
            have H10 : Hid (Hold w ((Row 3 1 v9 (k + 1) (ints (endsL l0 (k + 1)))).sep ((LedgA lb b (lgE sAx (l0.take (k + 1)))).sep ((DiskA b d2).sep Asrt.emp))) w9) := Lib.hid (by
              rw [X9.out] at H9
              have e : ints (endsL l0 k) ++ ints [((endOf l0 (k + 1) : Nat) : Int)] = ints (endsL l0 (k + 1)) := by rw [ends_snoc]; simp [ints]
              rw [e] at H9
              exact H9)
            clear H9 H6 X9 hlen5
            go_roundw
            case rel => exact ⟨k + 1, d2, by omega, by go_num, HTs2.out, H10.out⟩
            case measure => simp [intOf]; omega
          · obtain rfl : k = l0.length := by omega
            have HH : Hid (Hold w ((DiskA b d).sep ((Row 3 1 u11 l0.length (ints (endsL l0 l0.length))).sep Asrt.emp)) wr) := Lib.hid HW.out.up2.drop1.up2
            obtain ⟨j, hmask, hj⟩ := mask30 a1
            obtain ⟨M, hM⟩ : ∃ M, M = endOf l0 l0.length := ⟨_, rfl⟩
            have hMl : M ≤ 65536 := by rw [hM, ← HTs.out.used]; have h1 := HTs.out.inv.ok.used; rw [HTs.out.room] at h1; exact h1
            obtain ⟨kk, hkk⟩ : ∃ kk, kk = j % (M + 1) := ⟨_, rfl⟩
            have hkM : kk ≤ M := by have := Nat.mod_lt j (show 0 < M + 1 by omega); omega
            have hmod : (j : Int) % ((M : Int) + 1) = (kk : Int) := by rw [hkk]; simp
            have hn1 := HN.out
            obtain ⟨A, u, hA, _, hc, Hu⟩ := HW.out.sl.at1 (P := Try.prog) Try.underlying46 Try.size3 (l0.length - 1) (by omega)
            have hu : u = .int .i64 (M : Int) := by
              rw [Hu.out, hM, ends_at (by omega), show l0.length - 1 + 1 = l0.length from by omega]
            rw [hu] at hc
            have hlenE := HW.out.sl.run_len Try.underlying46
            have a0 : IntKind.i64.wrap ((l0.length : Int) - 1) = (l0.length : Int) - 1 := IntWalk.i64_in _ (by omega)
            have eA : ((l0.length - 1 : Nat) : Int) = (l0.length : Int) - 1 := by omega
            rw [eA] at hA
            have HM := Lib.hid hM
            have HKK := Lib.hid hkk
            have htr := truncate_any HH.out HTs.out.inv.ok.left (fun f hf => by have := HTs.out.inv.fit f hf; omega) (logN sAx) (kk : Int)
            have htr2 : Calls Try.prog 20 #[.pointer (some ⟨b, 0, none⟩), .string ⟨#[97, 45, 108, 111, 103]⟩, .int .i64 (kk : Int)] wr (RetApp w _ b (d.truncate (logN sAx) (kk : Int))) := htr
            have HTr := Lib.hid htr2
            have hcut := cut_at HTs.out HN.out.1 (by rw [← HM.out]; exact hkM : kk ≤ endOf l0 l0.length)
            have HCut := Lib.hid hcut
            clear hM hkk hu Hu eA htr htr2 hcut HW HH
            go_wp2_with fail
            refine HTr.out.mono ?_
            rintro e w6 ⟨rfl, h6⟩
            obtain ⟨d6, hd6⟩ : ∃ d6, d6 = (d.truncate (logN sAx) (kk : Int)).1 := ⟨_, rfl⟩
            have hct := HCut.out
            rw [← hd6] at hct h6
            rw [hct.1]
            rw [hmod]
            have HTC := Lib.hid hct.2
            have H6 := Lib.hid h6
            have HkM : Hid (kk ≤ endOf l0 l0.length) := Lib.hid (by rw [← HM.out]; exact hkM)
            have hlenE6 := h6.up2.sl.run_len Try.underlying46
            clear hct h6 hd6 HCut HTr HTs hA hc hlenE a0 hmod hmask hMl hkM HM HKK hj hn1
            go_wp2_with fail
            go_loop [16] (fun a => WRel l0 kk a) (fun a => l0.length - (intOf a).toNat)
            case atStart => exact ⟨0, Nat.zero_le _, rfl, by rw [end_zero]; omega⟩
            case round =>
              obtain ⟨j, hj, rfl, hjk⟩ := hrel
              have Hjk := Lib.hid hjk
              clear hjk
              by_cases hgo : j < l0.length ∧ endOf l0 (j + 1) ≤ kk
              · obtain ⟨hlt, hle⟩ := hgo
                obtain ⟨A, u, hA, _, hc, Hu⟩ := H6.out.up2.sl.at1 (P := Try.prog) Try.underlying46 Try.size3 j hlt
                rw [Hu.out, ends_at hlt] at hc
                obtain ⟨N, hN⟩ : ∃ N, N = endOf l0 (j + 1) := ⟨_, rfl⟩
                rw [← hN] at hc hle
                have Hle : Hid (endOf l0 (j + 1) ≤ kk) := Lib.hid (by rw [← hN]; exact hle)
                clear hN Hu
                go_wp2
                go_round
                case rel => exact ⟨j + 1, by omega, by go_num, Hle.out⟩
                case measure => simp [intOf]; omega
              · have HJ : Hid (j < l0.length → kk < endOf l0 (j + 1)) := Lib.hid fun h => by
                  have : ¬ endOf l0 (j + 1) ≤ kk := fun h2 => hgo ⟨h, h2⟩
                  omega
                clear hgo
                obtain ⟨d3, o1, o2, o3, o4, o5, o6⟩ := torn_open HTC.out (by decide) (by have := HN.out.2; omega) HFl.out hj Hjk.out HJ.out HkM.out
                obtain ⟨d4, d5, p1, p2, p3, p4⟩ := torn_next (nx := [110, 101, 120, 116]) (pre := sAx) (by decide) (by have := HN.out.2; omega) HFl.out hj (by decide) o2 o3 o4 o5 o6
                have O1 := Lib.hid o1
                have O2 := Lib.hid o2
                have P1 := Lib.hid p1
                have P2 := Lib.hid p2
                have P3 := Lib.hid p3
                have P4 := Lib.hid p4
                have HL : Hid ((lgE sAx (l0.take j)).last = j) := Lib.hid (by show 0 + (l0.take j).length = j; rw [List.length_take]; omega)
                have HL2 : Hid ((lgE sAx (l0.take j ++ [[110, 101, 120, 116]])).last = j + 1) := Lib.hid (by show 0 + (l0.take j ++ [[110, 101, 120, 116]]).length = j + 1; rw [List.length_append, List.length_take]; simp; omega)
                have HG : Hid (GOk (lgE sAx (l0.take j))) := Lib.hid (lgE_ok (by decide) (by rw [List.length_take]; have := HN.out.2; omega) (fun p hp => by have := mem_le HFl.out (List.mem_of_mem_take hp); omega))
                have HG2 : Hid (GOk (lgE sAx (l0.take j ++ [[110, 101, 120, 116]]))) := Lib.hid (lgE_ok (by decide) (by rw [List.length_append, List.length_take]; have := HN.out.2; simp; omega) (fun p hp => by
                  rcases List.mem_append.1 hp with hp | hp
                  · have := mem_le HFl.out (List.mem_of_mem_take hp); omega
                  · rw [List.mem_singleton.1 hp]; decide))
                have HJ20 : Hid (j ≤ 20) := Lib.hid (by have := HN.out.2; omega)
                clear o1 o2 o3 o4 o5 o6 p1 p2 p3 p4
                by_cases hlt : j < l0.length
                case' pos =>
                  obtain ⟨A, u, hA, _, hc, Hu⟩ := H6.out.up2.sl.at1 (P := Try.prog) Try.underlying46 Try.size3 j hlt
                  rw [Hu.out, ends_at hlt] at hc
                  obtain ⟨N, hN⟩ : ∃ N, N = endOf l0 (j + 1) := ⟨_, rfl⟩
                  rw [← hN] at hc
                  have hle : kk < N := by rw [hN]; exact HJ.out hlt
                  clear hN Hu
                  go_wp2_with fail
                case' neg =>
                  go_wp2_with fail
                all_goals
                  refine (open_any H6.out HTC.out.inv (by have := HN.out.2; omega) (by rw [HTC.out.room]; omega) (pre := sAx) (by decide) (by decide)).mono ?_
                  intro e w7 h7
                  unfold RetOpen at h7
                  rw [O1.out] at h7
                  rcases h7 with ⟨_, lb2, rfl, h7⟩ | ⟨h7, _⟩
                  case inr => exact absurd rfl h7
                  unfold ptr
                  have H7 := Lib.hid h7.up3.drop1
                  clear h7
                  go_wp2_with fail
                  refine (last_any H7.out HG.out).mono ?_
                  rintro e w8 ⟨rfl, n8, rfl⟩
                  rw [HL.out]
                  have H8 : Hid (IRel w lb2 b (lgE sAx (l0.take j)) d3 j (.int .i64 1) (w7.drewN n8)) := Lib.hid ⟨0, Nat.zero_le _, rfl, H7.out.keeps (below_drewN (Below.refl _ _) n8)⟩
                  go_wp2_with fail
                  go_loopw [18] (fun a wr => IRel w lb2 b (lgE sAx (l0.take j)) d3 j a wr) (fun a _ => j + 1 - (intOf a).toNat)
                  case atStart => exact H8.out
                  case round =>
                    clear H8 H7
                    obtain ⟨i, hi, rfl, hH⟩ := hrel
                    have HW := Lib.hid hH
                    clear hH
                    by_cases hlt : i < j
                    · have hat := at_any HW.out HG.out ((i : Int) + 1) (by omega) (by have := HJ20.out; omega)
                      rw [torn_at hj hlt] at hat
                      have HAt := Lib.hid hat
                      obtain ⟨A, u, x, hA, _, hc, Hx, hsx⟩ := HS.out.at (P := Try.prog) Try.underlying45 Try.size33 i (by omega)
                      rw [← Hx.out] at HAt
                      have hcw := cell_on HW.out.old hc
                      have hsxw := hsx.below' HW.out.old
                      have a0 : IntKind.i64.wrap ((i : Int) + 1 - 1) = (i : Int) := by rw [Int.add_sub_cancel]; exact IntWalk.i64_in _ (by have := HJ20.out; omega)
                      clear hat hsx hc Hx
                      go_wp2_with fail
                      refine HAt.out.mono ?_
                      rintro e w9 (⟨h9, _⟩ | ⟨x2, v9, hx2, rfl, ho9, hb9⟩)
                      · cases h9
                      · obtain rfl : x = x2 := Option.some.inj hx2
                        have cv1 := fun m => (ho9.sl.below' (below_drewN (Below.refl _ _) m)).run_string (src := 33) (dst := 9) Try.underlying33 Try.underlying5 Try.underlying9
                        have cv2 := fun m => ((hsxw.below' hb9).below' (below_drewN (Below.refl _ _) m)).run_string (src := 33) (dst := 9) Try.underlying33 Try.underlying5 Try.underlying9
                        have hc9 := cell_on hb9 hcw
                        obtain ⟨S, hS⟩ : ∃ S, S = ByteArray.mk x.toArray := ⟨_, rfl⟩
                        rw [← hS] at cv1 cv2
                        have hq : (S.toList == S.toList) = true := by simp
                        have H9 := Lib.hid (HW.out.keeps hb9)
                        clear hS ho9 hb9 hcw hsxw HW HAt
                        go_wp2_with fail
                        go_quiet (fail)
                        go_wp2
                        go_roundw
                        case rel => exact ⟨i + 1, by omega, by go_num, H9.out.keeps (below_drewN (Below.refl _ _) _)⟩
                        case measure => simp [intOf]; omega
                    · obtain rfl : i = j := by omega
                      have H10 := Lib.hid (const_in HW.out (u8s [110, 101, 120, 116]) 5 4 (by simp [u8s, maxLen]) rfl)
                      clear HW
                      go_wp2_with fail
                      refine (appendL_any H10.out HG.out (by show (l0.take i).length + 1 ≤ _; rw [List.length_take]; have := HN.out.2; omega) O2.out (.slice (some ⟨wr.heap.size, 0, none⟩) 4 4) [110, 101, 120, 116] Reads.ro (by decide)).mono ?_
                      rintro e w11 ⟨rfl, h11⟩
                      rw [P1.out] at h11 ⊢
                      have H11 := Lib.hid h11.up3.drop1.up2
                      have eL : ((i + 1 : Nat) : Int) = (i : Int) + 1 := by omega
                      dsimp only
                      rw [eL]
                      have EL := Lib.hid eL
                      clear h11 H10 eL
                      go_wp2_with fail
                      refine (crash_any H11.out 0 (by omega) (files_ok P2.out)).mono ?_
                      rintro e w12 ⟨rfl, h12⟩
                      have H12 := Lib.hid h12
                      clear h12 H11
                      go_wp2_with fail
                      refine (open_any H12.out (P2.out.crash _) (by omega) (by show d4.room ≤ _; rw [P3.out]; omega) (pre := sAx) (by decide) (by decide)).mono ?_
                      intro e w13 h13
                      unfold RetOpen at h13
                      rw [show d4.crash (Int.toNat 0) = d4.crash 0 from rfl, P4.out] at h13
                      rcases h13 with ⟨_, lb3, rfl, h13⟩ | ⟨h13, _⟩
                      case inr => exact absurd rfl h13
                      unfold ptr
                      have H13 := Lib.hid h13
                      clear h13 H12
                      have a9 : IntKind.i64.wrap ((i : Int) + 1) = (i : Int) + 1 := IntWalk.i64_in _ (by have := HJ20.out; omega)
                      go_wp2_with fail
                      refine (last_any H13.out HG2.out).mono ?_
                      rintro e w14 ⟨rfl, n14, rfl⟩
                      rw [HL2.out, EL.out]
                      go_wp2_with fail
                      refine (known_any _).mono ?_
                      rintro e w15 ⟨rfl, hb15⟩
                      have HF : Hid (Below w.heap.size w w15) := Lib.hid (H13.out.old.trans ((below_drewN (Below.refl _ _) n14).trans hb15 |>.mono H13.out.old.size))
                      clear hb15 H13
                      go_wp2
                      go_ret
                      exact ⟨rfl, HF.out⟩
end Go.Proofs.Ytkbfjgmgckbogaa.ledgerTorn
