/-
  log of chapter 5: the entries are read.
-/
import Derived.Test.YtkbfjgmgckbogaaGreatLedTakes
import Derived.Deep.RegionHeld3
import Derived.Deep.DeepCutAuto
namespace Go.Proofs.YtkbfjgmgckbogaaGreat.Ld
open Go.RowKit L Oct Dsk Fr Kp
theorem lift_hold {W0 w w' : World} {R A : Asrt} (h : Hold W0 R w) (h2 : Hold w (A.sep Asrt.emp) w') : Hold W0 (A.sep R) w' := by
  obtain ⟨hb, F, hF, F1, F2, e1, e2, h3, h4⟩ := h2
  exact h.add hb h3 fun k hk => hF k ((e1 k).2 (.inl hk))
theorem lift_hold2 {W0 w w' : World} {R A B : Asrt} (h : Hold W0 R w) (h2 : Hold w (A.sep (B.sep Asrt.emp)) w') : Hold W0 (A.sep (B.sep R)) w' := by
  have e : A.sep (B.sep Asrt.emp) = (A.sep B).sep Asrt.emp := by ac_rfl
  rw [e] at h2
  exact (lift_hold h h2).perm (by ac_rfl)
theorem takes_ok {last : Int} {g : Lg} {p : List UInt8} {k : Nat} (hg : GOk g) (hl : -1 ≤ last ∧ last ≤ 4611686018427387904) (hp : p.length ≤ 1073741824) (hk : g.ents.length ≤ k) (hk2 : k + 1 ≤ 1048576) :
    GOk (takes last g p).2.2 ∧ (-1 ≤ (takes last g p).2.1 ∧ (takes last g p).2.1 ≤ 4611686018427387904) ∧ (takes last g p).2.2.ents.length ≤ k + 1 ∧ (takes last g p).2.2.pre = g.pre := by
  have hN := recN_le p
  unfold takes
  split
  · split
    · exact ⟨hg, ⟨by show (-1 : Int) ≤ (recN p : Int); omega, by show (recN p : Int) ≤ _; omega⟩, by show g.ents.length ≤ _; omega, rfl⟩
    · split
      · refine ⟨⟨hg.pre, hg.base, ?_, hg.data, ?_⟩, ⟨by show (-1 : Int) ≤ (recN p : Int); omega, by show (recN p : Int) ≤ _; omega⟩, ?_, rfl⟩
        · show (g.ents ++ [recB p]).length ≤ _
          simp; omega
        · intro x hx
          rcases List.mem_append.1 hx with hx | hx
          · exact hg.ent x hx
          · have : x = recB p := by simpa using hx
            subst this
            exact Nat.le_trans (recB_len p) hp
        · show (g.ents ++ [recB p]).length ≤ _
          simp; omega
      · exact ⟨hg, ⟨by show (-1 : Int) ≤ (recN p : Int); omega, by show (recN p : Int) ≤ _; omega⟩, by show g.ents.length ≤ _; omega, rfl⟩
  · exact ⟨hg, hl, by show g.ents.length ≤ _; omega, rfl⟩
theorem scan_len : ∀ (n : Nat) (l : List UInt8), l.length ≤ n → (scan l).1.length * 12 ≤ l.length ∧ (∀ p ∈ (scan l).1, p.length ≤ 1048576) ∧ (scan l).2 ≤ l.length
  | 0, l, h => by
    have : l = [] := List.eq_nil_of_length_eq_zero (by omega)
    subst this
    rw [scan_nil]; simp
  | n + 1, l, h => by
    by_cases h0 : l = []
    · subst h0; rw [scan_nil]; simp
    · by_cases he : (unrec l).2.2 = 0
      · obtain ⟨u1, u2, u3⟩ := unrec_step l he
        have ih := scan_len n (l.drop (unrec l).2.1) (by rw [List.length_drop]; omega)
        rw [scan_ok l h0 he]
        rw [List.length_drop] at ih
        refine ⟨?_, fun p hp => ?_, ?_⟩
        · show ((scan (l.drop (unrec l).2.1)).1.length + 1) * 12 ≤ _
          omega
        · rcases List.mem_cons.1 hp with rfl | hp
          · exact unrec_len l
          · exact ih.2.1 p hp
        · show (unrec l).2.1 + _ ≤ _
          omega
      · rw [scan_bad l he]; simp
section
variable {W0 w : World} {R : Asrt} {lb b n : Nat} {g : Lg} {d : D}
def LogRel (W0 : World) (R : Asrt) (lb b tb : Nat) (d : D) (pre : ByteArray) (rs : List (List UInt8)) (tot : Bool × Lg) (vs : List Value) (vr v5 : Value) (x : List UInt8) (i : Value) (wr : World) : Prop :=
  ∃ (k : Nat) (last : Int) (g' : Lg), k ≤ rs.length ∧ i = .int .i64 k ∧ Hid (takesAll last g' (rs.drop k) = tot) ∧ GOk g' ∧ (-1 ≤ last ∧ last ≤ 4611686018427387904) ∧ g'.ents.length ≤ k ∧ g'.pre = pre ∧
    Hold W0 ((Blk tb #[ptr lb, .int .i64 last] 108).sep ((LedgA lb b g').sep ((Row 22 1 vr rs.length vs).sep ((Inner vs rs).sep ((Row 5 1 v5 x.length (u8s x)).sep ((DiskA b d).sep R)))))) wr
set_option maxRecDepth 100000 in
set_option maxHeartbeats 3200000 in
theorem log_any (H : Hold W0 ((LedgA lb b g).sep ((DiskA b d).sep R)) w) (hg : GOk g) (he0 : g.ents = []) (hi : DInv d n) (hn : n ≤ 4096) (hus : d.used ≤ 1000000) :
    Calls Tryz.prog 29 #[ptr lb] w (RetL W0 R lb b (log d g)) := by
  have k0 := led_ptr H
  have Hd := Lib.hid H.drew
  have HG := Lib.hid hg
  have HI := Lib.hid hi
  have HE := Lib.hid he0
  have HU := Lib.hid hus
  clear H hg hi he0 hus
  unfold ptr
  go_enter Tryz.func29, Tryz.ntmps29
  go_upto_region 1 with fail
  go_cut [19] (fun s19 wc => s19 = .bool (getF d.fs (logN g.pre)).isNone ∧ Hold W0 ((LedgA lb b g).sep ((DiskA b d).sep R)) wc)
  case first =>
    have m0 := World.new_ne w _ k0
    go_region_held3 (fun w' => w'.cell? ⟨lb, 0, none⟩ = some (.pointer (some ⟨b, 0, none⟩))) (first | exact hS5 | go_keep)
      (first
        | (go_at_call 47; refine (logName_any Hd.out HG.out).mono ?_; rintro e w4 ⟨rfl, rfl⟩)
        | (go_at_call 60; refine (has_any Hd.out.up2 HI.out hn (logN g.pre)).mono ?_; rintro e w5 ⟨rfl, H5⟩; have hS5 : w5.cell? ⟨lb, 0, none⟩ = some (.pointer (some ⟨b, 0, none⟩)) := led_ptr H5.up2))
    all_goals
      have HF := Lib.hid H5.up2
      clear H5 hS5 m0
      go_wp2_with fail
      go_meet
      exact ⟨rfl, HF.out⟩
  case rest =>
    obtain ⟨rfl, h6⟩ := hcut
    have H6 := Lib.hid h6
    clear h6 Hd k0
    cases hf : getF d.fs (logN g.pre) with
    | none =>
      have he : Hid (log d g = (d, g, 0)) := Lib.hid (by rw [log, hf])
      clear hf
      go_wp2
      go_ret
      rw [he.out]
      exact ⟨rfl, H6.out⟩
    | some f =>
      obtain ⟨x, hx⟩ : ∃ x, x = f.data := ⟨_, rfl⟩
      have hxl : x.length ≤ 1000000 := by rw [hx]; exact Nat.le_trans (used_mem (getF_name hf).1) HU.out
      have Hf := Lib.hid hf
      have Hx := Lib.hid hx
      have HT : Hid (log d g = if (takesAll (-1) g (scan x).1).1 then ((logCut d g.pre (scan x).2 x.length (takesAll (-1) g (scan x).1).2.ents.isEmpty).1, (takesAll (-1) g (scan x).1).2, (logCut d g.pre (scan x).2 x.length (takesAll (-1) g (scan x).1).2.ents.isEmpty).2) else (d, (takesAll (-1) g (scan x).1).2, 3)) := Lib.hid (by rw [log, hf, hx])
      have Hd := Lib.hid H6.out.drew
      have k0 := led_ptr H6.out
      clear hf hx H6
      go_upto_region 3 with fail
      go_cut [3, 4] (fun s3 s4 wc => ∃ v5 : Value, v5 = s3 ∧ s4 = .int .i64 0 ∧ Hold W0 ((Row 5 1 v5 x.length (u8s x)).sep ((LedgA lb b g).sep ((DiskA b d).sep R))) wc)
      case first =>
        go_region_held3 (fun w' => w'.cell? ⟨lb, 0, none⟩ = some (.pointer (some ⟨b, 0, none⟩))) (first | exact hS5 | go_keep)
          (first
            | (go_at_call 47; refine (logName_any Hd.out HG.out).mono ?_; rintro e w4 ⟨rfl, rfl⟩)
            | (go_at_call 39; refine (read_yes Hd.out.up2 (logN g.pre) Hf.out (by rw [← Hx.out]; omega)).mono ?_; rintro e w5 ⟨v5, rfl, ho5, hb5⟩; rw [← Hx.out] at ho5; have H5 := Hd.out.addRow hb5 ho5; have hS5 : w5.cell? ⟨lb, 0, none⟩ = some (.pointer (some ⟨b, 0, none⟩)) := led_ptr H5.up2))
        all_goals
          have HF := Lib.hid H5
          clear H5 hS5 ho5 hb5
          go_wp2_with fail
          go_meet
          exact ⟨v5, rfl, rfl, HF.out⟩
      case rest =>
        obtain ⟨v5, rfl, rfl, h7⟩ := hcut
        have H7 := Lib.hid h7
        have hlen5 := h7.sl.run_len Tryz.underlying22
        clear h7 Hd k0
        go_wp2_with fail
        refine (scan_own v5 x _ H7.out.sl (by omega)).mono ?_
        rintro e w8 ⟨vr, rfl, vs, h8⟩
        have h9 := lift_hold2 H7.out h8
        obtain ⟨rs, hrs⟩ : ∃ rs, rs = (scan x).1 := ⟨_, rfl⟩
        obtain ⟨gd, hgd⟩ : ∃ gd, gd = (scan x).2 := ⟨_, rfl⟩
        obtain ⟨sl1, sl2, sl3⟩ := scan_len x.length x (Nat.le_refl _)
        rw [← hrs, ← hgd] at HT
        rw [← hrs] at h9 sl1 sl2
        rw [← hgd] at sl3 ⊢
        have hrl : rs.length ≤ 100000 := by omega
        have SL2 := Lib.hid sl2
        have hlenr := h9.sl.run_len Tryz.underlying44
        have hb9 := h9.addBlk (cs := #[ptr lb, .int .i64 (-1)]) (t := 108) (b := w8.heap.size) rfl
        obtain ⟨tot, htot⟩ : ∃ tot, tot = takesAll (-1) g rs := ⟨_, rfl⟩
        rw [← htot] at HT
        have HR : Hid (LogRel W0 R lb b w8.heap.size d g.pre rs tot vs vr v5 x (.int .i64 0) (w8.alloc (.cells #[ptr lb, .int .i64 (-1)] 108))) := Lib.hid ⟨0, -1, g, Nat.zero_le _, rfl, Lib.hid (by rw [htot, List.drop_zero]), HG.out, ⟨by omega, by omega⟩, by rw [HE.out]; simp, rfl, hb9.perm (by ac_rfl)⟩
        have hmf : ∀ (fn : Fn) (first cap : Array Value) (w : World), (Instr.makeFunc fn first cap).run Tryz.prog w = .ok (.func fn first cap) w := fun _ _ _ _ => rfl
        obtain ⟨tb, htb⟩ : ∃ tb, tb = w8.heap.size := ⟨_, rfl⟩
        unfold ptr at HR
        clear h8 h9 hrs hgd sl1 sl2 hb9 htot H7
        go_wp2_with fail
        rw [← htb] at HR ⊢
        clear htb
        go_loopw [44] (fun i wr => LogRel W0 R lb b tb d g.pre rs tot vs vr v5 x i wr) (fun i _ => rs.length - (intOf i).toNat)
        case atStart => exact HR.out
        case round =>
          clear HR
          obtain ⟨k, last, g', hk, rfl, heq, hg', hla, hge, hpre, hH⟩ := hrel
          have HG' := Lib.hid hg'
          have HLa := Lib.hid hla
          have HPre := Lib.hid hpre
          have HW := Lib.hid hH
          clear hg' hla hpre hH
          by_cases hlt : k < rs.length
          · obtain ⟨A, u, p, hA, _, hc, Hu, hsp⟩ := ((HW.out.drop1.drop1).rowsAt rfl).at (P := Tryz.prog) Tryz.underlying44 Tryz.size22 k hlt
            have hpl : p.length ≤ 1048576 := by rw [Hu.out]; exact SL2.out _ (by simp [List.getD, hlt])
            have HSp := Lib.hid hsp
            have hdrop : Hid (takesAll last g' (rs.drop k) = if (takes last g' p).1 then takesAll (takes last g' p).2.1 (takes last g' p).2.2 (rs.drop (k + 1)) else (false, (takes last g' p).2.2)) := Lib.hid (by
              rw [List.drop_eq_getElem_cons hlt, takesAll, show rs[k] = p from by rw [Hu.out]; simp [List.getD, hlt]])
            have hok := Lib.hid (takes_ok (p := p) HG'.out HLa.out (by omega) hge (by omega))
            obtain ⟨y, hy⟩ : ∃ y, y = takes last g' p := ⟨_, rfl⟩
            have Hy := Lib.hid hy
            clear Hu hsp hy
            go_wp2_with fail
            refine (takes_any HW.out HG'.out HLa.out u p HSp.out (by omega)).mono ?_
            rintro e w10 ⟨rfl, h10⟩
            rw [← Hy.out] at h10 hdrop hok ⊢
            have H10 := Lib.hid h10
            clear h10 HW hc hA
            cases hy1 : y.1 with
            | false =>
              have he : Hid (log d g = (d, y.2.2, 3)) := Lib.hid (by
                have h1 := heq.out.symm.trans hdrop.out
                rw [hy1] at h1
                have h1 : tot = (false, y.2.2) := h1
                rw [HT.out, h1]; rfl)
              have HF : Hid (Hold W0 ((LedgA lb b y.2.2).sep ((DiskA b d).sep R)) w10) := Lib.hid (by
                have h := H10.out.drop1.up2.drop1.up2.drop1.up2.drop1
                exact h)
              clear hdrop hok H10
              go_wp2
              go_ret
              rw [he.out]
              exact ⟨rfl, HF.out⟩
            | true =>
              have hnx : Hid (takesAll y.2.1 y.2.2 (rs.drop (k + 1)) = tot) := Lib.hid (by
                have h1 := heq.out.symm.trans hdrop.out
                rw [hy1, if_pos rfl] at h1
                exact h1.symm)
              clear hdrop
              go_wp2
              go_roundw
              case rel => exact ⟨k + 1, y.2.1, y.2.2, by omega, by go_num, hnx.out |> Lib.hid, hok.out.1, hok.out.2.1, hok.out.2.2.1, hok.out.2.2.2.trans HPre.out, H10.out⟩
              case measure => simp [intOf]; omega
          · have ht : tot = (true, g') := heq.out.symm.trans (by rw [List.drop_eq_nil_of_le (by omega)]; rfl)
            have hl2 : log d g = ((logCut d g.pre gd x.length g'.ents.isEmpty).1, g', (logCut d g.pre gd x.length g'.ents.isEmpty).2) := by rw [HT.out, ht, if_pos rfl]
            have HL2 := Lib.hid hl2
            have HA : Hid (Hold W0 ((LedgA lb b g').sep ((DiskA b d).sep R)) wr) := Lib.hid HW.out.drop1.up2.drop1.up2.drop1.up2.drop1
            have hge2 := hge
            clear ht hl2 HT heq HW HLa SL2 hge hge2
            by_cases hcut : gd < x.length
            · have g1 : decide (gd < x.length) = true := by simpa using hcut
              have hpre := HPre.out
              have hc1 : logCut d g.pre gd x.length g'.ents.isEmpty = if (d.truncate (logN g.pre) gd).2 = 0 then if ((d.truncate (logN g.pre) gd).1.sync [logN g.pre]).2 = 0 then logEnd ((d.truncate (logN g.pre) gd).1.sync [logN g.pre]).1 g.pre g'.ents.isEmpty else (d.truncate (logN g.pre) gd).1.sync [logN g.pre] else d.truncate (logN g.pre) gd := by rw [logCut, if_pos hcut]
              have HC1 := Lib.hid hc1
              have HFit : Hid (∀ f ∈ d.fs, f.data.length ≤ 4611686018427387904 ∧ f.lasts ≤ 4611686018427387904) := Lib.hid fun f hf => by have := HI.out.fit f hf; omega
              have HI1 := Lib.hid (HI.out.truncate (logN g.pre) gd)
              have hA1 := HA.out.drew
              have k0 := led_ptr HA.out
              rw [← hpre] at HI1 HC1
              obtain ⟨m, hm⟩ : ∃ m, m = (d.truncate (logN g'.pre) gd).2 := ⟨_, rfl⟩
              obtain ⟨d1, hd1⟩ : ∃ d1, d1 = (d.truncate (logN g'.pre) gd).1 := ⟨_, rfl⟩
              rw [← hd1] at HI1
              rw [← hm, ← hd1] at HC1
              have Hm := Lib.hid hm
              have Hd1 := Lib.hid hd1
              have HA1 := Lib.hid hA1
              have HP2 := Lib.hid hpre
              clear hcut hc1 hA1 HA hpre hm hd1
              go_upto_region 15 with fail
              go_cut [10] (fun s10 wc => s10 = .int .i64 m ∧ Hold W0 ((LedgA lb b g').sep ((DiskA b d1).sep R)) wc)
              case first =>
                go_region_held3 (fun w' => w'.cell? ⟨lb, 0, none⟩ = some (.pointer (some ⟨b, 0, none⟩))) (first | exact hS5 | go_keep)
                  (first
                    | (go_at_call 47; refine (logName_any HA1.out HG'.out).mono ?_; rintro e w4 ⟨rfl, rfl⟩)
                    | (go_at_call 63; refine (truncate_any HA1.out.up2 HI.out.ok.left HFit.out (logN g'.pre) gd).mono ?_; rintro e w5 ⟨rfl, H5⟩; rw [← Hm.out]; rw [← Hd1.out] at H5; have hS5 : w5.cell? ⟨lb, 0, none⟩ = some (.pointer (some ⟨b, 0, none⟩)) := led_ptr H5.up2))
                all_goals
                  have HF := Lib.hid H5.up2
                  clear H5 hS5
                  go_wp2_with fail
                  go_meet
                  exact ⟨rfl, HF.out⟩
              case rest =>
                obtain ⟨rfl, h20⟩ := hcut
                have H20 := Lib.hid h20
                clear h20 HA1 k0
                by_cases hm0 : m = 0
                · subst hm0
                  have hA2 := H20.out.drew
                  have k0 := led_ptr H20.out
                  have m0 := World.new_ne _ _ k0
                  have HA2 := Lib.hid hA2
                  have HI2 := Lib.hid (HI1.out.sync (logN g'.pre))
                  have HC2 := Lib.hid (HC1.out.trans (if_pos rfl))
                  obtain ⟨m2, hm2⟩ : ∃ m2, m2 = (d1.sync [logN g'.pre]).2 := ⟨_, rfl⟩
                  obtain ⟨d2, hd2⟩ : ∃ d2, d2 = (d1.sync [logN g'.pre]).1 := ⟨_, rfl⟩
                  have e2 : d1.sync [logN g'.pre] = (d2, m2) := by rw [hm2, hd2]
                  rw [← hd2] at HI2
                  rw [e2] at HC2
                  have Hm2 := Lib.hid hm2
                  have Hd2 := Lib.hid hd2
                  clear hA2 hm2 hd2 e2 H20
                  go_upto_region 18 with fail
                  go_cut [11] (fun s11 wc => s11 = .int .i64 m2 ∧ Hold W0 ((LedgA lb b g').sep ((DiskA b d2).sep R)) wc)
                  case first =>
                    go_region_held3 (fun w' => w'.cell? ⟨lb, 0, none⟩ = some (.pointer (some ⟨b, 0, none⟩))) (first | exact hS5 | go_keep)
                      (first
                        | (go_at_call 47; refine (logName_any HA2.out HG'.out).mono ?_; rintro e w4 ⟨rfl, rfl⟩)
                        | (go_at_call 48; refine (sync_lit HA2.out.up2 rfl HI1.out.ok.left (logN g'.pre)).mono ?_; rintro e w5 ⟨rfl, H5⟩; rw [← Hm2.out]; rw [← Hd2.out] at H5; have hS5 : w5.cell? ⟨lb, 0, none⟩ = some (.pointer (some ⟨b, 0, none⟩)) := led_ptr H5.up2))
                    all_goals
                      have HF := Lib.hid H5.up2
                      clear H5 hS5
                      go_wp2_with fail
                      go_meet
                      exact ⟨rfl, HF.out⟩
                  case rest =>
                    obtain ⟨rfl, h21⟩ := hcut
                    have H21 := Lib.hid h21
                    clear h21 HA2 k0 m0
                    by_cases hm0 : m2 = 0
                    · subst hm0
                      have he : Hid (log d g = ((logEnd d2 g'.pre g'.ents.isEmpty).1, g', (logEnd d2 g'.pre g'.ents.isEmpty).2)) := Lib.hid (by
                        rw [HL2.out, ← HP2.out, HC2.out, if_pos rfl])
                      obtain ⟨dv, ev, vs2, h22⟩ := led_open H21.out
                      have c4 := blk_cell h22.blk 4
                      have hl4 := h22.up3.sl.run_len Tryz.underlying44
                      have k0 := led_ptr H21.out
                      have m0 := World.new_ne _ _ k0
                      have Hq := Lib.hid H21.out.drew
                      clear h22
                      by_cases hem : g'.ents.length = 0
                      · have q0 : ((g'.ents.length : Int) == 0) = true := by simpa using hem
                        have he2 : Hid (log d g = ((d2.remove [logN g'.pre]).1, g', (d2.remove [logN g'.pre]).2)) := Lib.hid (by
                          rw [he.out, logEnd, if_pos (by rw [List.isEmpty_iff_length_eq_zero]; exact hem)])
                        clear hem
                        go_wp2_with fail
                        go_region_held3 (fun w' => w'.cell? ⟨lb, 0, none⟩ = some (.pointer (some ⟨b, 0, none⟩))) (first | exact hS5 | go_keep)
                          (first
                            | (go_at_call 47; refine (logName_any Hq.out HG'.out).mono ?_; rintro e w4 ⟨rfl, rfl⟩)
                            | (go_at_call 64; refine (remove_lit Hq.out.up2 rfl HI2.out.ok.left (logN g'.pre)).mono ?_; rintro e w5 ⟨rfl, H5⟩; have hS5 : w5.cell? ⟨lb, 0, none⟩ = some (.pointer (some ⟨b, 0, none⟩)) := led_ptr H5.up2))
                        all_goals
                          have HF := Lib.hid H5.up2
                          clear H5 hS5
                          go_wp2
                          go_ret
                          rw [he2.out]
                          exact ⟨rfl, HF.out⟩
                      · have q0 : ((g'.ents.length : Int) == 0) = false := by rw [beq_eq_false_iff_ne]; omega
                        have he2 : Hid (log d g = (d2, g', 0)) := Lib.hid (by
                          rw [he.out, logEnd, if_neg (by rw [List.isEmpty_iff_length_eq_zero]; exact hem)])
                        clear hem
                        go_wp2
                        go_ret
                        rw [he2.out]
                        exact ⟨rfl, H21.out⟩
                    · have he : Hid (log d g = (d2, g', m2)) := Lib.hid (by
                        rw [HL2.out, ← HP2.out, HC2.out, if_neg hm0])
                      have q0 : ((m2 : Int) == 0) = false := by rw [beq_eq_false_iff_ne]; omega
                      have q1 : ((m2 : Int) != 0) = true := by simp; omega
                      clear hm0
                      go_wp2
                      go_ret
                      rw [he.out]
                      exact ⟨rfl, H21.out⟩
                · have he : Hid (log d g = (d1, g', m)) := Lib.hid (by
                    rw [HL2.out, ← HP2.out, HC1.out, if_neg hm0, Hd1.out, Hm.out])
                  have q0 : ((m : Int) == 0) = false := by rw [beq_eq_false_iff_ne]; omega
                  have q1 : ((m : Int) != 0) = true := by simp; omega
                  clear hm0
                  go_wp2
                  go_ret
                  rw [he.out]
                  exact ⟨rfl, H20.out⟩
            · have g1 : decide (gd < x.length) = false := by simpa using hcut
              have he : Hid (log d g = ((logEnd d g'.pre g'.ents.isEmpty).1, g', (logEnd d g'.pre g'.ents.isEmpty).2)) := Lib.hid (by
                rw [HL2.out, logCut, if_neg hcut, HPre.out])
              clear hcut
              obtain ⟨dv, ev, vs2, h22⟩ := led_open HA.out
              have c4 := blk_cell h22.blk 4
              have hl4 := h22.up3.sl.run_len Tryz.underlying44
              have k0 := led_ptr HA.out
              have m0 := World.new_ne _ _ k0
              have Hq := Lib.hid HA.out.drew
              clear h22
              by_cases hem : g'.ents.length = 0
              · have q0 : ((g'.ents.length : Int) == 0) = true := by simpa using hem
                have he2 : Hid (log d g = ((d.remove [logN g'.pre]).1, g', (d.remove [logN g'.pre]).2)) := Lib.hid (by
                  rw [he.out, logEnd, if_pos (by rw [List.isEmpty_iff_length_eq_zero]; exact hem)])
                clear hem
                go_wp2_with fail
                go_region_held3 (fun w' => w'.cell? ⟨lb, 0, none⟩ = some (.pointer (some ⟨b, 0, none⟩))) (first | exact hS5 | go_keep)
                  (first
                    | (go_at_call 47; refine (logName_any Hq.out HG'.out).mono ?_; rintro e w4 ⟨rfl, rfl⟩)
                    | (go_at_call 64; refine (remove_lit Hq.out.up2 rfl HI.out.ok.left (logN g'.pre)).mono ?_; rintro e w5 ⟨rfl, H5⟩; have hS5 : w5.cell? ⟨lb, 0, none⟩ = some (.pointer (some ⟨b, 0, none⟩)) := led_ptr H5.up2))
                all_goals
                  have HF := Lib.hid H5.up2
                  clear H5 hS5
                  go_wp2
                  go_ret
                  rw [he2.out]
                  exact ⟨rfl, HF.out⟩
              · have q0 : ((g'.ents.length : Int) == 0) = false := by rw [beq_eq_false_iff_ne]; omega
                have he2 : Hid (log d g = (d, g', 0)) := Lib.hid (by
                  rw [he.out, logEnd, if_neg (by rw [List.isEmpty_iff_length_eq_zero]; exact hem)])
                clear hem
                go_wp2
                go_ret
                rw [he2.out]
                exact ⟨rfl, HA.out⟩
end
end Go.Proofs.YtkbfjgmgckbogaaGreat.Ld
