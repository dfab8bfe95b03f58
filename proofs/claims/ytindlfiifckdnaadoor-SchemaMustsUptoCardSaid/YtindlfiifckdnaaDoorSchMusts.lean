/-
  The walk of SchemaMusts.
-/
import Derived.Test.YtindlfiifckdnaaDoorSchXChk
import Derived.Test.YtindlfiifckdnaaDoorSchHeavy
import Derived.Test.YtindlfiifckdnaaDoorSchKnown
import Derived.Test.YtindlfiifckdnaaDoorStep
import Derived.Test.YtindlfiifckdnaaDoorSchMask
import Derived.Deep.RegionLaw
namespace Go.Proofs.YtindlfiifckdnaaDoor.Sc
open Go.RowKit L
theorem acl_one (l : List (At × Value)) (h : ∀ p ∈ l, p.2.oneCell' = true) : ∀ u ∈ acl l, u.oneCell' = true := by
  induction l with
  | nil => intro u hu; cases hu
  | cons p r ih =>
    intro u hu
    simp only [acl, List.mem_cons] at hu
    rcases hu with rfl | rfl | hu
    · rfl
    · exact h p (List.mem_cons_self ..)
    · exact ih (fun q hq => h q (List.mem_cons_of_mem _ hq)) u hu
/-- an attribute of a list, by its values -/
theorem acl_at {w : World} {av : Value} {L : List (At × Value)} (h : Sl w 2 av L.length (acl L)) (k : Nat) (hk : k < L.length) :
    ∃ (A : Addr), (∀ w' : World, (Instr.indexAt 23 av (.int .i64 (k : Int))).run Tryd.prog w' = .ok (.pointer (some A)) w') ∧ w.cell? A = some (.string (L.getD k default).1.typ) ∧ w.cell? ⟨A.block, A.off + 1, none⟩ = some (L.getD k default).2 := by
  obtain ⟨A, hA, hblk, hcell⟩ := run_indexAt_sl (P := Tryd.prog) h Tryd.underlying23 Tryd.size36 .i64 (k : Int) (by omega) (by omega)
  have h0 := hcell 0 (by omega)
  have h1 := hcell 1 (by omega)
  simp only [Int.toNat_natCast, Nat.add_zero] at h0 h1
  obtain ⟨g0, g1⟩ := acl_get L k hk
  rw [g0] at h0
  rw [g1] at h1
  exact ⟨A, hA, h0, h1⟩
def keep (typ : ByteArray) (L : List (At × Value)) : List (At × Value) := L.filter fun p => !decide (foldB p.1.typ = typ)
theorem keep_succ {typ : ByteArray} {L : List (At × Value)} {k : Nat} (h : k < L.length) : keep typ (L.take (k + 1)) = keep typ (L.take k) ++ (if foldB (L.getD k default).1.typ = typ then [] else [L.getD k default]) := by
  unfold keep
  rw [List.take_succ_eq_append_getElem h, List.filter_append]
  congr 1
  simp only [List.getD, List.getElem?_eq_getElem h, Option.getD_some, List.filter_cons, List.filter_nil]
  by_cases h1 : foldB L[k].1.typ = typ <;> simp [h1]
theorem keep_len (typ : ByteArray) (L : List (At × Value)) (k : Nat) : (keep typ (L.take k)).length ≤ L.length := by
  unfold keep
  have h1 := List.length_filter_le (fun p : At × Value => !decide (foldB p.1.typ = typ)) (L.take k)
  rw [List.length_take] at h1
  omega
theorem keep_fst (typ : ByteArray) (L : List (At × Value)) (e : Ent) (h : L.map Prod.fst = e.ats) : (keep typ L).map Prod.fst = (without e typ).ats := by
  unfold keep without
  simp only [← h]
  rw [List.filter_map]
  rfl
theorem without_ok {e : Ent} {n : Nat} (h : EntOk e n) (typ : ByteArray) : EntOk (without e typ) n := by
  have hsub : ∀ a ∈ (without e typ).ats, a ∈ e.ats := fun a ha => (List.mem_filter.1 ha).1
  refine ⟨h.dnl, h.dns, ?_, fun a ha => h.typ a (hsub a ha), ?_, fun a ha => h.val a (hsub a ha)⟩
  · have := List.length_filter_le (fun a : At => !decide (foldB a.typ = typ)) e.ats
    have h2 := h.atl
    exact Nat.le_trans this h2
  · have h2 : ∀ l : List At, ((l.filter fun a => !decide (foldB a.typ = typ)).map fun a => a.vals.length).sum ≤ (l.map fun a => a.vals.length).sum := by
      intro l
      induction l with
      | nil => simp
      | cons a r ih =>
        rw [List.filter_cons]
        split
        · simp only [List.map_cons, List.sum_cons]; omega
        · simp only [List.map_cons, List.sum_cons]; omega
    exact Nat.le_trans (h2 e.ats) h.vals
theorem mu_ne {t : ByteArray} {p : List ByteArray × List ByteArray} (h : classB t = some p) : 0 < (muB (classB t)).length ∧ (muB (classB t)).length ≤ 2 := by
  unfold classB at h ⊢
  repeat' split at h
  all_goals first
    | (cases h)
    | skip
  all_goals simp_all [muB]
def MsRel (w : World) (b xb : Nat) (dv av : Value) (L : List (At × Value)) (typ : ByteArray) (i : Value) (wr : World) : Prop := ∃ (k : Nat) (xv : Value), k ≤ L.length ∧ i = .int .i64 k ∧
  Hold w ((Row 36 2 xv (keep typ (L.take k)).length (acl (keep typ (L.take k)))).sep ((Blk xb #[dv, xv] 25).sep ((Blk b #[dv, av] 25).sep Asrt.emp))) wr
theorem ms_step {w wr : World} {b xb : Nat} {dv av xv : Value} {L : List (At × Value)} {typ : ByteArray} {k : Nat} {p : At × Value} (hp : p = L.getD k default) (hk : k < L.length) {ao : Option Addr} {c m : Nat}
    (hne : ¬ foldB p.1.typ = typ) (hm : m = (keep typ (L.take k)).length)
    (H : Hold w ((Row 36 2 (.slice ao (m + 1) c) (m + 1) (acl (keep typ (L.take k)) ++ acl [p])).sep ((Blk xb #[dv, xv] 25).sep ((Blk b #[dv, av] 25).sep Asrt.emp))) wr) :
    MsRel w b xb dv av L typ (.int .i64 ((k + 1 : Nat) : Int)) (wr.setCell ⟨xb, 1, none⟩ (.slice ao (m + 1) c)) := by
  refine ⟨k + 1, .slice ao (m + 1) c, by omega, rfl, ?_⟩
  have hq := (setQ H.up2 1 (.slice ao (m + 1) c)).up2
  rw [keep_succ hk, ← hp, if_neg hne, acl_append, List.length_append, ← hm]
  exact hq
set_option maxRecDepth 100000 in
set_option maxHeartbeats 3200000 in
theorem musts_any (w : World) (dv av : Value) (e : Ent) (i : Int) (h : EntAt w dv av e) (hk : EntOk e 1048576) (hT : Tab w) : Calls Tryd.prog 3 #[.agg #[dv, av], .int .i64 i] w (RetBl w true) := by
  obtain ⟨dao, dn, dcap, hdv⟩ : ∃ ao n cap, dv = .slice ao n cap := by
    obtain ⟨_, ao, cap, e, _⟩ := h.dn
    exact ⟨ao, _, cap, e⟩
  subst hdv
  have HE := Lib.hid h
  have HK := Lib.hid hk
  have HT := Lib.hid hT
  have hatl := hk.atl
  have hlenA := h.len
  have H0 := Lib.hid ((Hold.start w).addBlk (cs := #[.slice dao dn dcap, av]) (t := 25) (b := w.heap.size) rfl)
  obtain ⟨b, hb⟩ : ∃ b, b = w.heap.size := ⟨_, rfl⟩
  rw [← hb] at H0
  have HW0 := Lib.hid hb
  clear h hk hT hb
  go_enter Tryd.func3, Tryd.ntmps3
  go_wp2_with fail
  rw [← HW0.out]
  refine (heavy_any _ (.slice dao dn dcap) av e (HE.out.below H0.out.old) HK.out).mono ?_
  rintro e2 w2 ⟨hv, rfl, hb2⟩
  have H2 := Lib.hid (H0.out.keeps hb2)
  clear hb2
  have c0 := blk_cell H2.out.blk 0
  have c1 := blk_cell H2.out.blk 1
  cases hv with
  | true =>
    go_wp2
    go_ret
    exact ⟨rfl, H2.out.old⟩
  | false =>
    go_wp2_with fail
    refine (xcheck_any _ (.slice dao dn dcap) av e (HE.out.below H2.out.old) HK.out).mono ?_
    rintro e3 w3 ⟨rfl, hb3⟩
    have H3 := Lib.hid (H2.out.keeps hb3)
    clear hb3 c0 c1 H2
    have c0 := blk_cell H3.out.blk 0
    have c1 := blk_cell H3.out.blk 1
    obtain ⟨z, hz⟩ : ∃ z, z = xcheckB e := ⟨_, rfl⟩
    rw [← hz]
    have HZ := Lib.hid hz
    clear hz
    by_cases hz0 : z = 0
    · subst hz0
      obtain ⟨hq1, hq2, hq3⟩ := check_zero HZ.out.symm
      have HQ1 := Lib.hid hq1
      have HQ2 := Lib.hid hq2
      have HQ3 := Lib.hid hq3
      clear hq1 hq2 hq3
      go_wp2_with fail
      refine (xvals_any _ (.slice dao dn dcap) av e s_objectclass (HE.out.below H3.out.old) HK.out (by decide)).mono ?_
      rw [fold_oc]
      rintro e4 w4 ⟨v, rfl, hsl, hb4⟩
      have H4 := Lib.hid (H3.out.keeps hb4)
      have hvl := valsT_len HK.out s_objectclass e.ats.length
      rw [valsT_all] at hvl
      have HVs := Lib.hid (valsB_size HK.out s_objectclass)
      obtain ⟨l, hl⟩ : ∃ l, l = valsB e s_objectclass := ⟨_, rfl⟩
      rw [← hl] at hvl HVs HQ3 hsl
      have HL := Lib.hid hl
      have hlen := hsl.run_len (P := Tryd.prog) Tryd.underlying28
      have hl0 : 0 < l.length := List.length_pos_iff.2 HQ3.out
      obtain ⟨n, hn⟩ : ∃ n, n = l.length := ⟨_, rfl⟩
      rw [← hn] at hvl hlen hl0
      obtain ⟨j, hj, hjl⟩ := mask10 i
      obtain ⟨q, hq⟩ : ∃ q : Nat, (j : Int) % (n : Int) = (q : Int) := ⟨j % n, by omega⟩
      have hql : q < n := by
        have := Int.emod_lt_of_pos (j : Int) (show (0 : Int) < n by omega)
        omega
      have hqn : q < l.length := by omega
      obtain ⟨A, u, hA, _, hc, Hu⟩ := hsl.at1 (P := Tryd.prog) Tryd.underlying28 Tryd.size9 q hqn
      rw [Hu.out, strs_get l q hqn] at hc
      obtain ⟨x, hx⟩ : ∃ x, x = l.getD q ByteArray.empty := ⟨_, rfl⟩
      have hxm : x ∈ l := by rw [hx]; simp [List.getD, hqn]
      have hxs := HVs.out x hxm
      rw [← hx] at hc
      have hcls : ∃ p, classB (foldB x) = some p := by
        have h1 := HQ2.out
        unfold undefB at h1
        rw [Bool.or_eq_false_iff] at h1
        have h2 := List.any_eq_false.1 h1.2 x (by rw [← HL.out]; exact hxm)
        cases hc2 : classB (foldB x) with
        | none => rw [hc2] at h2; exact absurd rfl h2
        | some p => exact ⟨p, rfl⟩
      obtain ⟨p0, hp0⟩ := hcls
      obtain ⟨hm0, hm2⟩ := mu_ne hp0
      have HXm : Hid (x ∈ valsB e s_objectclass) := Lib.hid (by rw [← HL.out]; exact hxm)
      have HC := Lib.hid (xclass_any x w4 (by omega))
      have HMu := Lib.hid (fold_mu (foldB x))
      clear hl Hu hx hxm hp0 hsl hb4 c0 c1 H3 HQ3 hn hqn
      go_wp2_with fail
      refine HC.out.mono ?_
      rintro e5 w5 ⟨v1, v2, rfl, hv1, _, hb5, _⟩
      have H5 := Lib.hid (H4.out.keeps hb5)
      obtain ⟨ms, hms⟩ : ∃ ms, ms = muB (classB (foldB x)) := ⟨_, rfl⟩
      rw [← hms] at hm0 hm2 hv1 HMu
      have HMs := Lib.hid hms
      have hlen1 := hv1.run_len (P := Tryd.prog) Tryd.underlying28
      obtain ⟨n1, hn1⟩ : ∃ n1, n1 = ms.length := ⟨_, rfl⟩
      rw [← hn1] at hm0 hm2 hlen1
      obtain ⟨j1, hj1, hjl1⟩ := mask10 (i / 1024)
      obtain ⟨q1, hq1⟩ : ∃ q1 : Nat, (j1 : Int) % (n1 : Int) = (q1 : Int) := ⟨j1 % n1, by omega⟩
      have hql1 : q1 < n1 := by
        have := Int.emod_lt_of_pos (j1 : Int) (show (0 : Int) < n1 by omega)
        omega
      have hqn1 : q1 < ms.length := by omega
      obtain ⟨A1, u1, hA1, _, hc1, Hu1⟩ := hv1.at1 (P := Tryd.prog) Tryd.underlying28 Tryd.size9 q1 hqn1
      rw [Hu1.out, strs_get ms q1 hqn1] at hc1
      obtain ⟨typ, htyp⟩ : ∃ typ, typ = ms.getD q1 ByteArray.empty := ⟨_, rfl⟩
      have htm : typ ∈ ms := by rw [htyp]; simp [List.getD, hqn1]
      rw [← htyp] at hc1
      have HNo : Hid (checkB (without e typ) ≠ 0) := Lib.hid (without_no HXm.out (by rw [← HMs.out]; exact htm))
      have k0 := blk_cell H5.out.blk 0
      have k1 := blk_cell H5.out.blk 1
      clear hms htyp htm hv1 hb5 hA hc hlen hj hq Hu1 HC H4 HMu HMs HXm hn1 hqn1
      obtain ⟨hdn, L, hL1, hL2, hL3⟩ := HE.out
      have HD := Lib.hid hdn
      have HL1 := Lib.hid hL1
      have HL2 := Lib.hid hL2
      have HL3 := Lib.hid hL3
      have hLl : L.length ≤ 1048576 := by rw [← hL1, List.length_map] at hatl; exact hatl
      have hLe : Hid (e.ats.length = L.length) := Lib.hid (by rw [← hL1, List.length_map])
      rw [hLe.out] at hlenA
      have hxb : Hid (MsRel w b w5.heap.size (.slice dao dn dcap) av L typ (.int .i64 0) (w5.alloc (.cells #[.slice dao dn dcap, .slice none 0 0] 25))) := Lib.hid ⟨0, .slice none 0 0, Nat.zero_le _, rfl, by
        have h1 := (H5.out.addBlk (cs := #[.slice dao dn dcap, .slice none 0 0]) (t := 25) (b := w5.heap.size) rfl).addNil 36 2
        simpa [keep, acl] using h1⟩
      clear hdn hL1 hL2 hL3 H5
      go_wp2
      obtain ⟨xb, hxbe⟩ : ∃ xb, xb = w5.heap.size := ⟨_, rfl⟩
      rw [← hxbe] at hxb ⊢
      clear hxbe hA1 hc1 hlen1 hj1 hq1 k0 k1
      go_loopw [11] (fun i wr => MsRel w b xb (.slice dao dn dcap) av L typ i wr) (fun i _ => L.length - (intOf i).toNat)
      case atStart => exact hxb.out
      case round =>
        clear hxb
        obtain ⟨k, xv, hk, rfl, hH⟩ := hrel
        have HW := Lib.hid hH
        have k1 := blk_cell hH.up3.blk 1
        by_cases hlt : k < L.length
        · obtain ⟨A, hA, hc0, hc1⟩ := acl_at (HL2.out.below' hH.old) k hlt
          obtain ⟨p, hp⟩ : ∃ p, p = L.getD k default := ⟨_, rfl⟩
          rw [← hp] at hc0 hc1
          have hpm : p ∈ L := by rw [hp]; simp [List.getD, hlt]
          have hpa : p.1 ∈ e.ats := by rw [← HL1.out]; exact List.mem_map.2 ⟨p, hpm, rfl⟩
          have hts := HK.out.typ _ hpa
          obtain ⟨tp, htp⟩ := typed_of HQ2.out _ hpa
          have Hp := Lib.hid hp
          have Htp := Lib.hid htp
          obtain ⟨ao, cap, hps⟩ : ∃ ao cap, p.2 = .slice ao p.1.vals.length cap := by
            obtain ⟨_, ao, cap, e, _⟩ := HL3.out p hpm
            exact ⟨ao, cap, e⟩
          have Hps := Lib.hid hps
          have hkl := keep_len typ L k
          have hX := xtype_any p.1.typ wr (by omega)
          rw [htp] at hX
          have HX := Lib.hid hX
          have HC0 := Lib.hid hc0
          have HC1 := Lib.hid hc1
          clear hp hpm hpa htp hps hH hX hc1
          go_wp2_with fail
          refine HX.out.mono ?_
          rintro e6 w6 ⟨rfl, hb6⟩
          have HW6 := Lib.hid (HW.out.keeps hb6)
          have hc0 := (hb6.cell (World.block_lt_of_cell? _ _ HC0.out)).trans HC0.out
          have hc1 := (hb6.cell (p := ⟨A.block, A.off + 1, none⟩) (World.block_lt_of_cell? _ _ HC1.out)).trans HC1.out
          simp only [typeV]
          clear hb6 k1 HX HW
          by_cases he : foldB p.1.typ = typ
          · have e1 := text_yes he
            have HR : Hid (keep typ (L.take (k + 1)) = keep typ (L.take k)) := Lib.hid (by rw [keep_succ hlt, ← Hp.out, if_pos he, List.append_nil])
            clear he hc0 hc1
            go_wp2
            go_roundw
            case rel => exact ⟨k + 1, xv, by omega, by go_num, by rw [HR.out]; exact HW6.out⟩
            case measure => simp [intOf]; omega
          · have e1 := text_no he
            have HNe := Lib.hid he
            clear he
            go_wp2_with fail
            have H7 := HW6.out.drew
            have d1 : w6.drew.cell? ⟨xb, 1, none⟩ = some xv := blk_cell H7.up2.blk 1
            have d2 : w6.drew.cell? ⟨b, 1, none⟩ = some av := blk_cell H7.up3.blk 1
            have d3 : w6.drew.cell? A = some (.string p.1.typ) := hc0
            have d4 : w6.drew.cell? ⟨A.block, A.off + 1, none⟩ = some p.2 := hc1
            have H10 := H7.keeps ((Below.refl _ _).alloc (Nat.le_refl _) (.cells #[.string p.1.typ, p.2] 36))
            have g1 : (w6.alloc (.cells #[.string p.1.typ, p.2] 36)).drew.cell? ⟨xb, 1, none⟩ = some xv := blk_cell H10.up2.blk 1
            have hsl : Sl (w6.drew.alloc (.cells #[.string p.1.typ, p.2] 36)) 2 (.slice (some ⟨w6.drew.heap.size, 0, none⟩) 1 1) 1 (acl [p]) := sl_builtN w6.drew (acl [p]) 36 2 1 rfl (by decide)
            have hone : ∀ u ∈ acl [p], u.oneCell' = true := acl_one _ fun q hq => by
              obtain rfl := List.mem_singleton.1 hq
              rw [Hps.out]; rfl
            have Hone := Lib.hid hone
            have Hsl := Lib.hid hsl
            have H10' := Lib.hid H10
            clear H7 H10 hsl hone hc0 hc1
            go_region_law
              (first
                | (refine step_app elA H10'.out ?_ (.tmp 73) (.tmp 79) ?_ ?_ ?_ Hsl.out Hone.out (by omega) (by omega) ?_; (any_goals rfl); intro v9 ys9 w9 Y9 H11; rw [Y9.out] at H11; obtain ⟨ao9, cap9, rfl⟩ := H11.own.shape; have d9 : w9.cell? ⟨xb, 1, none⟩ = some xv := blk_cell H11.up2.blk 1; have f9 := blk_free H11.up2.blk 1; have HF := Lib.hid (ms_step Hp.out hlt HNe.out rfl H11); clear H11 H10')
                | fail)
            all_goals
              go_wp2
              go_roundw
              case rel =>
                obtain ⟨k', xv', h1, h2, h3⟩ := HF.out
                exact ⟨k', xv', h1, by simpa using h2, h3⟩
              case measure => simp [intOf]; omega
        · obtain rfl : k = L.length := by omega
          rw [List.take_length] at HW hH
          have HX : Hid (EntAt wr (.slice dao dn dcap) xv (without e typ)) := Lib.hid ⟨HD.out.below' hH.old, keep typ L, keep_fst typ L e HL1.out, hH.sl, fun p hp => (HL3.out p (List.mem_filter.1 hp).1).below' hH.old⟩
          have k0 := blk_cell hH.up3.blk 0
          have HCe := Lib.hid (check_any wr (.slice dao dn dcap) av e (HE.out.below hH.old) HK.out (HT.out.below hH.old))
          rw [HQ1.out] at HCe
          clear hH
          go_wp2_with fail
          refine HCe.out.mono ?_
          rintro e7 w7 ⟨rfl, hb7⟩
          have HW7 := Lib.hid (HW.out.keeps hb7)
          have m0 := blk_cell HW7.out.up2.blk 0
          have m1 := blk_cell HW7.out.up2.blk 1
          have HCx := Lib.hid (check_any w7 (.slice dao dn dcap) xv (without e typ) (HX.out.below hb7) (without_ok HK.out typ) (HT.out.below HW7.out.old))
          obtain ⟨z, hz⟩ : ∃ z, z = checkB (without e typ) := ⟨_, rfl⟩
          rw [← hz] at HCx
          have hz1 : (z != 0) = true := by rw [hz]; simpa using HNo.out
          clear hb7 k0 k1 HCe hz
          go_wp2_with fail
          refine HCx.out.mono ?_
          rintro e8 w8 ⟨rfl, hb8⟩
          have HB8 := Lib.hid (HW7.out.keeps hb8).old
          clear hb8 m0 m1 HCx
          go_wp2_with fail
          refine (known_any _ (HT.out.below HB8.out)).mono ?_
          rintro e9 w9 ⟨rfl, hb9⟩
          have HB9 : Hid (Below w.heap.size w w9) := Lib.hid (HB8.out.trans (hb9.mono HB8.out.size))
          clear hb9
          go_wp2
          go_ret
          exact ⟨rfl, HB9.out⟩
    · have hzz : (z != 0) = true := by simp [hz0]
      clear hz0
      go_wp2
      go_ret
      exact ⟨rfl, H3.out.old⟩
end Go.Proofs.YtindlfiifckdnaaDoor.Sc
