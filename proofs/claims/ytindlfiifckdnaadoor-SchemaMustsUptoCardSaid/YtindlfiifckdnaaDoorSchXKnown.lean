/-
  known of chapter 14's reference.
-/
import Derived.Test.YtindlfiifckdnaaDoorSchUndef
namespace Go.Proofs.YtindlfiifckdnaaDoor.Sc
open Go.RowKit L
theorem fold_oc : foldB s_objectclass = s_objectclass := by kernel_rfl
def noClass (s : ByteArray) : Bool := (classB (foldB s)).isNone
def SxRel (w : World) (b : Nat) (dv av v : Value) (l : List ByteArray) (p : ByteArray → Bool) (i : Value) (wr : World) : Prop := ∃ k : Nat, k ≤ l.length ∧ i = .int .i64 k ∧ (∀ j, j < k → p (l.getD j ByteArray.empty) = false) ∧ Hold w ((Blk b #[dv, av] 25).sep Asrt.emp) wr ∧ Sl wr 1 v l.length (strs l)
set_option maxRecDepth 100000 in
set_option maxHeartbeats 1600000 in
theorem xknown_any (w : World) (dv av : Value) (e : Ent) (h : EntAt w dv av e) (hk : EntOk e 1048576) : Calls Tryd.prog 16 #[.agg #[dv, av]] w (RetBl w (!undefB e)) := by
  have HE := Lib.hid h
  have HK := Lib.hid hk
  have hatl := hk.atl
  have hlen := h.len
  have HP : Hid (BxRel w w.heap.size dv av e noType (.int .i64 0) (w.alloc (.cells #[dv, av] 25))) := Lib.hid ⟨0, Nat.zero_le _, rfl, (fun j hj => by omega), (Hold.start w).addBlk (cs := #[dv, av]) (t := 25) (b := w.heap.size) rfl⟩
  clear h hk
  go_enter Tryd.func16, Tryd.ntmps16
  go_wp2
  obtain ⟨b, hb⟩ : ∃ b, b = w.heap.size := ⟨_, rfl⟩
  rw [← hb] at HP ⊢
  clear hb
  go_loopw [3] (fun i wr => BxRel w b dv av e noType i wr) (fun i _ => e.ats.length - (intOf i).toNat)
  case atStart => exact HP.out
  case round =>
    clear HP
    obtain ⟨k, hk, rfl, hall, hH⟩ := hrel
    have Hall := Lib.hid hall
    have HW := Lib.hid hH
    have k1 := blk_cell hH.blk 1
    clear hall
    by_cases hlt : k < e.ats.length
    · obtain ⟨A, u, hA, hc0, hc1, hsl⟩ := (HE.out.below hH.old).at k hlt
      have hts := HK.out.typ _ (getA_mem hlt)
      obtain ⟨a, ha⟩ : ∃ a, a = e.ats.getD k default := ⟨_, rfl⟩
      rw [← ha] at hc0 hts
      have HA := Lib.hid ha
      clear ha hH hsl hc1
      go_wp2_with fail
      refine (xtype_any a.typ _ (by omega)).mono ?_
      rintro e2 w2 ⟨rfl, hb2⟩
      have HW2 := Lib.hid (HW.out.keeps hb2)
      clear hb2 hA hc0 HW k1
      cases ho : typeB (foldB a.typ) with
      | none =>
        have Hr : Hid (undefB e = true) := Lib.hid (by
          have : e.ats.any noType = true := any_yes (d := default) hlt (by rw [← HA.out]; unfold noType; rw [ho]; rfl)
          unfold undefB; rw [this]; rfl)
        clear ho
        simp only [typeV]
        go_wp2
        go_ret
        rw [Hr.out]
        exact ⟨rfl, HW2.out.old⟩
      | some p =>
        have Hn : Hid (∀ j, j < k + 1 → noType (e.ats.getD j default) = false) := Lib.hid fun j hj => by
          by_cases e2 : j = k
          · subst e2; rw [← HA.out]; unfold noType; rw [ho]; rfl
          · exact Hall.out j (by omega)
        clear ho
        simp only [typeV]
        go_wp2
        go_roundw
        case rel => exact ⟨k + 1, by omega, by go_num, Hn.out, HW2.out⟩
        case measure => simp [intOf]; omega
    · obtain rfl : k = e.ats.length := by omega
      have Hno : Hid (e.ats.any noType = false) := Lib.hid (any_no (d := default) Hall.out)
      have k0 := blk_cell hH.blk 0
      clear hH
      go_wp2_with fail
      refine (xvals_any _ dv av e s_objectclass (HE.out.below HW.out.old) HK.out (by decide)).mono ?_
      rw [fold_oc]
      rintro e2 w2 ⟨v, rfl, hsl, hb2⟩
      have HW2 := Lib.hid (HW.out.keeps hb2)
      have hvl := valsT_len HK.out s_objectclass e.ats.length
      rw [valsT_all] at hvl
      have HVs := Lib.hid (valsB_size HK.out s_objectclass)
      have HU : Hid (undefB e = (valsB e s_objectclass).any noClass) := Lib.hid (by unfold undefB; rw [Hno.out, Bool.false_or]; rfl)
      obtain ⟨l, hl⟩ : ∃ l, l = valsB e s_objectclass := ⟨_, rfl⟩
      rw [← hl] at hvl HVs HU hsl
      have hlen2 := hsl.run_len Tryd.underlying28
      have HP2 : Hid (SxRel w b dv av v l noClass (.int .i64 0) w2) := Lib.hid ⟨0, Nat.zero_le _, rfl, (fun j hj => by omega), HW2.out, hsl⟩
      clear hsl hb2 k0 k1 hl HW2 HW Hno Hall
      go_wp2
      go_loopw [9] (fun i wr => SxRel w b dv av v l noClass i wr) (fun i _ => l.length - (intOf i).toNat)
      case atStart => exact HP2.out
      case round =>
        clear HP2
        obtain ⟨k, hk, rfl, hall, hH, hsl⟩ := hrel
        have Hall := Lib.hid hall
        have HW := Lib.hid hH
        have HS := Lib.hid hsl
        clear hall hH
        by_cases hlt : k < l.length
        · obtain ⟨A, u, hA, _, hc, Hu⟩ := hsl.at1 (P := Tryd.prog) Tryd.underlying28 Tryd.size9 k hlt
          rw [Hu.out, strs_get l k hlt] at hc
          obtain ⟨x, hx⟩ : ∃ x, x = l.getD k ByteArray.empty := ⟨_, rfl⟩
          have hxs := HVs.out x (by rw [hx]; simp [List.getD, hlt])
          rw [← hx] at hc
          have HX := Lib.hid hx
          clear hsl Hu hx
          have HC := Lib.hid (xclass_any x wr (by omega))
          obtain ⟨o, ho⟩ : ∃ o, o = classB (foldB x) := ⟨_, rfl⟩
          rw [← ho] at HC
          have HO := Lib.hid ho
          clear ho
          go_wp2_with fail
          refine HC.out.mono ?_
          rintro e3 w3 ⟨v1, v2, rfl, _, _, hb3, _⟩
          have HW3 := Lib.hid (HW.out.keeps hb3)
          have HS3 := Lib.hid (HS.out.below' hb3)
          clear hb3 HC hc hA HW HS
          cases o with
          | none =>
            have Hr : Hid (undefB e = true) := Lib.hid (by
              rw [HU.out]
              exact any_yes (d := ByteArray.empty) hlt (by rw [← HX.out]; unfold noClass; rw [← HO.out]; rfl))
            clear HO
            go_wp2
            go_ret
            rw [Hr.out]
            exact ⟨rfl, HW3.out.old⟩
          | some p =>
            have Hn : Hid (∀ j, j < k + 1 → noClass (l.getD j ByteArray.empty) = false) := Lib.hid fun j hj => by
              by_cases e2 : j = k
              · subst e2; rw [← HX.out]; unfold noClass; rw [← HO.out]; rfl
              · exact Hall.out j (by omega)
            clear HO
            go_wp2
            go_roundw
            case rel => exact ⟨k + 1, by omega, by go_num, Hn.out, HW3.out, HS3.out⟩
            case measure => simp [intOf]; omega
        · obtain rfl : k = l.length := by omega
          have Hr : Hid (undefB e = false) := Lib.hid (by rw [HU.out]; exact any_no (d := ByteArray.empty) Hall.out)
          clear hsl
          go_wp2
          go_ret
          rw [Hr.out]
          exact ⟨rfl, HW.out.old⟩
end Go.Proofs.YtindlfiifckdnaaDoor.Sc
