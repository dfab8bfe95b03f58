/-
  counts of chapter 14's reference.
-/
import Derived.Test.YtindlfiifckdnaaDoorSchXKnown
import Derived.Test.YtindlfiifckdnaaDoorSchCon
namespace Go.Proofs.YtindlfiifckdnaaDoor.Sc
open Go.RowKit L
def lensB (a : At) : Bool := decide (1 ≤ a.vals.length) && decide (a.vals.length ≤ 16) && !(singleB a && decide (1 < a.vals.length))
def cntL : List ByteArray → List At → Bool
  | _, [] => true
  | seen, a :: r => !hasB seen (foldB a.typ) && lensB a && cntL (seen ++ [foldB a.typ]) r
def cntB (e : Ent) : Bool := cntL [] e.ats && decide (e.ats.length ≤ 16)
def seenT (e : Ent) (k : Nat) : List ByteArray := (e.ats.take k).map fun a => foldB a.typ
theorem seenT_succ {e : Ent} {k : Nat} (h : k < e.ats.length) : seenT e (k + 1) = seenT e k ++ [foldB (e.ats.getD k default).typ] := by
  unfold seenT
  rw [List.take_succ_eq_append_getElem h, List.map_append]
  simp [List.getD, h]
theorem seenT_no {e : Ent} {k : Nat} {s : ByteArray} (hk : k ≤ e.ats.length) (h : ∀ j, j < k → foldB (e.ats.getD j default).typ ≠ s) : hasB (seenT e k) s = false := by
  cases hh : hasB (seenT e k) s with
  | false => rfl
  | true =>
    have hm := hasB_iff.1 hh
    unfold seenT at hm
    obtain ⟨a, ha, hs⟩ := List.mem_map.1 hm
    obtain ⟨j, hj, hje⟩ := List.getElem_of_mem ha
    rw [List.length_take] at hj
    rw [List.getElem_take] at hje
    exact absurd (by rw [← hs, ← hje]; simp [List.getD, show j < e.ats.length by omega]) (h j (by omega))
theorem seenT_yes {e : Ent} {k j : Nat} {s : ByteArray} (hk : k ≤ e.ats.length) (hj : j < k) (h : foldB (e.ats.getD j default).typ = s) : hasB (seenT e k) s = true := by
  refine hasB_iff.2 (List.mem_map.2 ⟨e.ats.getD j default, ?_, h⟩)
  rw [List.mem_take_iff_getElem]
  exact ⟨j, by omega, by simp [List.getD, show j < e.ats.length by omega]⟩
def CnRel (w : World) (b : Nat) (dv av : Value) (e : Ent) (i : Value) (wr : World) : Prop := ∃ k : Nat, k ≤ e.ats.length ∧ i = .int .i64 k ∧ Hid (cntL [] e.ats = cntL (seenT e k) (e.ats.drop k)) ∧ Hold w ((Blk b #[dv, av] 25).sep Asrt.emp) wr
def CmRel (w : World) (b b4 : Nat) (dv av u : Value) (e : Ent) (a : At) (k : Nat) (i : Value) (wr : World) : Prop := ∃ j : Nat, j ≤ k ∧ i = .int .i64 j ∧ Hid (∀ q, q < j → foldB (e.ats.getD q default).typ ≠ foldB a.typ) ∧ Hold w ((Blk b4 #[.string a.typ, u] 36).sep ((Blk b #[dv, av] 25).sep Asrt.emp)) wr
set_option maxRecDepth 100000 in
set_option maxHeartbeats 1600000 in
theorem xcounts_any (w : World) (dv av : Value) (e : Ent) (h : EntAt w dv av e) (hk : EntOk e 1048576) : Calls Tryd.prog 17 #[.agg #[dv, av]] w (RetBl w (cntB e)) := by
  have HE := Lib.hid h
  have HK := Lib.hid hk
  have hatl := hk.atl
  have hlen := h.len
  have HF : Hid (∀ t W, t.size ≤ 140737488351232 → Calls Tryd.prog 20 #[.string t] W (RetS W (foldB t))) := Lib.hid xfold_any
  have HP : Hid (CnRel w w.heap.size dv av e (.int .i64 0) (w.alloc (.cells #[dv, av] 25))) := Lib.hid ⟨0, Nat.zero_le _, rfl, Lib.hid (by simp [seenT]), (Hold.start w).addBlk (cs := #[dv, av]) (t := 25) (b := w.heap.size) rfl⟩
  clear h hk
  go_enter Tryd.func17, Tryd.ntmps17
  go_wp2
  obtain ⟨b, hb⟩ : ∃ b, b = w.heap.size := ⟨_, rfl⟩
  rw [← hb] at HP ⊢
  clear hb
  go_loopw [3] (fun i wr => CnRel w b dv av e i wr) (fun i _ => e.ats.length - (intOf i).toNat)
  case atStart => exact HP.out
  case round =>
    clear HP
    obtain ⟨k, hk, rfl, heq, hH⟩ := hrel
    have HW := Lib.hid hH
    have k1 := blk_cell hH.blk 1
    by_cases hlt : k < e.ats.length
    · obtain ⟨A, u, hA, hc0, hc1, hsl⟩ := (HE.out.below hH.old).at k hlt
      have hts := HK.out.typ _ (getA_mem hlt)
      obtain ⟨a, ha⟩ : ∃ a, a = e.ats.getD k default := ⟨_, rfl⟩
      have hst : Hid (cntL [] e.ats = (!hasB (seenT e k) (foldB a.typ) && lensB a && cntL (seenT e (k + 1)) (e.ats.drop (k + 1)))) := Lib.hid (by
        rw [heq.out, seenT_succ hlt, ← ha, List.drop_eq_getElem_cons hlt, show e.ats[k] = a from by rw [ha]; simp [List.getD, hlt]]; rfl)
      rw [← ha] at hc0 hts hsl
      obtain ⟨ao, cap, hu⟩ : ∃ ao cap, u = .slice ao a.vals.length cap := by
        obtain ⟨_, ao, cap, e, _⟩ := hsl
        exact ⟨ao, cap, e⟩
      subst hu
      have HP4 : Hid (CmRel w b wr.heap.size dv av (.slice ao a.vals.length cap) e a k (.int .i64 0) (wr.alloc (.cells #[.string a.typ, .slice ao a.vals.length cap] 36))) := Lib.hid ⟨0, Nat.zero_le _, rfl, Lib.hid (fun q hq => by omega), HW.out.addBlk (cs := #[.string a.typ, .slice ao a.vals.length cap]) (t := 36) (b := wr.heap.size) rfl⟩
      clear ha hH hsl heq HW
      go_wp2
      obtain ⟨b4, hb4⟩ : ∃ b4, b4 = wr.heap.size := ⟨_, rfl⟩
      rw [← hb4] at HP4 ⊢
      clear hb4 hA hc0 hc1 k1
      go_loopw [5] (fun i wr => CmRel w b b4 dv av (.slice ao a.vals.length cap) e a k i wr) (fun i _ => k - (intOf i).toNat)
      case atStart => exact HP4.out
      case round =>
        clear HP4
        obtain ⟨j, hj, rfl, hall, hH⟩ := hrel
        have HW := Lib.hid hH
        have k1 := blk_cell hH.up2.blk 1
        have k40 := blk_cell hH.blk 0
        have k41 := blk_cell hH.blk 1
        have hbl : b < wr.heap.size := (Array.getElem?_eq_some_iff.1 hH.up2.blk).1
        have hbl4 : b4 < wr.heap.size := (Array.getElem?_eq_some_iff.1 hH.blk).1
        by_cases hjl : j < k
        · obtain ⟨A, u, hA, hc0, hc1, hsl⟩ := (HE.out.below hH.old).at j (by omega)
          have hxs := HK.out.typ _ (getA_mem (show j < e.ats.length by omega))
          have hS : ∀ w', Below wr.heap.size wr w' → w'.cell? ⟨b, 1, none⟩ = some av ∧ w'.cell? A = some (.string (e.ats.getD j default).typ) ∧ w'.cell? ⟨b4, 0, none⟩ = some (.string a.typ) := fun w' hb => ⟨by rw [(bcellS hb).1 _ _ hbl]; exact k1, (hb.cell (World.block_lt_of_cell? _ _ hc0)).trans hc0, by rw [(bcellS hb).1 _ _ hbl4]; exact k40⟩
          obtain ⟨x, hx⟩ : ∃ x, x = (e.ats.getD j default).typ := ⟨_, rfl⟩
          have hq : Hid (foldB (e.ats.getD j default).typ = foldB x) := Lib.hid (by rw [hx])
          rw [← hx] at hc0 hxs hS
          have HS := Lib.hid hS
          have HB0 := Lib.hid (Below.drew (Below.refl wr.heap.size wr))
          obtain ⟨y, hy⟩ : ∃ y, y = a.typ := ⟨_, rfl⟩
          have hyl : a.typ.size ≤ 1048576 := hts
          by_cases he : foldB x = foldB a.typ
          · have e1 := text_yes he
            have Hr : Hid (cntB e = false) := Lib.hid (by
              unfold cntB
              rw [hst.out, seenT_yes (by omega) hjl (by rw [hq.out]; exact he)]; rfl)
            obtain ⟨F, hF⟩ : ∃ F, F = foldB := ⟨_, rfl⟩
            rw [← hF] at HF e1
            clear he hF hx hy hS hsl hH hall hst hq k1 k40 k41 hc0 hc1
            go_wp2_with fail
            go_region_held3 (fun w' => w'.cell? ⟨b, 1, none⟩ = some av ∧ w'.cell? A = some (.string x) ∧ w'.cell? ⟨b4, 0, none⟩ = some (.string a.typ)) (first | exact hS6 | exact hS5 | exact HS.out _ HB0.out | go_keep)
              ((go_at_call 20; refine (HF.out _ _ (by omega)).mono ?_; rintro e w6 ⟨rfl, hb6⟩; (first | (have HB6 := Lib.hid (HB5.out.trans (hb6.mono HB5.out.size)); have hS6 := HS.out _ HB6.out) | (have HB5 := Lib.hid (HB0.out.trans (hb6.mono HB0.out.size)); have hS5 := HS.out _ HB5.out)); clear hb6))
            all_goals
              have HZ := Lib.hid (HW.out.keeps HB6.out)
              clear hS5 hS6
              go_wp2
              go_ret
              rw [Hr.out]
              exact ⟨rfl, HZ.out.old⟩
          · have e1 := text_no he
            have Hn : Hid (∀ q, q < j + 1 → foldB (e.ats.getD q default).typ ≠ foldB a.typ) := Lib.hid fun q hq2 => by
              by_cases e2 : q = j
              · subst e2; rw [hq.out]; exact he
              · exact hall.out q (by omega)
            obtain ⟨F, hF⟩ : ∃ F, F = foldB := ⟨_, rfl⟩
            rw [← hF] at HF e1
            clear he hF hx hy hS hsl hH hall hq k1 k40 k41 hc0 hc1
            go_wp2_with fail
            go_region_held3 (fun w' => w'.cell? ⟨b, 1, none⟩ = some av ∧ w'.cell? A = some (.string x) ∧ w'.cell? ⟨b4, 0, none⟩ = some (.string a.typ)) (first | exact hS6 | exact hS5 | exact HS.out _ HB0.out | go_keep)
              ((go_at_call 20; refine (HF.out _ _ (by omega)).mono ?_; rintro e w6 ⟨rfl, hb6⟩; (first | (have HB6 := Lib.hid (HB5.out.trans (hb6.mono HB5.out.size)); have hS6 := HS.out _ HB6.out) | (have HB5 := Lib.hid (HB0.out.trans (hb6.mono HB0.out.size)); have hS5 := HS.out _ HB5.out)); clear hb6))
            all_goals
              have HZ := Lib.hid (HW.out.keeps HB6.out)
              clear hS5 hS6
              go_wp2
              go_roundw
              case rel => exact ⟨j + 1, by omega, by go_num, Hn, HZ.out⟩
              case measure => simp [intOf]; omega
        · obtain rfl : j = k := by omega
          have hno : Hid (hasB (seenT e j) (foldB a.typ) = false) := Lib.hid (seenT_no hk hall.out)
          clear hH hall
          go_wp2_with fail
          refine (xtype_any a.typ _ (by omega)).mono ?_
          rintro e2 w2 ⟨rfl, hb2⟩
          have HW2 := Lib.hid (HW.out.keeps hb2)
          clear k1 k40 k41
          have k41 := blk_cell HW2.out.blk 1
          obtain ⟨sg, hsg⟩ : ∃ sg, sg = singleB a := ⟨_, rfl⟩
          obtain ⟨c, m, ok, htv⟩ : ∃ (c : ByteArray) (m : Int) (ok : Bool), typeV (foldB a.typ) (typeB (foldB a.typ)) = .tuple #[.string c, .int .i64 m, .bool sg, .bool ok] := by
            rw [hsg]
            unfold singleB typeV
            cases typeB (foldB a.typ) with
            | none => exact ⟨_, _, _, rfl⟩
            | some p => exact ⟨_, _, _, rfl⟩
          rw [htv]
          obtain ⟨n, hn⟩ : ∃ n, n = a.vals.length := ⟨_, rfl⟩
          have hls : Hid (lensB a = (decide (1 ≤ n) && decide (n ≤ 16) && !(sg && decide (1 < n)))) := Lib.hid (by unfold lensB; rw [← hsg, ← hn])
          rw [← hn] at k41
          clear htv hsg hn hb2 HW
          have hbad : lensB a = false → cntB e = false := fun h => by
            unfold cntB
            rw [hst.out, h]; simp
          have HBad := Lib.hid hbad
          clear hbad
          by_cases h0 : n = 0
          · have Hr : Hid (cntB e = false) := Lib.hid (HBad.out (by rw [hls.out]; simp [h0]))
            subst h0
            clear HBad hls hst
            go_wp2
            go_ret
            rw [Hr.out]
            exact ⟨rfl, HW2.out.old⟩
          · have q0 : ((n : Int) == 0) = false := by rw [beq_eq_false_iff_ne]; omega
            by_cases h2 : 16 < n
            · have Hr : Hid (cntB e = false) := Lib.hid (HBad.out (by rw [hls.out]; simp; intros; omega))
              clear HBad hls hst h0
              go_wp2
              go_ret
              rw [Hr.out]
              exact ⟨rfl, HW2.out.old⟩
            · cases sg with
              | true =>
                by_cases h3 : 1 < n
                · have Hr : Hid (cntB e = false) := Lib.hid (HBad.out (by rw [hls.out]; simp [h3]))
                  clear HBad hls hst h0
                  go_wp2
                  go_ret
                  rw [Hr.out]
                  exact ⟨rfl, HW2.out.old⟩
                · have HR : Hid (cntL [] e.ats = cntL (seenT e (j + 1)) (e.ats.drop (j + 1))) := Lib.hid (by
                    rw [hst.out, hno.out, hls.out, show n = 1 by omega]; simp)
                  have HZ := Lib.hid HW2.out.drop1
                  clear HBad hls hst hno h0
                  go_wp2
                  go_roundw
                  case rel => exact ⟨j + 1, by omega, by go_num, HR, HZ.out⟩
                  case measure => simp [intOf]; omega
              | false =>
                have HR : Hid (cntL [] e.ats = cntL (seenT e (j + 1)) (e.ats.drop (j + 1))) := Lib.hid (by
                  rw [hst.out, hno.out, hls.out]; simp [show 1 ≤ n by omega, show n ≤ 16 by omega])
                have HZ := Lib.hid HW2.out.drop1
                clear HBad hls hst hno h0
                go_wp2
                go_roundw
                case rel => exact ⟨j + 1, by omega, by go_num, HR, HZ.out⟩
                case measure => simp [intOf]; omega
    · obtain rfl : k = e.ats.length := by omega
      have Hr : Hid (cntB e = decide (e.ats.length ≤ 16)) := Lib.hid (by
        unfold cntB; rw [heq.out]; simp [cntL])
      clear hH heq
      have Hd : Hid (decide ((e.ats.length : Int) ≤ (16 : Int)) = decide (e.ats.length ≤ 16)) := Lib.hid (decide_eq_decide.2 (by omega))
      go_wp2
      go_ret
      rw [Hr.out, ← Hd.out]
      exact ⟨rfl, HW.out.old⟩
end Go.Proofs.YtindlfiifckdnaaDoor.Sc
