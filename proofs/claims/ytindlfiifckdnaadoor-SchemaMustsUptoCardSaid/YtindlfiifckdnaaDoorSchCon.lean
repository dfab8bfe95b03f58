/-
  constrained of chapter 14.
-/
import Derived.Test.YtindlfiifckdnaaDoorSchUndef
namespace Go.Proofs.YtindlfiifckdnaaDoor.Sc
open Go.RowKit L
def canonB (a : At) : ByteArray := match typeB (foldB a.typ) with | none => ⟨#[]⟩ | some _ => foldB a.typ
def singleB (a : At) : Bool := match typeB (foldB a.typ) with | none => false | some p => p.2
def badC (seen : List ByteArray) (a : At) : Bool := hasB seen (canonB a) || decide (a.vals.length < 1) || decide (16 < a.vals.length) || (singleB a && decide (1 < a.vals.length))
def conL : List ByteArray → List At → Bool
  | _, [] => false
  | seen, a :: r => badC seen a || conL (seen ++ [canonB a]) r
def conB (e : Ent) : Bool := conL [] e.ats || decide (16 < e.ats.length)
def seenM (l : List ByteArray) : List (ByteArray × Value) := l.map fun c => (c, .bool true)
theorem seen_get (l : List ByteArray) (s : ByteArray) : (mget (seenM l) s).getD (.bool false) = .bool (hasB l s) := by
  unfold mget seenM hasB
  rw [List.find?_map]
  show ((Option.map _ (l.find? fun c => decide (c = s))).map _).getD _ = _
  cases hf : l.find? fun c => decide (c = s) with
  | none =>
    rw [List.find?_eq_none] at hf
    have : (l.any fun x => decide (x = s)) = false := by
      rw [List.any_eq_false]
      intro x hx
      exact hf x hx
    rw [this]; rfl
  | some x =>
    have h1 := List.find?_some hf
    have h2 := List.mem_of_find?_eq_some hf
    have : (l.any fun x => decide (x = s)) = true := List.any_eq_true.2 ⟨x, h2, h1⟩
    rw [this]; rfl
theorem seen_put {l : List ByteArray} {s : ByteArray} (h : hasB l s = false) : mput (seenM l) s (.bool true) = seenM (l ++ [s]) := by
  have h1 : mhas (seenM l) s = false := by
    unfold mhas seenM
    rw [List.any_map]
    exact h
  unfold mput
  rw [h1, if_neg (by decide)]
  simp [seenM]
def CoRel (w : World) (b mb : Nat) (dv av : Value) (e : Ent) (i : Value) (wr : World) : Prop := ∃ (k : Nat) (seen : List ByteArray), k ≤ e.ats.length ∧ i = .int .i64 k ∧ Hid (conL [] e.ats = conL seen (e.ats.drop k)) ∧
  Hold w ((MapA mb (seenM seen)).sep ((Blk b #[dv, av] 25).sep Asrt.emp)) wr
set_option maxRecDepth 100000 in
set_option maxHeartbeats 1600000 in
theorem con_any (w : World) (dv av : Value) (e : Ent) (h : EntAt w dv av e) (hk : EntOk e 1048576) : Calls Tryd.prog 26 #[.agg #[dv, av]] w (RetBl w (conB e)) := by
  have HE := Lib.hid h
  have HK := Lib.hid hk
  have hatl := hk.atl
  have hlen := h.len
  have hmk := fun w' : World => run_makeMap (P := Tryd.prog) 57 w'
  have HP : Hid (CoRel w w.heap.size (w.heap.size + 1) dv av e (.int .i64 0) ((w.alloc (.cells #[dv, av] 25)).alloc (.map #[] 0))) := Lib.hid ⟨0, [], Nat.zero_le _, rfl, Lib.hid (by simp), by
    have h1 := ((Hold.start w).addBlk (cs := #[dv, av]) (t := 25) (b := w.heap.size) rfl).addMap
    rw [show (w.alloc (.cells #[dv, av] 25)).heap.size = w.heap.size + 1 from by simp] at h1
    exact h1⟩
  clear h hk
  go_enter Tryd.func26, Tryd.ntmps26
  go_wp2
  obtain ⟨mb, hmb⟩ : ∃ mb, mb = w.heap.size + 1 := ⟨_, rfl⟩
  rw [← hmb] at HP ⊢
  obtain ⟨b, hb⟩ : ∃ b, b = w.heap.size := ⟨_, rfl⟩
  rw [← hb] at HP ⊢
  clear hb hmb
  go_loopw [14] (fun i wr => CoRel w b mb dv av e i wr) (fun i _ => e.ats.length - (intOf i).toNat)
  case atStart => exact HP.out
  case round =>
    clear HP hmk
    obtain ⟨k, seen, hk, rfl, heq, hH⟩ := hrel
    have HW := Lib.hid hH
    by_cases hlt : k < e.ats.length
    · obtain ⟨A, u, hA, hc0, hc1, hsl⟩ := (HE.out.below hH.old).at k hlt
      have hts := HK.out.typ _ (getA_mem hlt)
      obtain ⟨a, ha⟩ : ∃ a, a = e.ats.getD k default := ⟨_, rfl⟩
      have hst : Hid (conL [] e.ats = (badC seen a || conL (seen ++ [canonB a]) (e.ats.drop (k + 1)))) := Lib.hid (by
        rw [heq.out, List.drop_eq_getElem_cons hlt, show e.ats[k] = a from by rw [ha]; simp [List.getD, hlt]]; rfl)
      rw [← ha] at hc0 hts hsl
      obtain ⟨ao, cap, hu⟩ : ∃ ao cap, u = .slice ao a.vals.length cap := by
        obtain ⟨_, ao, cap, e, _⟩ := hsl
        exact ⟨ao, cap, e⟩
      subst hu
      clear ha hH hsl heq
      go_wp2_with fail
      refine (type_any a.typ _ (by omega)).mono ?_
      rintro e2 w2 ⟨rfl, hb2⟩
      obtain ⟨bc, bf⟩ := bcellS hb2
      have hz : wr.heap.size < w2.heap.size := by have := hb2.size; simp at this; omega
      have HW2 := Lib.hid (HW.out.keeps (((Below.refl _ _).alloc (Nat.le_refl _) _).trans (hb2.mono (by simp))))
      obtain ⟨c, hc⟩ : ∃ c, c = canonB a := ⟨_, rfl⟩
      obtain ⟨sg, hsg⟩ : ∃ sg, sg = singleB a := ⟨_, rfl⟩
      obtain ⟨m, ok, htv⟩ : ∃ (m : Int) (ok : Bool), typeV (foldB a.typ) (typeB (foldB a.typ)) = .tuple #[.string c, .int .i64 m, .bool sg, .bool ok] := by
        rw [hc, hsg]
        unfold canonB singleB typeV
        cases typeB (foldB a.typ) with
        | none => exact ⟨_, _, rfl⟩
        | some p => exact ⟨_, _, rfl⟩
      rw [htv]
      have hz0 : (zeroValue 4).run Tryd.prog w2 = .ok (.bool false) w2 := by kernel_rfl
      have hlk := run_look (P := Tryd.prog) HW2.out.map Tryd.underlying57 Tryd.underlying9 hz0 c
      rw [seen_get] at hlk
      obtain ⟨X, hX⟩ : ∃ X, X = hasB seen c := ⟨_, rfl⟩
      rw [← hX] at hlk
      obtain ⟨n, hn⟩ : ∃ n, n = a.vals.length := ⟨_, rfl⟩
      have hbad : Hid (badC seen a = (X || decide (n < 1) || decide (16 < n) || (sg && decide (1 < n)))) := Lib.hid (by unfold badC; rw [← hc, ← hsg, ← hX, ← hn])
      have HX := Lib.hid hX
      have HC := Lib.hid hc
      have HN := Lib.hid hn
      rw [← hn] at hc1 bc ⊢
      clear hb2 hA hc0 hc1 HW htv hz0 hX hn hc hsg
      have hyes : badC seen a = true → conB e = true := fun h => by
        unfold conB
        rw [hst.out, h]; rfl
      have HYes := Lib.hid hyes
      clear hyes
      clear HE HK
      have HB := Lib.hid hbad.out
      clear hbad
      cases X with
      | true =>
        have Hr : Hid (conB e = true) := Lib.hid (HYes.out (by rw [HB.out]; simp))
        clear HYes HB hst HX HC HN
        go_wp2
        go_ret
        rw [Hr.out]
        exact ⟨rfl, HW2.out.old⟩
      | false =>
        by_cases h1 : n < 1
        · have Hr : Hid (conB e = true) := Lib.hid (HYes.out (by rw [HB.out]; simp [h1]))
          clear HYes HB hst HX HC HN
          go_wp2
          go_ret
          rw [Hr.out]
          exact ⟨rfl, HW2.out.old⟩
        · by_cases h2 : 16 < n
          · have Hr : Hid (conB e = true) := Lib.hid (HYes.out (by rw [HB.out]; simp [h2]))
            clear HYes HB hst HX HC HN
            go_wp2
            go_ret
            rw [Hr.out]
            exact ⟨rfl, HW2.out.old⟩
          · cases sg with
            | true =>
              by_cases h3 : 1 < n
              · have Hr : Hid (conB e = true) := Lib.hid (HYes.out (by rw [HB.out]; simp [h3]))
                clear HYes HB hst HX HC HN
                go_wp2
                go_ret
                rw [Hr.out]
                exact ⟨rfl, HW2.out.old⟩
              · have HR : Hid (conL [] e.ats = conL (seen ++ [c]) (e.ats.drop (k + 1))) := Lib.hid (by
                  rw [hst.out, HB.out, ← HC.out]; simp [h1, h2, h3])
                have HSP := seen_put HX.out.symm
                clear HYes HB hst HX HC HN
                go_wp2_with (at_mapUpdate; refine wpList_mput HW2.out rfl _ _ _ 57 rfl Tryd.underlying57 Tryd.underlying9 rfl c (.bool true) rfl rfl ?_; intro w9 H9; rw [HSP] at H9; have H8 := Lib.hid H9; clear H9)
                go_roundw
                case rel => exact ⟨k + 1, seen ++ [c], by omega, by go_num, HR, H8.out⟩
                case measure => simp [intOf]; omega
            | false =>
                have HR : Hid (conL [] e.ats = conL (seen ++ [c]) (e.ats.drop (k + 1))) := Lib.hid (by
                  rw [hst.out, HB.out, ← HC.out]; simp [h1, h2])
                have HSP := seen_put HX.out.symm
                clear HYes HB hst HX HC HN
                go_wp2_with (at_mapUpdate; refine wpList_mput HW2.out rfl _ _ _ 57 rfl Tryd.underlying57 Tryd.underlying9 rfl c (.bool true) rfl rfl ?_; intro w9 H9; rw [HSP] at H9; have H8 := Lib.hid H9; clear H9)
                go_roundw
                case rel => exact ⟨k + 1, seen ++ [c], by omega, by go_num, HR, H8.out⟩
                case measure => simp [intOf]; omega
    · obtain rfl : k = e.ats.length := by omega
      have kb := blk_cell hH.up2.blk 1
      have Hr : Hid (conB e = decide (16 < e.ats.length)) := Lib.hid (by
        unfold conB; rw [heq.out]; simp [conL])
      have hl := HE.out.len
      clear hH heq HE HK
      have Hd : Hid (decide ((16 : Int) < (e.ats.length : Int)) = decide (16 < e.ats.length)) := Lib.hid (decide_eq_decide.2 (by omega))
      go_wp2
      go_ret
      rw [Hr.out, ← Hd.out]
      exact ⟨rfl, HW.out.old⟩
end Go.Proofs.YtindlfiifckdnaaDoor.Sc
