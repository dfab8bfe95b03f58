/-
  undefined of chapter 14.
-/
import Derived.Test.YtindlfiifckdnaaDoorSchClos
namespace Go.Proofs.YtindlfiifckdnaaDoor.Sc
open Go.RowKit L
theorem enters {K : Nat} {fn : Func} (h : (Tryd.prog).funcs[K]? = some fn) (hb : fn.body.isNone = false) (hn : (fn.name == "runtime.NumGoroutine") = false) (args : Array Value) (w : World) : (callFunc K args).run Tryd.prog w = .ok (Next.enter K args) w := by
  have h1 : fn.name ≠ "runtime.NumGoroutine" := by simpa using hn
  have h2 : fn.body ≠ none := fun e => by rw [e] at hb; cases hb
  simp [callFunc, h, h1, h2]
theorem enters_undef1 : ∀ (args : Array Value) (w : World), (callFunc 35 args).run Tryd.prog w = .ok (Next.enter 35 args) w := enters Tryd.func35 (by kernel_rfl) (by kernel_rfl)
def noType (a : At) : Bool := (typeB (foldB a.typ)).isNone
def undefB (e : Ent) : Bool := e.ats.any noType || (valsB e s_objectclass).any fun v => (classB (foldB v)).isNone
def BxRel (w : World) (b : Nat) (dv av : Value) (e : Ent) (p : At → Bool) (i : Value) (wr : World) : Prop := ∃ k : Nat, k ≤ e.ats.length ∧ i = .int .i64 k ∧ (∀ j, j < k → p (e.ats.getD j default) = false) ∧ Hold w ((Blk b #[dv, av] 25).sep Asrt.emp) wr
theorem valsB_size {e : Ent} {n : Nat} (h : EntOk e n) (t : ByteArray) : ∀ v ∈ valsB e t, v.size ≤ n := by
  intro v hv
  unfold valsB at hv
  obtain ⟨a, ha, hm⟩ := List.mem_flatMap.1 hv
  split at hm
  · exact h.val a ha v hm
  · cases hm
set_option maxRecDepth 100000 in
set_option maxHeartbeats 1600000 in
theorem undef_any (w : World) (dv av : Value) (e : Ent) (h : EntAt w dv av e) (hk : EntOk e 1048576) (hT : Tab w) : Calls Tryd.prog 22 #[.agg #[dv, av]] w (RetBl w (undefB e)) := by
  have HE := Lib.hid h
  have HK := Lib.hid hk
  have HT := Lib.hid hT
  have hatl := hk.atl
  have hlen := h.len
  have HP : Hid (BxRel w w.heap.size dv av e noType (.int .i64 0) (w.alloc (.cells #[dv, av] 25))) := Lib.hid ⟨0, Nat.zero_le _, rfl, (fun j hj => by omega), (Hold.start w).addBlk (cs := #[dv, av]) (t := 25) (b := w.heap.size) rfl⟩
  clear h hk hT
  go_enter Tryd.func22, Tryd.ntmps22
  go_wp2
  obtain ⟨b, hb⟩ : ∃ b, b = w.heap.size := ⟨_, rfl⟩
  rw [← hb] at HP ⊢
  clear hb
  go_loopw [12] (fun i wr => BxRel w b dv av e noType i wr) (fun i _ => e.ats.length - (intOf i).toNat)
  case atStart => exact HP.out
  case round =>
    clear HP
    obtain ⟨k, hk, rfl, hall, hH⟩ := hrel
    have Hall := Lib.hid hall
    have HW := Lib.hid hH
    clear hall
    by_cases hlt : k < e.ats.length
    · obtain ⟨A, u, hA, hc0, hc1, hsl⟩ := (HE.out.below hH.old).at k hlt
      have hts := HK.out.typ _ (getA_mem hlt)
      obtain ⟨a, ha⟩ : ∃ a, a = e.ats.getD k default := ⟨_, rfl⟩
      rw [← ha] at hc0 hts hsl
      obtain ⟨ao, cap, hu⟩ : ∃ ao cap, u = .slice ao a.vals.length cap := by
        obtain ⟨_, ao, cap, e, _⟩ := hsl
        exact ⟨ao, cap, e⟩
      subst hu
      have HA := Lib.hid ha
      clear ha hH hsl
      go_wp2_with fail
      refine (type_any a.typ _ (by omega)).mono ?_
      rintro e2 w2 ⟨rfl, hb2⟩
      have HW2 := Lib.hid (HW.out.keeps (((Below.refl _ _).alloc (Nat.le_refl _) _).trans (hb2.mono (by simp))))
      clear hb2 hA hc0 hc1 HW
      cases ho : typeB (foldB a.typ) with
      | none =>
        have Hr : Hid (undefB e = true) := Lib.hid (by
          have : e.ats.any noType = true := any_yes (d := default) hlt (by rw [← HA.out]; unfold noType; rw [ho]; rfl)
          unfold undefB; rw [this]; rfl)
        clear ho
        simp only [typeV]
        go_wp2
        go_ret
        rw [Hr.out]
        exact ⟨rfl, HW2.out.old⟩
      | some p =>
        have Hn : Hid (∀ j, j < k + 1 → noType (e.ats.getD j default) = false) := Lib.hid fun j hj => by
          by_cases e2 : j = k
          · subst e2; rw [← HA.out]; unfold noType; rw [ho]; rfl
          · exact Hall.out j (by omega)
        clear ho
        simp only [typeV]
        go_wp2
        go_roundw
        case rel => exact ⟨k + 1, by omega, by go_num, Hn.out, HW2.out⟩
        case measure => simp [intOf]; omega
    · obtain rfl : k = e.ats.length := by omega
      have Hno : Hid (e.ats.any noType = false) := Lib.hid (any_no (d := default) Hall.out)
      have k0 := blk_cell hH.blk 0
      have k1 := blk_cell hH.blk 1
      clear hH
      go_wp2_with fail
      refine (values_any _ dv av e s_objectclass (HE.out.below HW.out.old) HK.out).mono ?_
      rintro e2 w2 ⟨v, rfl, hsl, hb2⟩
      have HB2 : Hid (Below w.heap.size w w2) := Lib.hid (HW.out.old.trans (hb2.mono HW.out.old.size))
      have hvl := valsT_len HK.out s_objectclass e.ats.length
      rw [valsT_all] at hvl
      have hcf := containsS_any 35 enters_undef1 #[] (fun v => (classB (foldB v)).isNone) v (valsB e s_objectclass) w2 hsl (by omega) (fun s hs w' hw' => undef1_any s w' (by have := valsB_size HK.out _ s hs; omega) (HT.out.below (HB2.out.trans (hw'.mono HB2.out.size))))
      have HCf := Lib.hid hcf
      clear hsl hb2 hvl hcf k0 k1
      go_wp2_with fail
      refine HCf.out.mono ?_
      rintro e3 w3 ⟨rfl, hb3⟩
      have HB3 : Hid (Below w.heap.size w w3) := Lib.hid (HB2.out.trans (hb3.mono HB2.out.size))
      have Hr : Hid (undefB e = (valsB e s_objectclass).any fun v => (classB (foldB v)).isNone) := Lib.hid (by unfold undefB; rw [Hno.out, Bool.false_or])
      obtain ⟨x, hx⟩ : ∃ x, x = (valsB e s_objectclass).any fun v => (classB (foldB v)).isNone := ⟨_, rfl⟩
      rw [← hx] at Hr ⊢
      clear hb3 hx
      go_wp2
      go_ret
      rw [Hr.out]
      exact ⟨rfl, HB3.out⟩
end Go.Proofs.YtindlfiifckdnaaDoor.Sc
