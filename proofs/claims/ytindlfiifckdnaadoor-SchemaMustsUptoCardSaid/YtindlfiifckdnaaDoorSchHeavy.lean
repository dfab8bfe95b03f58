/-
  heavy of chapter 14's laws: it answers.
-/
import Derived.Test.YtindlfiifckdnaaDoorSchEnt
import Derived.Test.YtindlfiifckdnaaDoorSchNamed
import Derived.Deep.QuietTactic
import Derived.BigQuiet
import Derived.IntWalk
namespace Go.Proofs.YtindlfiifckdnaaDoor.Sc
open Go.RowKit L
def RetSome (w : World) (e : Ending) (w' : World) : Prop := ∃ b, e = .returned (.bool b) ∧ Below w.heap.size w w'
def HvRel (w : World) (b : Nat) (dv av : Value) (e : Ent) (n i : Value) (wr : World) : Prop := ∃ k m : Nat, k ≤ e.dn.length ∧ i = .int .i64 k ∧ n = .int .i64 m ∧ m ≤ k * 2097153 ∧ Hold w ((Blk b #[dv, av] 25).sep Asrt.emp) wr
def HaRel (e : Ent) (n i : Value) : Prop := ∃ k m : Nat, k ≤ e.ats.length ∧ i = .int .i64 k ∧ n = .int .i64 m ∧ m ≤ 2199024304128
def HbRel (m0 l : Nat) (n i : Value) : Prop := ∃ k m : Nat, k ≤ l ∧ i = .int .i64 k ∧ n = .int .i64 m ∧ m ≤ m0 + k * 1048577
set_option maxRecDepth 100000 in
set_option maxHeartbeats 1600000 in
theorem heavy_any (w : World) (dv av : Value) (e : Ent) (h : EntAt w dv av e) (hk : EntOk e 1048576) : Calls Tryd.prog 5 #[.agg #[dv, av]] w (RetSome w) := by
  have HE := Lib.hid h
  have HK := Lib.hid hk
  have hatl := hk.atl
  have hdnl := hk.dnl
  have hlenA := h.len
  have hlenD := h.dlen
  have HP : Hid (HvRel w w.heap.size dv av e (.int .i64 0) (.int .i64 0) (w.alloc (.cells #[dv, av] 25))) := Lib.hid ⟨0, 0, Nat.zero_le _, rfl, rfl, by omega, (Hold.start w).addBlk (cs := #[dv, av]) (t := 25) (b := w.heap.size) rfl⟩
  clear h hk
  go_enter Tryd.func5, Tryd.ntmps5
  go_wp2
  obtain ⟨b, hb⟩ : ∃ b, b = w.heap.size := ⟨_, rfl⟩
  rw [← hb] at HP ⊢
  clear hb
  go_loopw [3, 4] (fun n i wr => HvRel w b dv av e n i wr) (fun _ i _ => e.dn.length - (intOf i).toNat)
  case atStart => exact HP.out
  case round =>
    clear HP
    obtain ⟨k, m, hk, rfl, rfl, hm, hH⟩ := hrel
    have HW := Lib.hid hH
    have k0 := blk_cell hH.blk 0
    have k1 := blk_cell hH.blk 1
    by_cases hlt : k < e.dn.length
    · obtain ⟨A, hA, hc0, hc1⟩ := (HE.out.below hH.old).dat k hlt
      have hsz := HK.out.dns (e.dn.getD k default) (by simp [List.getD, hlt])
      obtain ⟨a, ha⟩ : ∃ a, a = e.dn.getD k default := ⟨_, rfl⟩
      rw [← ha] at hc0 hc1 hsz
      obtain ⟨s1, s2⟩ := hsz
      have a1 : IntKind.i64.wrap ((m : Int) + 1) = (m : Int) + 1 := IntWalk.i64_in _ (by omega)
      have a2 : IntKind.i64.wrap ((m : Int) + 1 + (a.1.size : Int)) = (m : Int) + 1 + (a.1.size : Int) := IntWalk.i64_in _ (by omega)
      have a3 : IntKind.i64.wrap ((m : Int) + 1 + (a.1.size : Int) + (a.2.size : Int)) = (m : Int) + 1 + (a.1.size : Int) + (a.2.size : Int) := IntWalk.i64_in _ (by omega)
      clear ha hH
      go_wp2_with fail
      go_quiet (fail)
      clear a1 a2 a3
      go_wp2
      go_roundw
      case rel => exact ⟨k + 1, m + 1 + a.1.size + a.2.size, by omega, by go_num, by go_num, by omega, HW.out.keeps (bdn (Below.refl _ _) _)⟩
      case measure => simp [intOf]; omega
    · obtain rfl : k = e.dn.length := by omega
      have HEr := Lib.hid (HE.out.below hH.old)
      have HB := Lib.hid hH.old
      clear hH HW
      go_wp2
      go_loop [3, 5] (fun n i => HaRel e n i) (fun _ i => e.ats.length - (intOf i).toNat)
      case atStart => exact ⟨0, m, Nat.zero_le _, rfl, rfl, by omega⟩
      case round =>
        obtain ⟨k, m, hk, rfl, rfl, hm⟩ := hrel
        by_cases hlt : k < e.ats.length
        · obtain ⟨A, u, hA, hc0, hc1, hsl⟩ := HEr.out.at k hlt
          have hts := HK.out.typ _ (getA_mem hlt)
          have hvl := vals_le HK.out hlt
          have Hvs := Lib.hid (HK.out.val _ (getA_mem hlt))
          obtain ⟨a, ha⟩ : ∃ a, a = e.ats.getD k default := ⟨_, rfl⟩
          rw [← ha] at hc0 hsl hts hvl Hvs
          have hlen2 := hsl.run_len (P := Tryd.prog) Tryd.underlying28
          have HSl := Lib.hid hsl
          clear ha hsl
          go_wp2
          go_loop [3, 6] (fun n i => HbRel (m + 1 + a.typ.size) a.vals.length n i) (fun _ i => a.vals.length - (intOf i).toNat)
          case atStart => exact ⟨0, m + 1 + a.typ.size, Nat.zero_le _, rfl, by go_num, by omega⟩
          case round =>
            obtain ⟨j, q, hj, rfl, rfl, hq⟩ := hrel
            by_cases hjl : j < a.vals.length
            · obtain ⟨A', u', hA', _, hc, Hu⟩ := HSl.out.at1 (P := Tryd.prog) Tryd.underlying28 Tryd.size9 j hjl
              rw [Hu.out, strs_get a.vals j hjl] at hc
              have hxs := Hvs.out (a.vals.getD j ByteArray.empty) (by simp [List.getD, hjl])
              obtain ⟨x, hx⟩ : ∃ x, x = a.vals.getD j ByteArray.empty := ⟨_, rfl⟩
              rw [← hx] at hc hxs
              clear hx Hu
              go_wp2
              go_round
              case rel => exact ⟨j + 1, q + 1 + x.size, by omega, by go_num, by go_num, by omega⟩
              case measure => simp [intOf]; omega
            · obtain rfl : j = a.vals.length := by omega
              by_cases h3 : 3000 < q
              · go_wp2
                go_ret
                exact ⟨true, rfl, HB.out⟩
              · go_wp2
                go_round
                case rel => exact ⟨k + 1, q, by omega, by go_num, rfl, by omega⟩
                case measure => simp [intOf]; omega
        · obtain rfl : k = e.ats.length := by omega
          go_wp2
          go_ret
          exact ⟨_, rfl, HB.out⟩
end Go.Proofs.YtindlfiifckdnaaDoor.Sc
