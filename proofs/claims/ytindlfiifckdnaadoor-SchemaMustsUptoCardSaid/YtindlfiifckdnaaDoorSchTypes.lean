/-
  The types of chapter 14: the program's table as a map, Type, Types.
-/
import Derived.Test.YtindlfiifckdnaaDoorSchTab
import Derived.Test.YtindlfiifckdnaaDoorMapR
import Derived.Test.YtindlfiifckdnaaDoorEx
import Derived.Deep.QuietTactic
import Derived.BigQuiet
namespace Go.Proofs.YtindlfiifckdnaaDoor.Sc
open Go.RowKit L Go.MapKept
section
variable {P : Program} {W0 w : World} {R : Asrt} {b : Nat} {m : List (ByteArray × Value)}
variable {ops : Array Oper} {rest : List Oper} {o : Oper} {a : Act} {Q : Exit → Act → World → Prop}
/-- an entry of a map literal -/
theorem wpList_minsert (H : Hold W0 ((MapA b m).sep R) w) (hg : o.guard = none) (mo x v : Operand) (t : TypeId) (hop : o.op = Op.insert t mo x v) {k e : TypeId} (ht : P.underlying t = some (.map k e)) (hk : P.underlying k = some .string)
    (hm : a.eval mo = .map (some b)) (s : ByteArray) (val : Value) (hx : a.eval x = .string s) (hv : a.eval v = val)
    (hK : ∀ w', Hold W0 ((MapA b (mput m s val)).sep R) w' → wpList P ops Q rest (a.put o.dst undef) w') : wpList P ops Q (o :: rest) a w := by
  refine wpList_plain hg fun K' hK' => ?_
  obtain ⟨ob, hrun, h1⟩ := run_put (P := P) H.map ht hk s val
  unfold Oper.wp
  simp [execOp, hop, hm, hx, hv, hrun, Result.andThen]
  exact hK' _ _ (hK _ (H.setMap h1))
/-- v, ok := m[k] -/
theorem run_lookOk (h : MapAt w b m) {t k e : TypeId} (ht : P.underlying t = some (.map k e)) (hk : P.underlying k = some .string) {z : Value} (hz : (zeroValue e).run P w = .ok z w) (s : ByteArray) :
    (Instr.lookup t (.map (some b)) (.string s) true).run P w = .ok (.tuple #[(mget m s).getD z, .bool (mget m s).isSome]) w := by
  obtain ⟨es, clock, hb, hS, hkv⟩ := h
  rcases kvs_find s hS hkv with ⟨h1, _, h3, _⟩ | ⟨j, p, h1, _, _, h4, _⟩
  · rw [h3]
    simp [Instr.lookup, run_underlying ht, MapKept.run_getObj_map hb, MapKept.run_checkKey hk (k := .string s) trivial, MapKept.run_findKey hk h1, hz, Result.andThen]
  · rw [h4]
    simp [Instr.lookup, run_underlying ht, MapKept.run_getObj_map hb, MapKept.run_checkKey hk (k := .string s) trivial, MapKept.run_findKey hk h1, Result.andThen]
end
def kindV (n : Nat) (x : Bool) : Value := .agg #[.int .i64 n, .bool x]
def mputs (m : List (ByteArray × Value)) (v : Value) (l : List ByteArray) : List (ByteArray × Value) := l.foldl (fun m s => mput m s v) m
theorem mputs_succ {m : List (ByteArray × Value)} {v : Value} {l : List ByteArray} {k : Nat} (h : k < l.length) : mputs m v (l.take (k + 1)) = mput (mputs m v (l.take k)) (l.getD k ByteArray.empty) v := by
  unfold mputs
  rw [List.take_succ_eq_append_getElem h, List.foldl_append]
  simp [List.getD, h]
def tyA : List ByteArray := [s_objectclass, s_cn, s_sn, s_ou, s_o, s_dc, s_uid, s_mail, s_description, s_title, s_l]
def tyN : List ByteArray := [s_uidnumber, s_gidnumber]
def tyM : List ByteArray := [s_member, s_manager, s_seealso]
def mp0 : List (ByteArray × Value) := mput (mput (mput [] s_telephonenumber (kindV 5 false)) s_userpassword (kindV 4 false)) s_displayname (kindV 1 true)
def mp1 : List (ByteArray × Value) := mputs mp0 (kindV 1 false) tyA
def mp2 : List (ByteArray × Value) := mputs mp1 (kindV 2 true) tyN
def mp3 : List (ByteArray × Value) := mputs mp2 (kindV 3 false) tyM
def tyKV : List (ByteArray × Value) := tyL.map fun p => (p.1, kindV p.2.1 p.2.2)
theorem mp3_eq : mp3 = tyKV := by kernel_rfl
def TyRel (w : World) (q n mb : Nat) (m : List (ByteArray × Value)) (v : Value) (l : List ByteArray) (i : Value) (wr : World) : Prop :=
  ∃ k : Nat, k ≤ n ∧ i = .int .i64 k ∧ Hold w ((Row 9 1 (.slice (some ⟨q, 0, none⟩) n n) n (strs l)).sep ((MapA mb (mputs m v (l.take k))).sep Asrt.emp)) wr
def RetTypes (w : World) (e : Ending) (w' : World) : Prop := ∃ mb, e = .returned (.map (some mb)) ∧ Hold w ((MapA mb tyKV).sep Asrt.emp) w'
theorem lit_cell {w0 w : World} {R : Asrt} {q n : Nat} {l : List ByteArray} (h : Hold w0 ((Row 9 1 (.slice (some ⟨q, 0, none⟩) n n) n (strs l)).sep R) w) (j : Nat) (hj : j < n) (hl : n = l.length) : w.cell? ⟨q, j, none⟩ = some (.string (l.getD j ByteArray.empty)) := by
  obtain ⟨_, ao, cap, e, _, _, _, hc⟩ := h.sl
  cases e
  have := hc _ rfl j (by omega)
  rw [Addr.add_lit, Nat.zero_add, strs_get l j (by omega)] at this
  exact this
set_option maxRecDepth 100000 in
set_option maxHeartbeats 1600000 in
theorem types_any (w : World) : Calls Tryd.prog 29 #[] w (RetTypes w) := by
  have H0 := Lib.hid ((Hold.start w).addMap)
  have hmk := fun w' : World => run_makeMap (P := Tryd.prog) 51 w'
  go_enter Tryd.func29, Tryd.ntmps29
  go_wp2_with (first
    | ((with_reducible refine wpList_minsert (s := s_telephonenumber) (val := kindV 5 false) H0.out rfl _ _ _ 51 rfl Tryd.underlying51 Tryd.underlying9 rfl rfl rfl ?_); intro w1 H1)
    | ((with_reducible refine wpList_minsert (s := s_userpassword) (val := kindV 4 false) H1 rfl _ _ _ 51 rfl Tryd.underlying51 Tryd.underlying9 rfl rfl rfl ?_); intro w2 H2)
    | ((with_reducible refine wpList_minsert (s := s_displayname) (val := kindV 1 true) H2 rfl _ _ _ 51 rfl Tryd.underlying51 Tryd.underlying9 rfl rfl rfl ?_); intro w3 H3; have HA : Hid (Hold w ((MapA w.heap.size mp0).sep Asrt.emp) w3) := Lib.hid H3; obtain ⟨q1, hq1⟩ : ∃ q, q = w3.heap.size := ⟨_, rfl⟩; have HP : Hid (TyRel w q1 11 w.heap.size mp0 (kindV 1 false) tyA (.int .i64 0) (w3.alloc (.cells (strs tyA).toArray 9))) := Lib.hid ⟨0, Nat.zero_le _, rfl, HA.out.addLits (strs tyA) 9 (by decide) (b := q1) hq1.symm⟩; have HQ1 := Lib.hid hq1; clear hq1 H1 H2 H3))
  rw [← HQ1.out]
  clear HQ1 HA H0
  go_loopw [15] (fun i wr => TyRel w q1 11 w.heap.size mp0 (kindV 1 false) tyA i wr) (fun i _ => 11 - (intOf i).toNat)
  case atStart => exact HP.out
  case round =>
    clear HP
    obtain ⟨k, hk, rfl, hH⟩ := hrel
    by_cases hlt : k < 11
    · have hc := lit_cell hH k hlt rfl
      obtain ⟨s, hs⟩ : ∃ s, s = tyA.getD k ByteArray.empty := ⟨_, rfl⟩
      rw [← hs] at hc
      have hsucc := mputs_succ (m := mp0) (v := kindV 1 false) (l := tyA) (k := k) hlt
      rw [← hs] at hsucc
      have HSu := Lib.hid hsucc
      have HU := Lib.hid hH.up2
      clear hs hsucc hH
      go_wp2_with (at_mapUpdate; refine wpList_mput HU.out rfl _ _ _ 51 rfl Tryd.underlying51 Tryd.underlying9 rfl s (kindV 1 false) rfl rfl ?_; intro w9 H9)
      have H10 := Lib.hid H9.up2
      clear H9
      go_roundw
      case rel => exact ⟨k + 1, by omega, by go_num, by rw [HSu.out]; exact H10.out⟩
      case measure => simp [intOf]; omega
    · have hA : Hold w ((MapA w.heap.size mp1).sep Asrt.emp) wr := by
        have h := hH.drop1
        have hkE : k = 11 := by omega
        rw [hkE, show tyA.take 11 = tyA from rfl] at h
        exact h
      have HA := Lib.hid hA
      clear hH hA
      obtain ⟨q2, hq⟩ : ∃ q, q = wr.heap.size := ⟨_, rfl⟩
      have HP : Hid (TyRel w q2 2 w.heap.size mp1 (kindV 2 true) tyN (.int .i64 0) (wr.alloc (.cells (strs tyN).toArray 9))) := Lib.hid ⟨0, Nat.zero_le _, rfl, HA.out.addLits (strs tyN) 9 (by decide) (b := q2) hq.symm⟩
      have HQ := Lib.hid hq
      clear hq HA
      go_wp2_with fail
      rw [← HQ.out]
      clear HQ
      go_loopw [25] (fun i wr => TyRel w q2 2 w.heap.size mp1 (kindV 2 true) tyN i wr) (fun i _ => 2 - (intOf i).toNat)
      case atStart => exact HP.out
      case round =>
        clear HP
        obtain ⟨k, hk, rfl, hH⟩ := hrel
        by_cases hlt : k < 2
        · have hc := lit_cell hH k hlt rfl
          obtain ⟨s, hs⟩ : ∃ s, s = tyN.getD k ByteArray.empty := ⟨_, rfl⟩
          rw [← hs] at hc
          have hsucc := mputs_succ (m := mp1) (v := kindV 2 true) (l := tyN) (k := k) hlt
          rw [← hs] at hsucc
          have HSu := Lib.hid hsucc
          have HU := Lib.hid hH.up2
          clear hs hsucc hH
          go_wp2_with (at_mapUpdate; refine wpList_mput HU.out rfl _ _ _ 51 rfl Tryd.underlying51 Tryd.underlying9 rfl s (kindV 2 true) rfl rfl ?_; intro w9 H9)
          have H10 := Lib.hid H9.up2
          clear H9
          go_roundw
          case rel => exact ⟨k + 1, by omega, by go_num, by rw [HSu.out]; exact H10.out⟩
          case measure => simp [intOf]; omega
        · have hA : Hold w ((MapA w.heap.size mp2).sep Asrt.emp) wr := by
            have h := hH.drop1
            have hkE : k = 2 := by omega
            rw [hkE, show tyN.take 2 = tyN from rfl] at h
            exact h
          have HA := Lib.hid hA
          clear hH hA
          obtain ⟨q3, hq⟩ : ∃ q, q = wr.heap.size := ⟨_, rfl⟩
          have HP : Hid (TyRel w q3 3 w.heap.size mp2 (kindV 3 false) tyM (.int .i64 0) (wr.alloc (.cells (strs tyM).toArray 9))) := Lib.hid ⟨0, Nat.zero_le _, rfl, HA.out.addLits (strs tyM) 9 (by decide) (b := q3) hq.symm⟩
          have HQ := Lib.hid hq
          clear hq HA
          go_wp2_with fail
          rw [← HQ.out]
          clear HQ
          go_loopw [35] (fun i wr => TyRel w q3 3 w.heap.size mp2 (kindV 3 false) tyM i wr) (fun i _ => 3 - (intOf i).toNat)
          case atStart => exact HP.out
          case round =>
            clear HP
            obtain ⟨k, hk, rfl, hH⟩ := hrel
            by_cases hlt : k < 3
            · have hc := lit_cell hH k hlt rfl
              obtain ⟨s, hs⟩ : ∃ s, s = tyM.getD k ByteArray.empty := ⟨_, rfl⟩
              rw [← hs] at hc
              have hsucc := mputs_succ (m := mp2) (v := kindV 3 false) (l := tyM) (k := k) hlt
              rw [← hs] at hsucc
              have HSu := Lib.hid hsucc
              have HU := Lib.hid hH.up2
              clear hs hsucc hH
              go_wp2_with (at_mapUpdate; refine wpList_mput HU.out rfl _ _ _ 51 rfl Tryd.underlying51 Tryd.underlying9 rfl s (kindV 3 false) rfl rfl ?_; intro w9 H9)
              have H10 := Lib.hid H9.up2
              clear H9
              go_roundw
              case rel => exact ⟨k + 1, by omega, by go_num, by rw [HSu.out]; exact H10.out⟩
              case measure => simp [intOf]; omega
            · have hA : Hold w ((MapA w.heap.size mp3).sep Asrt.emp) wr := by
                have h := hH.drop1
                have hkE : k = 3 := by omega
                rw [hkE, show tyM.take 3 = tyM from rfl] at h
                exact h
              have HA := Lib.hid hA
              clear hH hA
              have HF : Hid (Hold w ((MapA w.heap.size tyKV).sep Asrt.emp) wr) := Lib.hid (by rw [← mp3_eq]; exact HA.out)
              go_wp2
              go_ret
              exact ⟨_, rfl, HF.out⟩
end Go.Proofs.YtindlfiifckdnaaDoor.Sc
