/-
  The walk of the law OctetCuts: it answers true.
-/
import Derived.Test.YtmdkgggbibdkmaaRowsAt
import Derived.Test.YtmdkgggbibdkmaaOctetKnown
import Derived.Test.YtmdkgggbibdkmaaOctetRNum
import Derived.Test.YtmdkgggbibdkmaaOctetNum
import Derived.Test.YtmdkgggbibdkmaaOctetCutPure
import Derived.Test.YtmdkgggbibdkmaaMask
namespace Go.Proofs.Ytmdkgggbibdkmaa.octetCuts
open Go.RowKit L Oct
theorem elI : ElemOk Try.prog 30 3 1 8 := elemOk Try.underlying30 Try.info3 rfl (by decide)
theorem ints_one (zs : List Int) : ∀ u ∈ ints zs, u.oneCell' = true := by
  intro u hu
  obtain ⟨c, _, rfl⟩ := List.mem_map.1 hu
  rfl
set_option maxRecDepth 100000 in
set_option maxHeartbeats 3200000 in
theorem walk {w : World} (v0 : Value) (l0 : List (List UInt8)) (h0 : SlRows w v0 l0) (_b0 : l0.length * 24 ≤ 140737488351232) (_c0 : ∀ x ∈ l0, x.length ≤ 140737488351232) (a1 : Int) (_w1 : (Lit.int .i64 a1).wf = true) :
    Calls Try.prog 8 #[v0, .int .i64 a1] w fun e w' => e = .returned (.bool true) ∧ Below w.heap.size w w' := by
  have hlen0 := h0.run_len Try.underlying38
  have hmx0 := h0.le
  clear _c0 _w1
  go_enter Try.func8, Try.ntmps8
  go_wp2_with fail
  refine (heavyRows_any v0 l0 w h0).mono ?_
  rintro e w1 ⟨b, rfl, rfl, hl0⟩
  cases b with
  | true => clear hl0; go_wp2; go_ret; exact ⟨rfl, Below.refl _ _⟩
  | false =>
  have hl0 := hl0 rfl
  unfold Light at hl0
  have hrl := rows_le l0 hl0
  have hn0 : l0.length ≤ 4000 := by omega
  clear hl0
  by_cases hz : l0.length = 0
  · have hz' : ((l0.length : Int) == 0) = true := by simp [hz]
    clear hz
    go_wp2
    go_ret
    exact ⟨rfl, Below.refl _ _⟩
  have hz' : ((l0.length : Int) == 0) = false := by simp only [beq_eq_false_iff_ne, ne_eq]; omega
  have hpos : 0 < (rows l0).length := by
    cases l0 with
    | nil => simp at hz
    | cons x r =>
      show 0 < (row x ++ rows r).length
      have := row_pos x
      rw [List.length_append]; omega
  clear hz
  go_wp2
  go_loopw [5, 6, 7] (fun y z i wr => ∃ (k : Nat) (L : List UInt8), k ≤ l0.length ∧ i = .int .i64 k ∧ Hid (L = rows (l0.take k)) ∧ Hold w ((Row 5 1 y L.length (u8s L)).sep ((Row 3 1 z k (ints (ends l0 k))).sep Asrt.emp)) wr) (fun _ _ i _ => l0.length - (intOf i).toNat)
  case atStart => exact ⟨0, [], Nat.zero_le _, rfl, Lib.hid rfl, (((Hold.start w).addNil _ _).addNil _ _)⟩
  case round =>
    obtain ⟨k, L, hk, rfl, HL, H⟩ := hrel
    have hLl : L.length ≤ 40000 := by rw [HL.out]; have := rows_length_le l0 k; omega
    by_cases hlt : k < l0.length
    · obtain ⟨A, u, l, hA, hblk, hc, Hl, hul⟩ := h0.at (P := Try.prog) Try.underlying38 Try.size23 k hlt
      have hbl : A.block < w.heap.size := by
        obtain ⟨vs0, hs0, _⟩ := h0
        exact hs0.lt (by omega) _ hblk.symm
      have hst := rows_take_succ hlt
      have hle := rows_length_le l0 (k + 1)
      rw [hst, ← HL.out, ← Hl.out] at hle
      rw [← HL.out, ← Hl.out] at hst
      have Hst := Lib.hid hst
      have Hle := Lib.hid hle
      have hrow : (L ++ row l).length = L.length + ((enc l.length).length + l.length) := by rw [List.length_append, row, List.length_append]
      have hll : l.length ≤ 40000 := by omega
      have hcr : wr.cell? A = some u := (H.old.cell hbl).trans hc
      clear hst hle hrow hc
      go_wp2_with fail
      refine (rrow_any u l wr (hul.below' H.old) (by omega)).mono ?_
      rintro e w6 ⟨v6, rfl, ho6, hb6⟩
      have H7 := H.keeps hb6
      have hs6 := ho6.sl
      clear H hb6 ho6 hcr
      obtain ⟨M, hM⟩ : ∃ M, M = L ++ row l := ⟨_, rfl⟩
      have hMl : M.length ≤ 40000 := by rw [hM]; have := Hle.out; omega
      have HM := Lib.hid hM
      have hMs : L.length + (row l).length ≤ 40000 := by rw [hM, List.length_append] at hMl; exact hMl
      have HMs := Lib.hid hMs
      clear hM hMs
      go_wp2_with (first
        | (at_builtin; refine wpList_app (sx := .tmp 25) el8 H7 rfl _ rfl rfl rfl hs6 (u8s_one _) (by have := HMs.out; omega) (by have := HMs.out; omega) ?_; intro v8 xs8 w8 X8 H8; rw [X8.out, ← u8s_append, ← List.length_append, ← HM.out] at H8; have hlv := H8.sl.run_len Try.underlying23; have H8' := H8.up2; clear H7 H8 hs6)
        | (at_builtin; refine wpList_appLit (sx := .tmp 32) elI H8' (ints [(M.length : Int)]) rfl _ rfl rfl rfl rfl (ints_one _) (by simp [ints]; omega) (by simp [ints]; omega) ?_; intro v9 xs9 w9 X9 H9))
      have H10 : Hid (Hold w ((Row 5 1 v8 M.length (u8s M)).sep ((Row 3 1 v9 (k + 1) (ints (ends l0 (k + 1)))).sep Asrt.emp)) w9) := by
        refine Lib.hid ?_
        have e : xs9 = ints (ends l0 (k + 1)) := by
          rw [X9.out, ends_succ, show (ecut l0 (k + 1) : Int) = (M.length : Int) from by unfold ecut; rw [Hst.out, HM.out]]
          simp [ints]
        rw [e] at H9
        exact H9.up2
      clear H8' H9
      go_roundw
      case rel => exact ⟨k + 1, M, by omega, by go_num, Lib.hid (by rw [HM.out, Hst.out]), H10.out⟩
      case measure => simp [intOf]; omega
    · obtain rfl : k = l0.length := by omega
      obtain ⟨wo, rfl⟩ : ∃ wo : World, wo = wr := ⟨_, rfl⟩
      rw [List.take_length] at HL
      have hL0 : 0 < L.length := by rw [HL.out]; exact hpos
      obtain ⟨j, m, hj, hj2, hjm, hm⟩ := place30 a1 L.length hL0
      have hown := H.own
      obtain ⟨py, cy, rfl⟩ := hown.shape
      have hsE := H.up2.sl
      have hsL := (hown.take (m := m) (by omega) rfl).sl
      rw [show (u8s L).take (m * 1) = u8s (L.take m) from by simp [u8s]] at hsL
      have hlm : (L.take m).length = m := by rw [List.length_take]; omega
      have hr3 := run_slice_lit (P := Try.prog) hown Try.underlying23 Try.size5 m (by omega) (.int .i64 (m : Int)) ⟨_, rfl⟩
      have hb1 := H.old
      have h0r := h0.below' hb1
      have hle0 := rows_length_le l0
      have HlE := Lib.hid hle0
      have hl0' : (0 : Int) < (L.length : Int) := by omega
      obtain ⟨p, hp⟩ : ∃ p, p = L.take m := ⟨_, rfl⟩
      rw [← hp] at hsL hlm
      have Hp := Lib.hid hp
      have Hlm := Lib.hid hlm
      clear hp hown H h0 hlm hle0
      go_wp2_with fail
      have HsL : Hid (Sl wo 1 (.slice py m cy) p.length (u8s p)) := Lib.hid (by rw [Hlm.out]; exact hsL)
      refine (newReader_any (Hold.start wo) _ p HsL.out (by have := Hlm.out; omega)).mono ?_
      rintro e w2 ⟨vr, rfl, b, rfl, H2⟩
      have e0 : scut l0 m 0 = p ∧ bcut l0 m 0 = false := by rw [Hp.out, HL.out]; exact cut_start
      have H3 : Hid (Hold wo ((Rd b (scut l0 m 0) (bcut l0 m 0)).sep Asrt.emp) w2) := Lib.hid (by rw [e0.1, e0.2]; exact H2)
      clear H2 e0 hsL HsL hr3
      go_wp2
      go_loopw [10] (fun i wx => ∃ k : Nat, k ≤ l0.length ∧ i = .int .i64 k ∧ Hold wo ((Rd b (scut l0 m k) (bcut l0 m k)).sep Asrt.emp) wx) (fun i _ => l0.length - (intOf i).toNat)
      case atStart => exact ⟨0, Nat.zero_le _, rfl, H3.out⟩
      case round =>
        clear H3
        obtain ⟨k, hk, rfl, H⟩ := hrel
        have hml : m ≤ 40000 := by omega
        have hsl : (scut l0 m k).length ≤ 40000 := by have := cut_length (ls := l0) (m := m) (k := k); omega
        by_cases hlt : k < l0.length
        · obtain ⟨A, u, l, hA, hblk, hc, Hl, hul⟩ := h0r.at (P := Try.prog) Try.underlying38 Try.size23 k hlt
          have hbl : A.block < wo.heap.size := by
            obtain ⟨vs0, hs0, _⟩ := h0r
            exact hs0.lt (by omega) _ hblk.symm
          have hll : (l0.getD k []).length ≤ 40000 := by
            have h1 := HlE.out (k + 1)
            rw [rows_take_succ hlt, List.length_append, row, List.length_append] at h1
            omega
          obtain ⟨A2, z, hA2, hblk2, hc2, Hz⟩ := Sl.atI (zs := ends l0 l0.length) (P := Try.prog) (by rw [ends_length]; exact hsE) Try.underlying30 Try.size3 k (by rw [ends_length]; exact hlt)
          have hbl2 : A2.block < wo.heap.size := hsE.lt (by omega) _ hblk2.symm
          obtain ⟨E, hE⟩ : ∃ E, E = ecut l0 (k + 1) := ⟨_, rfl⟩
          have hz : z = (E : Int) := by rw [Hz.out, ends_get hlt, hE]
          subst hz
          have HE := Lib.hid hE
          have Hc := Lib.hid hc
          have Hc2 := Lib.hid hc2
          have Hll := Lib.hid hll
          clear hE hc hc2 hll
          by_cases hwh : E ≤ m
          · obtain ⟨e1, e2, e3⟩ := cut_whole (m := m) hlt (by have := Hll.out; omega) (by rw [← HE.out]; exact hwh)
            rw [← Hl.out] at e1
            rw [e2] at H
            have E1 := Lib.hid e1
            have E3 := Lib.hid e3
            clear e1 e2 e3
            go_wp2_with fail
            refine (rbytes_any H (by omega)).mono ?_
            rintro e w3 ⟨v3, rfl, H3⟩
            rw [E1.out, show got [] (some (l, scut l0 m (k + 1))) = l from rfl, show left (some (l, scut l0 m (k + 1))) = scut l0 m (k + 1) from rfl, show (false || (some (l, scut l0 m (k + 1))).isNone) = false from rfl] at H3
            have hc3 : w3.cell? A = some u := (H3.old.cell hbl).trans Hc.out
            have hc4 : w3.cell? A2 = some (.int .i64 (E : Int)) := (H3.old.cell hbl2).trans Hc2.out
            clear H
            go_wp2_with fail
            refine (same_any v3 u l l _ H3.sl (hul.below' H3.old)).mono ?_
            rintro e w4 ⟨rfl, hb4⟩
            have H4 := (H3.keeps hb4).drop1
            have e5 : decide (l = l) = true := by simp
            rw [e5]
            clear e5 hb4 H3 hc3 hc4
            go_wp2_with fail
            refine (good_any H4).mono ?_
            rintro e w5 ⟨rfl, rfl⟩
            rw [← E3.out] at H4
            have H5 := Lib.hid H4
            clear H4
            go_wp2
            go_roundw
            case rel => exact ⟨k + 1, by omega, by go_num, H5.out⟩
            case measure => simp [intOf]; omega
          · obtain ⟨e1, e2, e3⟩ := cut_short (m := m) hlt (by have := Hll.out; omega) (by rw [← HE.out]; omega)
            have E1 := Lib.hid e1
            have E2 := Lib.hid e2
            have E3 := Lib.hid e3
            clear e1 e2 e3
            go_wp2_with fail
            refine (rbytes_any H (by omega)).mono ?_
            rintro e w3 ⟨v3, rfl, H3⟩
            rw [E1.out, show got [] (none : Option (List UInt8 × List UInt8)) = [] from rfl, show left (none : Option (List UInt8 × List UInt8)) = [] from rfl, show (bcut l0 m k || (none : Option (List UInt8 × List UInt8)).isNone) = true from by simp] at H3
            have hc4 : w3.cell? A2 = some (.int .i64 (E : Int)) := (H3.old.cell hbl2).trans Hc2.out
            have hlv := H3.sl.run_len Try.underlying23
            have H4 := H3.drop1
            have H5 : Hid (Hold wo ((Rd b (scut l0 m (k + 1)) (bcut l0 m (k + 1))).sep Asrt.emp) w3) := Lib.hid (by rw [E2.out, E3.out]; exact H4)
            clear H H3
            go_wp2_with fail
            refine (good_any H4).mono ?_
            rintro e w5 ⟨rfl, rfl⟩
            go_wp2_with fail
            refine (left_any H4).mono ?_
            rintro e w5 ⟨rfl, rfl⟩
            clear H4
            go_wp2
            go_roundw
            case rel => exact ⟨k + 1, by omega, by go_num, H5.out⟩
            case measure => simp [intOf]; omega
        · obtain rfl : k = l0.length := by omega
          have e1 : scut l0 m l0.length = [] ∧ bcut l0 m l0.length = true := by
            have hE : m < ecut l0 l0.length := by unfold ecut; rw [List.take_length, ← HL.out]; exact hm
            exact ⟨by unfold scut; rw [if_neg (by omega)], by simp [bcut]; omega⟩
          rw [e1.1, e1.2] at H
          clear e1 hsl
          go_wp2_with fail
          refine (whole_any H).mono ?_
          rintro e w5 ⟨rfl, rfl⟩
          have e9 : (!true && ([] : List UInt8).isEmpty) = false := by rfl
          rw [e9]
          clear e9
          go_wp2_with fail
          refine (num_any H (by simp)).mono ?_
          rintro e w6 ⟨rfl, H6⟩
          have e8 : got 0 (dec 0 0 []) = 0 := rfl
          rw [e8]
          have e7 : (((0 : Nat) : Int) == 0) = true := rfl
          go_wp2_with fail
          refine (known_any _).mono ?_
          rintro e w9 ⟨rfl, hb9⟩
          have Hfin := Lib.hid (hb1.trans ((H6.keeps hb9).old.mono hb1.size))
          clear hb9 H6 H hb1
          go_wp2
          go_ret
          exact ⟨rfl, Hfin.out⟩
end Go.Proofs.Ytmdkgggbibdkmaa.octetCuts
