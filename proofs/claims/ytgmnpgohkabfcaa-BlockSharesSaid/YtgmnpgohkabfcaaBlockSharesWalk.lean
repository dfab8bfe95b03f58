/-
  'BlockShares' answers true: keys that begin alike take fewer bytes than keys that do not. Conditions: none beside what a row says of every argument.
-/
import Derived.Test.YtgmnpgohkabfcaaBlockLib
import Derived.Test.YtgmnpgohkabfcaaBlockSharesPure
import Derived.Test.YtgmnpgohkabfcaaCellSl
namespace Go.Proofs.Ytgmnpgohkabfcaa.blockShares
open Go.RowKit L Oct Bl
def Rel (w : World) (m n : Nat) (x y i : Value) (wr : World) : Prop := ∃ k : Nat, k ≤ n ∧ i = .int .i64 k ∧ Hold w ((Row 36 4 x (lA m k).length (cls (lA m k))).sep ((Row 36 4 y (lB m k).length (cls (lB m k))).sep Asrt.emp)) wr
theorem begS_size (m : Nat) : (begS m).size = m := by
  show (begS m).data.toList.length = m
  rw [begS_list, List.length_replicate]
theorem chS_size (m : Nat) : (chS m).size = 1 := rfl
set_option maxRecDepth 1000000 in
set_option maxHeartbeats 3200000 in
theorem walk {w : World} (a0 : Int) (_w0 : (Lit.int .i64 a0).wf = true) (a1 : Int) (_w1 : (Lit.int .i64 a1).wf = true) :
    Calls Try.prog 8 #[.int .i64 a0, .int .i64 a1] w fun e w' => e = .returned (.bool true) ∧ Below w.heap.size w w' := by
  clear _w0 _w1
  by_cases hin : 1 ≤ a0 ∧ a0 ≤ 60 ∧ 4 ≤ a1 ∧ a1 ≤ 100
  · obtain ⟨n, rfl⟩ : ∃ n : Nat, a0 = n := ⟨a0.toNat, by omega⟩
    obtain ⟨m, rfl⟩ : ∃ m : Nat, a1 = m := ⟨a1.toNat, by omega⟩
    obtain ⟨i1, i2, i3, i4⟩ := hin
    have g1 : decide ((n : Int) < 1) = false := by simp; omega
    have g2 : decide ((60 : Int) < (n : Int)) = false := by simp; omega
    have g3 : decide ((m : Int) < 4) = false := by simp; omega
    have g4 : decide ((100 : Int) < (m : Int)) = false := by simp; omega
    have hm : m ≤ 100 := by omega
    have hn : n ≤ 60 := by omega
    clear i1 i2 i3 i4
    go_enter Try.func8, Try.ntmps8
    go_wp2
    go_loop [5, 6] (fun s i => ∃ k : Nat, k ≤ m ∧ i = .int .i64 k ∧ s = .string (begS k)) (fun _ i => m - (intOf i).toNat)
    case atStart => exact ⟨0, Nat.zero_le _, rfl, rfl⟩
    case round =>
      obtain ⟨k, hk, rfl, rfl⟩ := hrel
      by_cases hlt : k < m
      · have hrun := fun w' : World => run_string_add_sum (P := Try.prog) (w := w') (begS k) ⟨#[107]⟩ (by rw [begS_size]; show k + 1 ≤ _; omega)
        rw [begS_succ] at hrun
        go_wp2
        go_round
        case rel => exact ⟨k + 1, by omega, by go_num, rfl⟩
        case measure => simp [intOf]; omega
      · obtain rfl : k = m := by omega
        go_wp2
        go_loopw [7, 8, 9] (fun x y i wr => Rel w k n x y i wr) (fun _ _ i _ => n - (intOf i).toNat)
        case atStart => exact ⟨0, Nat.zero_le _, rfl, ((Hold.start w).addNil _ _).addNil _ _⟩
        case round =>
          obtain ⟨i, hi, rfl, H⟩ := hrel
          obtain ⟨ao7, cap7, rfl⟩ := H.own.shape
          obtain ⟨ao8, cap8, rfl⟩ := H.up2.own.shape
          by_cases hlti : i < n
          · obtain ⟨c, hc⟩ : ∃ c, c = UInt8.ofNat (65 + i) := ⟨_, rfl⟩
            have hcn : (c.toNat : Int) = 65 + (i : Int) := by
              rw [hc, UInt8.toNat_ofNat']
              show (((65 + i) % 256 : Nat) : Int) = _
              omega
            have hcv : (convert 24 9 (.slice (some ⟨wr.heap.size, 0, none⟩) 1 1)).run Try.prog (wr.alloc (.cells #[.int .u8 (65 + (i : Int))] 5)) = .ok (.string (chS i)) (wr.alloc (.cells #[.int .u8 (65 + (i : Int))] 5)) := by
              have := (sl_built wr (u8s [c]) 5 (by simp [u8s, maxLen])).run_string (P := Try.prog) (l := [c]) (src := 24) (dst := 9) Try.underlying24 Try.underlying5 Try.underlying9
              rw [chS, ← hc, ← hcn]
              exact this
            clear hc hcn
            have hrA := fun w' : World => run_string_add_sum (P := Try.prog) (w := w') (begS k) (chS i) (by rw [begS_size, chS_size]; omega)
            have hrB := fun w' : World => run_string_add_sum (P := Try.prog) (w := w') (chS i) (begS k) (by rw [begS_size, chS_size]; omega)
            have hlA := lA_length k i
            have hlB := lB_length k i
            have HA := Lib.hid hlA
            have HB := Lib.hid hlB
            clear hlA hlB
            have H1 := Lib.hid (H.keeps (below_two wr (.cells #[.int .u8 (65 + (i : Int))] 5) (.cells #[.string (begS k ++ chS i), .string ⟨#[]⟩, .bool false, .int .i64 1] 36)))
            clear H
            go_wp2_with (first
              | (at_builtin; refine wpList_appC H1.out rfl _ _ rfl rfl rfl (sl_builtC (wr.alloc (.cells #[.int .u8 (65 + (i : Int))] 5)) [cA k i] 36 (by simp [maxLen]) (b := wr.heap.size + 1) (by simp)) (by rw [HA.out]; simp only [List.length_singleton]; omega) ?_; intro ao9 n9 cap9 w9 N9 H9; have H10 := Lib.hid (H9.keeps (below_one w9 (.cells #[.string (chS i ++ begS k), .string ⟨#[]⟩, .bool false, .int .i64 1] 36))).up2; clear H1 H9)
              | (at_builtin; refine wpList_appC H10.out rfl _ _ rfl rfl rfl (sl_builtC w9 [cB k i] 36 (by simp [maxLen]) (b := w9.heap.size) rfl) (by rw [HB.out]; simp only [List.length_singleton]; omega) ?_; intro ao11 n11 cap11 w11 N11 H11; clear H10))
            have HG : Hid (Hold w ((Row 36 4 (.slice ao9 n9 cap9) (lA k (i + 1)).length (cls (lA k (i + 1)))).sep ((Row 36 4 (.slice ao11 n11 cap11) (lB k (i + 1)).length (cls (lB k (i + 1)))).sep Asrt.emp)) w11) := Lib.hid (by rw [lA_succ, lB_succ]; exact H11.up2)
            clear H11
            go_roundw
            case rel => exact ⟨i + 1, by omega, by go_num, HG.out⟩
            case measure => simp [intOf]; omega
          · obtain rfl : i = n := by omega
            have hlA := lenA (m := k) hm hn
            have hlB := lenB (m := k) hm hn
            have hA0 := riseA (m := k) hm hn
            have hB0 := riseB (m := k) hm hn
            have hRA : Hid (encR (lA k i) = encL (lA k i)) := Lib.hid (by rw [encR, if_pos hA0])
            have hRB : Hid (encR (lB k i) = encL (lB k i)) := Lib.hid (by rw [encR, if_pos hB0])
            have HA0 := Lib.hid hA0
            have HB0 := Lib.hid hB0
            clear hA0 hB0
            go_wp2_with fail
            refine (encode_any _ (lA k i) _ H.sl (by rw [lA_length]; omega)).mono ?_
            rintro e w3 ⟨v3, rfl, ho3, hb3⟩
            rw [hRA.out] at ho3
            rw [HA0.out]
            have H3 := H.keeps hb3
            have s3 := ho3.sl
            clear H ho3 hb3
            go_wp2_with fail
            refine (encode_any _ (lB k i) _ H3.up2.sl (by rw [lB_length]; omega)).mono ?_
            rintro e w4 ⟨v4, rfl, ho4, hb4⟩
            rw [hRB.out] at ho4
            rw [HB0.out]
            have HH := Lib.hid (H3.keeps hb4).old
            have l3 := (s3.below' hb4).run_len Try.underlying24
            have l4 := ho4.sl.run_len Try.underlying24
            obtain ⟨x, hx⟩ : ∃ x, x = (encL (lA k i)).length := ⟨_, rfl⟩
            obtain ⟨y, hy⟩ : ∃ y, y = (encL (lB k i)).length := ⟨_, rfl⟩
            rw [← hx] at l3 hlA
            rw [← hy] at l4 hlB
            have p1 : i * (k + 6) ≤ 60 * 106 := Nat.mul_le_mul hn (by omega)
            have q1 : ((y : Int) == (i : Int) * ((k : Int) + 6)) = true := by
              rw [hlB]; simp
            have q2 : ((y : Int) - (x : Int) == ((i : Int) - ((i : Int) + 4 - 1) / 4) * (k : Int)) = true := by
              have e1 : ((i : Int) - ((i : Int) + 4 - 1) / 4) = ((i - (i + 3) / 4 : Nat) : Int) := by omega
              rw [e1, ← Int.natCast_mul, beq_iff_eq]
              omega
            have d1 : (0 : Int) ≤ (i : Int) * ((k : Int) + 6) ∧ (i : Int) * ((k : Int) + 6) ≤ 6360 := by
              have : ((i * (k + 6) : Nat) : Int) = (i : Int) * ((k : Int) + 6) := by simp
              omega
            have d2 : (0 : Int) ≤ ((i : Int) - ((i : Int) + 4 - 1) / 4) * (k : Int) ∧ ((i : Int) - ((i : Int) + 4 - 1) / 4) * (k : Int) ≤ 6360 := by
              rw [beq_iff_eq] at q2
              rw [← q2]
              omega
            have hyx : (x : Int) ≤ 6360 ∧ (y : Int) ≤ 6360 := by omega
            clear hx hy hlA hlB s3 ho4 hb4 hk hlt hi hlti p1
            go_wp2_with fail
            refine (known_any _).mono ?_
            rintro e w8 ⟨rfl, hb8⟩
            have HF := Lib.hid (HH.out.trans (hb8.mono HH.out.size))
            clear hb8
            go_wp2
            go_ret
            exact ⟨rfl, HF.out⟩
  · go_enter Try.func8, Try.ntmps8
    by_cases h1 : a0 < 1
    · have g1 : decide (a0 < 1) = true := by simpa using h1
      go_wp2_with fail
      refine (known_any _).mono ?_
      rintro e w8 ⟨rfl, hb8⟩
      go_wp2
      go_ret
      exact ⟨rfl, hb8⟩
    · have g1 : decide (a0 < 1) = false := by simpa using h1
      by_cases h2 : 60 < a0
      · have g2 : decide (60 < a0) = true := by simpa using h2
        go_wp2_with fail
        refine (known_any _).mono ?_
        rintro e w8 ⟨rfl, hb8⟩
        go_wp2
        go_ret
        exact ⟨rfl, hb8⟩
      · have g2 : decide (60 < a0) = false := by simpa using h2
        by_cases h3 : a1 < 4
        · have g3 : decide (a1 < 4) = true := by simpa using h3
          go_wp2_with fail
          refine (known_any _).mono ?_
          rintro e w8 ⟨rfl, hb8⟩
          go_wp2
          go_ret
          exact ⟨rfl, hb8⟩
        · have g3 : decide (a1 < 4) = false := by simpa using h3
          have h4 : 100 < a1 := by omega
          have g4 : decide (100 < a1) = true := by simpa using h4
          go_wp2_with fail
          refine (known_any _).mono ?_
          rintro e w8 ⟨rfl, hb8⟩
          go_wp2
          go_ret
          exact ⟨rfl, hb8⟩
end Go.Proofs.Ytgmnpgohkabfcaa.blockShares
