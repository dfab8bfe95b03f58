/-
  Reader.Num of chapter 1: a number is taken; Reader.Bytes: a row.
-/
import Derived.Test.YtkbfjgmgckbogaaF12
namespace Go.Proofs.Ytkbfjgmgckbogaa.Oct
open Go.RowKit L
theorem u8_and127 (c : UInt8) : bits .and .u8 (c.toNat : Int) 127 = ((c.toNat % 128 : Nat) : Int) := by
  have h : ∀ c : UInt8, bits .and .u8 (c.toNat : Int) 127 = ((c.toNat % 128 : Nat) : Int) := by
    intro c
    have h2 : ∀ a : Fin 256, bits .and .u8 (a.val : Int) 127 = ((a.val % 128 : Nat) : Int) := by decide +kernel
    exact h2 ⟨c.toNat, c.toNat_lt⟩
  exact h c
theorem or_digit (k m d : Nat) (hk : k < 9) (hm : m < 2 ^ (7 * k)) (hd : d < 128) : bits .or .u64 (m : Int) (IntKind.u64.wrap ((d : Int) * 2 ^ (7 * k))) = ((m + d * 2 ^ (7 * k) : Nat) : Int) := by
  have hp : 2 ^ (7 * k) ≤ 2 ^ 56 := Nat.pow_le_pow_right (by omega) (by omega)
  have h1 : d * 2 ^ (7 * k) ≤ 127 * 2 ^ 56 := Nat.mul_le_mul (by omega) hp
  have e1 : ((d : Int) * 2 ^ (7 * k)) = ((d * 2 ^ (7 * k) : Nat) : Int) := by simp
  have e2 : IntKind.u64.wrap ((d * 2 ^ (7 * k) : Nat) : Int) = ((d * 2 ^ (7 * k) : Nat) : Int) := by
    exact IntWalk.u64_in _ (by omega)
  rw [e1, e2, u64_or_nat _ _ (by omega) (by omega)]
  congr 1
  rw [Nat.or_comm, Nat.add_comm, ← Nat.shiftLeft_eq, Nat.shiftLeft_add_eq_or_of_lt hm]
set_option maxRecDepth 100000 in
set_option maxHeartbeats 1600000 in
theorem num_any {W0 w : World} {R : Asrt} {b : Nat} {l : List UInt8} {bad : Bool} (h : Hold W0 ((Rd b l bad).sep R) w) (hl : l.length ≤ 140737488355328) :
    Calls Try.prog 40 #[.pointer (some ⟨b, 0, none⟩)] w fun e w' => e = .returned (.int .i64 (got 0 (dec 0 0 l) : Nat)) ∧ Hold W0 ((Rd b (left (dec 0 0 l)) (bad || (dec 0 0 l).isNone)).sep R) w' := by
  obtain ⟨F, v, hb, hsl, hne, hF⟩ := h.fst
  have hlen := hsl.run_len Try.underlying33
  have hc0 : w.cell? ⟨b, 0, none⟩ = some v := blk_cell hb 0
  clear hne hF
  have Hb := Lib.hid hb
  clear hb
  obtain ⟨D, hD⟩ : ∃ D, D = dec 0 0 l := ⟨_, rfl⟩
  rw [← hD]
  go_enter Try.func40, Try.ntmps40
  go_wp2
  clear hc0
  go_loopw [13, 3] (fun i u wr => ∃ (k m : Nat), k ≤ l.length ∧ k ≤ 9 ∧ i = .int .i64 k ∧ u = .int .u64 m ∧ m < 2 ^ (7 * k) ∧ D = dec k m (l.drop k) ∧ Below w.heap.size w wr) (fun i _ _ => l.length - (intOf i).toNat)
  case atStart => exact ⟨0, 0, Nat.zero_le _, Nat.zero_le _, rfl, rfl, by decide, by simpa using hD, Below.refl _ _⟩
  case round =>
    clear hD
    obtain ⟨k, m, hk, hk9, rfl, rfl, hm, hDk, hbr⟩ := hrel
    have HH := h.keeps hbr
    by_cases hlt : k < l.length
    · obtain ⟨A, hA, hblk, hcell⟩ := run_indexAt_sl (P := Try.prog) (hsl.below' hbr) Try.underlying33 Try.size5 .i64 (k : Int) (by omega) (by omega)
      have hc := hcell 0 (by omega)
      rw [u8s_get _ _ (by omega)] at hc
      simp only [add_zero, Int.toNat_natCast, Nat.mul_one, Nat.add_zero] at hc
      obtain ⟨c, hcx⟩ : ∃ c, c = l.getD k 0 := ⟨_, rfl⟩
      rw [← hcx] at hc
      have hdr : l.drop k = c :: l.drop (k + 1) := by
        rw [List.drop_eq_getElem_cons hlt, hcx]
        simp [List.getD, hlt]
      rw [hdr] at hDk
      simp only [dec] at hDk
      clear hcell hcx hdr
      have hcl := c.toNat_lt
      by_cases hbrk : 9 ≤ k ∨ (0 < k ∧ c.toNat = 0)
      · rw [if_pos hbrk] at hDk
        subst hDk
        by_cases h9 : 9 ≤ k
        · go_wp2_with fail
          refine (bad_any HH).mono ?_
          rintro e w1 ⟨rfl, hH⟩
          go_wp2
          go_ret
          exact ⟨rfl, by simpa [left] using hH⟩
        · have hk0 : 0 < k := by omega
          have hc0 : c.toNat = 0 := by omega
          have hcc : ((c.toNat : Int) == 0) = true := by simp [hc0]
          clear hbrk
          go_wp2_with fail
          refine (bad_any HH).mono ?_
          rintro e w1 ⟨rfl, hH⟩
          go_wp2
          go_ret
          exact ⟨rfl, by simpa [left] using hH⟩
      · rw [if_neg hbrk] at hDk
        have hk9' : k < 9 := by omega
        obtain ⟨X, hX⟩ : ∃ X, X = m + c.toNat % 128 * 2 ^ (7 * k) := ⟨_, rfl⟩
        have hor : bits .or .u64 (m : Int) (IntKind.u64.wrap (IntKind.u64.wrap (bits .and .u8 (c.toNat : Int) 127) * 2 ^ (7 * k))) = (X : Int) := by
          have := or_digit k m (c.toNat % 128) hk9' hm (by omega)
          rw [← hX] at this
          rw [u8_and127, IntWalk.u64_in ((c.toNat % 128 : Nat) : Int) (by omega)]
          exact this
        have hXlt : X < 2 ^ (7 * (k + 1)) := by
          have h1 : 2 ^ (7 * (k + 1)) = 128 * 2 ^ (7 * k) := by rw [Nat.mul_succ, Nat.pow_add]; omega
          have h2 : c.toNat % 128 * 2 ^ (7 * k) ≤ 127 * 2 ^ (7 * k) := Nat.mul_le_mul_right _ (by omega)
          omega
        by_cases h128 : c.toNat < 128
        · rw [if_pos h128, ← show X = m + c.toNat * 2 ^ (7 * k) from by rw [hX, Nat.mod_eq_of_lt h128]] at hDk
          clear hX hXlt hm
          by_cases hbig : 4611686018427387904 < X
          · rw [if_pos hbig] at hDk
            subst hDk
            by_cases hk0 : 0 < k
            · have hcc : ((c.toNat : Int) == 0) = false := by simp; omega
              clear hbrk
              go_wp2_with fail
              refine (bad_any HH).mono ?_
              rintro e w1 ⟨rfl, hH⟩
              go_wp2
              go_ret
              exact ⟨rfl, by simpa [left] using hH⟩
            · clear hbrk
              go_wp2_with fail
              refine (bad_any HH).mono ?_
              rintro e w1 ⟨rfl, hH⟩
              go_wp2
              go_ret
              exact ⟨rfl, by simpa [left] using hH⟩
          · rw [if_neg hbig] at hDk
            subst hDk
            have hbr' := rd_heap Hb.out hbr
            have hc0 : wr.cell? ⟨b, 0, none⟩ = some v := blk_cell hbr' 0
            have hf0 := blk_free hbr' 0
            obtain ⟨v2, hr2, hs2, ho2⟩ := run_slice_sl (P := Try.prog) (hsl.below' hbr) Try.underlying33 Try.size5 (some (.int .i64 ((k : Int) + 1))) none (k + 1) l.length (.inr ⟨.i64, rfl⟩) (.inl ⟨rfl, rfl⟩) (by omega) (Nat.le_refl _)
            have hcut : Sl wr 1 v2 (l.length - (k + 1)) (u8s (l.drop (k + 1))) := by
              rw [Nat.mul_one, Nat.mul_one, u8s_drop, List.take_of_length_le (by rw [u8s_length]; simp)] at hs2
              exact hs2
            have hH2 := rd_cut HH hbr' (k + 1) hcut ho2
            obtain ⟨ao2, cap2, rfl⟩ : ∃ ao cap, v2 = .slice ao (l.length - (k + 1)) cap := by
              obtain ⟨_, ao, cap, rfl, _⟩ := hs2
              exact ⟨_, _, rfl⟩
            have HH2 := Lib.hid hH2
            clear hH2 hcut hs2 ho2 hbr'
            by_cases hk0 : 0 < k
            · have hcc : ((c.toNat : Int) == 0) = false := by simp; omega
              clear hbrk
              go_wp2
              go_ret
              exact ⟨rfl, by simpa [left] using HH2.out⟩
            · clear hbrk
              go_wp2
              go_ret
              exact ⟨rfl, by simpa [left] using HH2.out⟩
        · rw [if_neg h128, show (c.toNat - 128) = c.toNat % 128 from by omega, ← hX] at hDk
          have HD := Lib.hid hDk
          have HX := Lib.hid hXlt
          clear hX hm hXlt hDk
          have hcc : ((c.toNat : Int) == 0) = false := by simp; omega
          by_cases hk0 : 0 < k
          · clear hbrk
            go_wp2
            go_roundw
            case rel => exact ⟨k + 1, X, by omega, by omega, by go_num, rfl, HX.out, HD.out, hbr⟩
            case measure => simp [intOf]; omega
          · clear hbrk
            go_wp2
            go_roundw
            case rel => exact ⟨k + 1, X, by omega, by omega, by go_num, rfl, HX.out, HD.out, hbr⟩
            case measure => simp [intOf]; omega
    · obtain rfl : k = l.length := by omega
      rw [List.drop_length] at hDk
      simp only [dec] at hDk
      subst hDk
      go_wp2_with fail
      refine (bad_any HH).mono ?_
      rintro e w1 ⟨rfl, hH⟩
      go_wp2
      go_ret
      exact ⟨rfl, by simpa [left] using hH⟩
set_option maxHeartbeats 800000 in
theorem rbytes_any {W0 w : World} {R : Asrt} {b : Nat} {l : List UInt8} {bad : Bool} (h : Hold W0 ((Rd b l bad).sep R) w) (hl : l.length ≤ 140737488355328) :
    Calls Try.prog 41 #[.pointer (some ⟨b, 0, none⟩)] w (RetV fun v' w' => Hold W0 ((Row 5 1 v' (got [] (decRow l)).length (u8s (got [] (decRow l)))).sep ((Rd b (left (decRow l)) (bad || (decRow l).isNone)).sep R)) w') := by
  obtain ⟨e1, e2, e3⟩ := decRow_raw l bad
  rw [e1, e2, e3]
  have hll : (left (dec 0 0 l)).length ≤ 140737488355328 := by
    cases hd : dec 0 0 l with
    | none => simp [left]
    | some p =>
      obtain ⟨n, r⟩ := p
      have := dec_length l 0 0 n r hd
      simp [left]; omega
  clear e1 e2 e3
  go_enter Try.func41, Try.ntmps41
  go_wp2_with fail
  refine (num_any h hl).mono ?_
  rintro e w1 ⟨rfl, h1⟩
  go_wp2_with fail
  refine (rraw_any h1 _ hll).mono ?_
  rintro e w2 ⟨v', rfl, h2⟩
  have H2 := Lib.hid h2
  clear h1 h2
  go_wp2
  go_ret
  exact ⟨v', rfl, H2.out⟩
end Go.Proofs.Ytkbfjgmgckbogaa.Oct
