/-
  The walk of the law OctetSums: it answers true.
-/
import Derived.Test.YtmdkgggbibdkmaaOctetHelp
import Derived.Test.YtmdkgggbibdkmaaOctetKnown
import Derived.Test.YtmdkgggbibdkmaaOctetJoin
import Derived.Test.YtmdkgggbibdkmaaMask
namespace Go.Proofs.Ytmdkgggbibdkmaa.octetSums
open Go.RowKit L Oct
theorem take_flatten_succ {ls : List (List UInt8)} {k : Nat} (hk : k < ls.length) : (ls.take (k + 1)).flatten = (ls.take k).flatten ++ ls.getD k [] := by
  rw [List.take_succ_eq_append_getElem hk, List.flatten_append]
  simp only [List.flatten_cons, List.flatten_nil, List.append_nil, List.getD, List.getElem?_eq_getElem hk, Option.getD_some]
theorem take_flatten_le (ls : List (List UInt8)) (k : Nat) : (ls.take k).flatten.length ≤ ls.flatten.length := by
  conv => rhs; rw [← List.take_append_drop k ls, List.flatten_append, List.length_append]
  omega
set_option maxRecDepth 100000 in
set_option maxHeartbeats 1600000 in
theorem walk {w : World} (v0 : Value) (l0 : List (List UInt8)) (h0 : SlRows w v0 l0) (_b0 : l0.length * 24 ≤ 140737488351232) (_c0 : ∀ x ∈ l0, x.length ≤ 140737488351232) (a1 : Int) (_w1 : (Lit.int .i64 a1).wf = true) (a2 : Int) (w2 : (Lit.int .u8 a2).wf = true) :
    Calls Try.prog 5 #[v0, .int .i64 a1, .int .u8 a2] w fun e w' => e = .returned (.bool true) ∧ Below w.heap.size w w' := by
  obtain ⟨by_, rfl⟩ := u8_lit w2
  have hlen := h0.run_len Try.underlying38
  have hmx := h0.le
  clear _w1 w2 _c0
  go_enter Try.func5, Try.ntmps5
  go_wp2_with fail
  refine (heavyRows_any v0 l0 w h0).mono ?_
  rintro e w1 ⟨b, rfl, rfl, hl⟩
  cases b with
  | true => clear hl; go_wp2; go_ret; exact ⟨rfl, Below.refl _ _⟩
  | false =>
    have hl := hl rfl
    unfold Light at hl
    have hl1 : l0.flatten.length ≤ 4000 := by omega
    have hl2 : l0.length ≤ 4000 := by omega
    clear hl
    obtain ⟨vs, hvs⟩ := h0.reads
    go_wp2_with fail
    refine (join_any (Hold.start w) v0 vs l0 (hvs _) (by omega) (by omega)).mono ?_
    rintro e w1 ⟨v7, rfl, ho7, hb1⟩
    have h1 := h0.below' hb1
    have hs7 := ho7.sl
    obtain ⟨vs1, hvs1⟩ := h1.reads
    have Hv := Lib.hid hvs1
    clear hvs hvs1 ho7 h0
    go_wp2
    go_loopw [8, 9] (fun y i wr => ∃ (k : Nat) (L : List UInt8), k ≤ l0.length ∧ i = .int .i64 k ∧ Hid (L = (l0.take k).flatten) ∧ Hold w1 ((Row 5 1 y L.length (u8s L)).sep Asrt.emp) wr) (fun _ i _ => l0.length - (intOf i).toNat)
    case atStart => exact ⟨0, [], Nat.zero_le _, rfl, Lib.hid rfl, (Hold.start w1).addNil _ _⟩
    case round =>
      obtain ⟨k, L, hk, rfl, HL, H⟩ := hrel
      have hle := take_flatten_le l0 k
      have hLl : L.length ≤ 4000 := by rw [HL.out]; omega
      clear hle
      by_cases hlt : k < l0.length
      · obtain ⟨A, u, l, hA, hblk, hc, Hl, hul⟩ := (h1.below' H.old).at (P := Try.prog) Try.underlying38 Try.size23 k hlt
        have hle2 := take_flatten_le l0 (k + 1)
        rw [take_flatten_succ hlt, List.length_append, ← HL.out, ← Hl.out] at hle2
        have hll : L.length + l.length ≤ 4000 := by omega
        clear hle2
        go_wp2_with (at_builtin; refine wpList_app el8 H rfl _ _ rfl rfl rfl hul (u8s_one _) (by omega) (by omega) ?_; intro v1 xs1 w2 X1 H1)
        go_roundw
        case rel => exact ⟨k + 1, L ++ l, by omega, by go_num, Lib.hid (by rw [take_flatten_succ hlt, ← HL.out, ← Hl.out]), by rw [X1.out, ← u8s_append, ← List.length_append] at H1; exact H1⟩
        case measure => simp [intOf]; omega
      · obtain rfl : k = l0.length := by omega
        rw [List.take_length] at HL
        rw [← HL.out] at hs7
        obtain ⟨ao, cap, rfl⟩ := H.own.shape
        go_wp2_with fail
        refine (sum_any H v0 vs1 l0 (Hv.out _)).mono ?_
        rintro e w9 ⟨he, rfl⟩
        rw [← HL.out] at he
        subst he
        clear Hv HL hl1
        obtain ⟨S, hS⟩ : ∃ S, S = Crc.sum L := ⟨_, rfl⟩
        rw [← hS]
        have HS := Lib.hid hS
        clear hS
        go_wp2_with fail
        refine (same_any v7 _ L L _ (hs7.below' H.old) H.sl).mono ?_
        rintro e w4 ⟨rfl, hb4⟩
        have H4 := H.keeps hb4
        have hbt := hb1.trans (H4.old.mono hb1.size)
        clear H hb4 hs7
        have e5 : decide (L = L) = true := by simp
        rw [e5]
        clear e5
        go_wp2_with fail
        refine (rsum_any _ L _ H4.sl).mono ?_
        rintro e w9 ⟨he, rfl⟩
        rw [← HS.out] at he
        subst he
        have hne : ((S.toNat : Int) != (S.toNat : Int)) = false := by simp
        go_wp2_with fail
        have H5 := H4.addLit (.slice ao L.length cap) 23
        refine (sum_any H5 _ _ [L] (readsRows_one Reads.row)).mono ?_
        rintro e w9 ⟨he, rfl⟩
        rw [show [L].flatten = L from by simp, ← HS.out] at he
        subst he
        have H6 := H5.drop1
        clear H4 H5
        by_cases hc : 0 < L.length ∧ by_.toNat ≠ 0
        · obtain ⟨hL0, hby⟩ := hc
          obtain ⟨j, m, hj, hj2, hjm, hm⟩ := place30 a1 L.length hL0
          obtain ⟨A, hA, hcell, hfr, hset⟩ := H6.index (P := Try.prog) Try.underlying23 Try.size5 .i64 (m : Int) (by omega) (by omega)
          rw [Int.toNat_natCast, u8s_get _ _ hm] at hcell
          obtain ⟨x, hx0⟩ : ∃ x, x = L.getD m 0 := ⟨_, rfl⟩
          rw [← hx0] at hcell
          have hx := xor_u8 x by_
          obtain ⟨y, hy⟩ : ∃ y, y = x ^^^ by_ := ⟨_, rfl⟩
          have hs := hset (.int .u8 (y.toNat : Int))
          rw [Int.toNat_natCast, show (u8s L).set m (.int .u8 (y.toNat : Int)) = u8s (L.set m y) from by simp [u8s]] at hs
          rw [← hy] at hx
          have hyne : L[m] ≠ y := by
            rw [hy, hx0]
            have := xor_ne L[m] by_ hby
            simp only [List.getD, List.getElem?_eq_getElem hm, Option.getD_some]
            exact fun e => this e.symm
          have hcrc := Crc.sum_set L m y hm (fun e => hyne e.symm)
          have hne2 : (((Crc.sum (L.set m y)).toNat : Int) == (S.toNat : Int)) = false := by
            rw [HS.out]
            simp only [beq_eq_false_iff_ne, ne_eq]
            intro e
            exact hcrc (UInt32.toNat_inj.1 (by omega))
          obtain ⟨L', hL'⟩ : ∃ L', L' = L.set m y := ⟨_, rfl⟩
          have hlen' : L'.length = L.length := by rw [hL']; simp
          rw [← hL'] at hs hne2
          have Hlen' := Lib.hid hlen'
          have hn0 : ((by_.toNat : Int) != 0) = true := by simp; omega
          have hl0 : (0 : Int) < (L.length : Int) := by omega
          clear hlen' hL' hcrc hyne hy hx0 HS hset hby
          go_wp2_with fail
          have H7 := hs.addLits [.slice ao L.length cap] 23 (by simp [maxLen]) (b := w4.heap.size + 1) (by simp [World.setCell])
          refine (sum_any H7 _ _ [L'] (readsRows_one (by have := Reads.row (W0 := w1) (R := Asrt.emp) (e := 5) (s := 1) (v := .slice ao L.length cap) (n := L.length) (xs := u8s L'); rw [Hlen'.out]; exact this))).mono ?_
          rintro e w9 ⟨he, rfl⟩
          rw [show [L'].flatten = L' from by simp] at he
          subst he
          have H8 := H7.drop1
          go_wp2_with fail
          refine (known_any _).mono ?_
          rintro e w9 ⟨rfl, hb9⟩
          have hfin := hb1.trans ((H8.keeps hb9).old.mono hb1.size)
          have Hfin := Lib.hid hfin
          clear hfin H8 H7 hs H6 hb9 hbt hb1
          go_wp2
          go_ret
          exact ⟨rfl, Hfin.out⟩
        · have hc' : L.length = 0 ∨ by_.toNat = 0 := by omega
          clear hc
          rcases hc' with hc' | hc'
          · have hl0 : decide (0 < L.length) = false := by simp [hc']
            clear hc'
            go_wp2_with fail
            refine (known_any _).mono ?_
            rintro e w9 ⟨rfl, hb9⟩
            have hfin := hb1.trans ((H6.keeps hb9).old.mono hb1.size)
            have Hfin := Lib.hid hfin
            clear hfin H6 hb9 hbt hb1
            go_wp2
            go_ret
            exact ⟨rfl, Hfin.out⟩
          · have hn0 : ((by_.toNat : Int) != 0) = false := by simp [hc']
            clear hc'
            by_cases hL0 : 0 < L.length
            all_goals
              go_wp2_with fail
              refine (known_any _).mono ?_
              rintro e w9 ⟨rfl, hb9⟩
              have hfin := hb1.trans ((H6.keeps hb9).old.mono hb1.size)
              have Hfin := Lib.hid hfin
              clear hfin H6 hb9 hbt hb1
              go_wp2
              go_ret
              exact ⟨rfl, Hfin.out⟩
end Go.Proofs.Ytmdkgggbibdkmaa.octetSums
