/-
  LedgerApart: ledgers of unlike names on one disk do not meet.
-/
import Derived.Test.YtkbfjgmgckbogaaF19
import Derived.Test.YtkbfjgmgckbogaaF17
import Derived.Test.YtkbfjgmgckbogaaF2
namespace Go.Proofs.Ytkbfjgmgckbogaa.ledgerApart
open Go.RowKit L Oct Dsk Fr Kp Ld
theorem text_eq {a b : ByteArray} : (a.toList == b.toList) = true ↔ a = b := by
  constructor
  · intro h
    have h := beq_iff_eq.1 h
    rw [ByteArray.toList_eq, ByteArray.toList_eq] at h
    exact ByteArray.ext (Array.toList_inj.1 h)
  · rintro rfl; simp
def ARel (W0 : World) (a b : ByteArray) (la lb' bd n j : Nat) (x : Value) (wr : World) : Prop := ∃ (k : Nat) (d : D), k ≤ n ∧ x = .int .i64 k ∧ AS a b k j d ∧
  Hold W0 ((LedgA la bd (lgO a none (List.replicate k [120]))).sep ((DiskA bd d).sep ((LedgA lb' bd (lgO b none (List.replicate j [121]))).sep Asrt.emp))) wr
def BRel (W0 : World) (a b : ByteArray) (la lb' bd n m : Nat) (x : Value) (wr : World) : Prop := ∃ (k : Nat) (d : D), k ≤ m ∧ x = .int .i64 k ∧ AS a b n k d ∧
  Hold W0 ((LedgA lb' bd (lgO b none (List.replicate k [121]))).sep ((DiskA bd d).sep ((LedgA la bd (lgO a none (List.replicate n [120]))).sep Asrt.emp))) wr
theorem rep_ok (x : List UInt8) (k : Nat) (hx : x.length ≤ 10) (hk : k ≤ 100) : LOk none (List.replicate k x) := repl_ok x k hx (by omega)
set_option maxRecDepth 1000000 in
set_option maxHeartbeats 3200000 in
theorem walk {w : World} (a0 : ByteArray) (_w0 : a0.size ≤ 140737488351232) (a1 : ByteArray) (_w1 : a1.size ≤ 140737488351232) (a2 : Int) (_w2 : (Lit.int .i64 a2).wf = true) (a3 : Int) (_w3 : (Lit.int .i64 a3).wf = true) :
    Calls Try.prog 3 #[.string a0, .string a1, .int .i64 a2, .int .i64 a3] w fun e w' => e = .returned (.bool true) ∧ Below w.heap.size w w' := by
  have kc := fun (w : World) (C : Array Value) (n c : Nat) => Lib.run_convert_bytes_const (P := Try.prog) w 33 5 C n c Try.underlying33 Try.underlying5
  have hq2 : (a0.size < 1 ∨ (¬ a0.size < 1 ∧ 20 < a0.size) ∨ ((1 ≤ a0.size ∧ a0.size ≤ 20) ∧ a1.size < 1) ∨ ((1 ≤ a0.size ∧ a0.size ≤ 20) ∧ 1 ≤ a1.size ∧ 20 < a1.size) ∨
      ((1 ≤ a0.size ∧ a0.size ≤ 20) ∧ (1 ≤ a1.size ∧ a1.size ≤ 20))) := by omega
  rcases hq2 with h1 | ⟨h1, h2⟩ | ⟨⟨h1, h2⟩, h3⟩ | ⟨⟨h1, h2⟩, h3, h4⟩ | ⟨⟨h1, h2⟩, h3, h4⟩
  case inl | inr.inl | inr.inr.inl | inr.inr.inr.inl =>
    go_enter Try.func3, Try.ntmps3
    go_wp2_with fail
    refine (known_any _).mono ?_
    rintro e w1 ⟨rfl, hb⟩
    have HF := Lib.hid hb
    clear hb
    go_wp2
    go_ret
    exact ⟨rfl, HF.out⟩
  by_cases he : a0 = a1
  · have hq : (a0.toList == a1.toList) = true := text_eq.2 he
    clear he
    go_enter Try.func3, Try.ntmps3
    go_wp2_with fail
    refine (known_any _).mono ?_
    rintro e w1 ⟨rfl, hb⟩
    have HF := Lib.hid hb
    clear hb
    go_wp2
    go_ret
    exact ⟨rfl, HF.out⟩
  have hq : (a0.toList == a1.toList) = false := by
    cases hx : (a0.toList == a1.toList) with
    | false => rfl
    | true => exact absurd (text_eq.1 hx) he
  clear he
  have hq3 : a2 < 0 ∨ (0 ≤ a2 ∧ 20 < a2) ∨ ((0 ≤ a2 ∧ a2 ≤ 20) ∧ a3 < 0) ∨ ((0 ≤ a2 ∧ a2 ≤ 20) ∧ 0 ≤ a3 ∧ 20 < a3) ∨ ((0 ≤ a2 ∧ a2 ≤ 20) ∧ (0 ≤ a3 ∧ a3 ≤ 20)) := by omega
  rcases hq3 with q1 | ⟨q1, q2⟩ | ⟨⟨q1, q2⟩, q3⟩ | ⟨⟨q1, q2⟩, q3, q4⟩ | ⟨⟨q1, q2⟩, q3, q4⟩
  case inl | inr.inl | inr.inr.inl | inr.inr.inr.inl =>
    go_enter Try.func3, Try.ntmps3
    go_wp2_with fail
    refine (known_any _).mono ?_
    rintro e w1 ⟨rfl, hb⟩
    have HF := Lib.hid hb
    clear hb
    go_wp2
    go_ret
    exact ⟨rfl, HF.out⟩
  obtain ⟨n, rfl⟩ : ∃ k : Nat, a2 = k := ⟨a2.toNat, by omega⟩
  obtain ⟨m, rfl⟩ : ∃ k : Nat, a3 = k := ⟨a3.toNat, by omega⟩
  have hn : n ≤ 20 := by omega
  have hm : m ≤ 20 := by omega
  go_enter Try.func3, Try.ntmps3
  go_wp2_with fail
  refine (meets_any a0 a1 h2 h4 _).mono ?_
  rintro e w1 ⟨rfl, hb1⟩
  have HB1 := Lib.hid hb1
  clear hb1
  cases hmt : meetsB a0 a1 with
  | true =>
    clear hmt
    go_wp2_with fail
    refine (known_any _).mono ?_
    rintro e w2 ⟨rfl, hb⟩
    have HF : Hid (Below w.heap.size w w2) := Lib.hid (HB1.out.trans (hb.mono HB1.out.size))
    clear hb
    go_wp2
    go_ret
    exact ⟨rfl, HF.out⟩
  | false =>
    have HU := Lib.hid (unlike_of hmt)
    clear hmt
    go_wp2_with fail
    refine (meets_any a1 a0 h4 h2 _).mono ?_
    rintro e w2 ⟨rfl, hb2⟩
    have HB2 : Hid (Below w.heap.size w w2) := Lib.hid (HB1.out.trans (hb2.mono HB1.out.size))
    clear hb2 HB1
    cases hmt : meetsB a1 a0 with
    | true =>
      clear hmt
      go_wp2_with fail
      refine (known_any _).mono ?_
      rintro e w3 ⟨rfl, hb⟩
      have HF : Hid (Below w.heap.size w w3) := Lib.hid (HB2.out.trans (hb.mono HB2.out.size))
      clear hb
      go_wp2
      go_ret
      exact ⟨rfl, HF.out⟩
    | false =>
      clear hmt
      go_wp2_with fail
      refine (Dsk.new_ok ((Hold.start w).keeps HB2.out) 65536 (by omega)).mono ?_
      rintro e w3 ⟨_, rfl, b, rfl, h3⟩
      unfold ptr
      have H3 : Hid (Hold w ((DiskA b (kd [])).sep Asrt.emp) w3) := Lib.hid h3
      clear h3 HB2
      go_wp2_with fail
      refine (open_any H3.out kd_inv0 (by omega) (by show 65536 ≤ 1000000; omega) (pre := a0) h1 h2).mono ?_
      intro e w4 h4'
      unfold RetOpen at h4'
      rw [open_empty] at h4'
      rcases h4' with ⟨_, la, rfl, h4'⟩ | ⟨h4', _⟩
      case inr => exact absurd rfl h4'
      unfold ptr
      have H4 := Lib.hid h4'.up2
      clear h4' H3
      go_wp2_with fail
      refine (open_any H4.out kd_inv0 (by omega) (by show 65536 ≤ 1000000; omega) (pre := a1) h3 h4).mono ?_
      intro e w5 h5
      unfold RetOpen at h5
      rw [open_empty] at h5
      rcases h5 with ⟨_, lb, rfl, h5⟩ | ⟨h5, _⟩
      case inr => exact absurd rfl h5
      unfold ptr
      have HP : Hid (ARel w a0 a1 la lb b n 0 (.int .i64 0) w5) := Lib.hid ⟨0, kd [], Nat.zero_le _, rfl, as_zero _ _ kd_inv0 rfl rfl rfl (fun t => rfl), h5.perm (by ac_rfl)⟩
      clear h5 H4
      go_wp2_with fail
      go_loopw [15] (fun x wr => ARel w a0 a1 la lb b n 0 x wr) (fun x _ => n - (intOf x).toNat)
      case atStart => exact HP.out
      case round =>
        clear HP
        obtain ⟨k, d, hk, rfl, has, hH⟩ := hrel
        have HA := Lib.hid has
        by_cases hlt : k < n
        · obtain ⟨d2, e2, as2⟩ := as_a has HU.out h2 (by omega) (by omega)
          have HE2 := Lib.hid e2
          have HA2 := Lib.hid as2
          have H6 := Lib.hid (const_in hH (u8s [120]) 5 1 (by simp [u8s, maxLen]) rfl)
          clear e2 as2 has hH
          go_wp2_with fail
          refine (appendL_any H6.out (lgO_ok h2 (rep_ok [120] k (by simp) (by omega)) (by simp; omega)) (by show (List.replicate k _).length + 1 ≤ _; simp; omega) HA.out.inv (.slice (some ⟨wr.heap.size, 0, none⟩) 1 1) [120] Reads.ro (by decide)).mono ?_
          rintro e w7 ⟨rfl, h7⟩
          rw [HE2.out] at h7 ⊢
          have H7 := Lib.hid h7.up3.drop1
          clear h7 H6
          go_wp2
          go_roundw
          case rel => exact ⟨k + 1, d2, by omega, by go_num, HA2.out, H7.out⟩
          case measure => simp [intOf]; omega
        · obtain rfl : k = n := by omega
          have HP : Hid (BRel w a0 a1 la lb b k m (.int .i64 0) wr) := Lib.hid ⟨0, d, Nat.zero_le _, rfl, has, hH.perm (by ac_rfl)⟩
          clear has hH HA hlt
          go_wp2_with fail
          go_loopw [16] (fun x wr => BRel w a0 a1 la lb b k m x wr) (fun x _ => m - (intOf x).toNat)
          case atStart => exact HP.out
          case round =>
            clear HP
            obtain ⟨j, d, hj, rfl, has, hH⟩ := hrel
            have HA := Lib.hid has
            by_cases hlt : j < m
            · obtain ⟨d2, e2, as2⟩ := as_b has HU.out h4 (by omega) (by omega)
              have HE2 := Lib.hid e2
              have HA2 := Lib.hid as2
              have H6 := Lib.hid (const_in hH (u8s [121]) 5 1 (by simp [u8s, maxLen]) rfl)
              clear e2 as2 has hH
              go_wp2_with fail
              refine (appendL_any H6.out (lgO_ok h4 (rep_ok [121] j (by simp) (by omega)) (by simp; omega)) (by show (List.replicate j _).length + 1 ≤ _; simp; omega) HA.out.inv (.slice (some ⟨wr.heap.size, 0, none⟩) 1 1) [121] Reads.ro (by decide)).mono ?_
              rintro e w7 ⟨rfl, h7⟩
              rw [HE2.out] at h7 ⊢
              have H7 := Lib.hid h7.up3.drop1
              clear h7 H6
              go_wp2
              go_roundw
              case rel => exact ⟨j + 1, d2, by omega, by go_num, HA2.out, H7.out⟩
              case measure => simp [intOf]; omega
            · obtain rfl : j = m := by omega
              obtain ⟨g2, d2, d3, d4, d5, p1, p2, p3, p4, p5, p6, p7, p8, p9⟩ := as_end has HU.out h2 h4 (by omega) (by omega)
              have P1 := Lib.hid p1
              have P2 := Lib.hid p2
              have P3 := Lib.hid p3
              have P4 := Lib.hid p4
              have P5 := Lib.hid p5
              have P6 := Lib.hid p6
              have P7 := Lib.hid p7
              have P8 := Lib.hid p8
              have P9 := Lib.hid p9
              have H6 := Lib.hid (const_in (hH.perm (by ac_rfl) : Hold w ((LedgA la b (lgO a0 none (List.replicate k [120]))).sep ((DiskA b d).sep ((LedgA lb b (lgO a1 none (List.replicate j [121]))).sep Asrt.emp))) wr) (u8s [88]) 5 1 (by simp [u8s, maxLen]) rfl)
              clear p1 p2 p3 p4 p5 p6 p7 p8 p9 has hH hlt
              go_wp2_with fail
              refine (writeL_any H6.out (lgO_ok h2 (rep_ok [120] k (by simp) (by omega)) (by simp; omega)) HA.out.inv (by omega) k (by omega) (.slice (some ⟨wr.heap.size, 0, none⟩) 1 1) [88] Reads.ro (by decide)).mono ?_
              rintro e w7 ⟨rfl, h7⟩
              rw [P1.out] at h7 ⊢
              have H7 : Hid (Hold w ((LedgA lb b (lgO a1 none (List.replicate j [121]))).sep ((DiskA b d2).sep Asrt.emp)) w7) := Lib.hid (h7.drop1.up2.drop1.up2)
              clear h7 H6
              go_wp2_with fail
              refine (dropL_any H7.out (lgO_ok h4 (rep_ok [121] j (by simp) (by omega)) (by simp; omega)) P2.out (by omega)).mono ?_
              rintro e w8 ⟨rfl, h8⟩
              rw [P3.out] at h8 ⊢
              have H8 : Hid (Hold w ((DiskA b d3).sep Asrt.emp) w8) := Lib.hid h8.drop1
              clear h8 H7
              go_wp2_with fail
              refine (open_any H8.out P4.out (by omega) (by rw [P5.out]; omega) (pre := a0) h1 h2).mono ?_
              intro e w9 h9
              unfold RetOpen at h9
              rw [P6.out] at h9
              rcases h9 with ⟨_, lx, rfl, h9⟩ | ⟨h9, _⟩
              case inr => exact absurd rfl h9
              unfold ptr
              have H9 := Lib.hid h9.up2
              clear h9 H8
              go_wp2_with fail
              refine (open_any H9.out P7.out (by omega) (by rw [P8.out]; omega) (pre := a1) h3 h4).mono ?_
              intro e w10 h10
              unfold RetOpen at h10
              rw [P9.out] at h10
              rcases h10 with ⟨_, ly, rfl, h10⟩ | ⟨h10, _⟩
              case inr => exact absurd rfl h10
              unfold ptr
              have H10 := Lib.hid h10.up3
              clear h10 H9
              have HGx : Hid (GOk (lgO a0 (some (k, [88])) [])) := Lib.hid ⟨h2, by show k ≤ _; omega, by show 0 ≤ _; omega, by show 1 ≤ _; omega, fun q hq => by cases hq⟩
              have HGy : Hid (GOk (lgO a1 none [])) := Lib.hid ⟨h4, by show 0 ≤ _; omega, by show 0 ≤ _; omega, by show 0 ≤ _; omega, fun q hq => by cases hq⟩
              have Lx : Hid ((lgO a0 (some (k, [88])) []).last = k) := Lib.hid rfl
              have Ly : Hid ((lgO a1 none []).last = 0) := Lib.hid rfl
              go_wp2_with fail
              refine (last_any H10.out HGx.out).mono ?_
              rintro e w11 ⟨rfl, n11, rfl⟩
              rw [Lx.out]
              have H11 := Lib.hid (H10.out.keeps (below_drewN (Below.refl _ _) n11)).up2
              go_wp2_with fail
              refine (last_any H11.out HGy.out).mono ?_
              rintro e w12 ⟨rfl, n12, rfl⟩
              rw [Ly.out]
              go_wp2_with fail
              refine (known_any _).mono ?_
              rintro e w13 ⟨rfl, hb13⟩
              have HF : Hid (Below w.heap.size w w13) := Lib.hid (H10.out.old.trans ((below_drewN (Below.refl _ _) (n11 + n12)).trans hb13 |>.mono H10.out.old.size))
              clear hb13 H11 H10
              go_wp2
              go_ret
              exact ⟨rfl, HF.out⟩
end Go.Proofs.Ytkbfjgmgckbogaa.ledgerApart
