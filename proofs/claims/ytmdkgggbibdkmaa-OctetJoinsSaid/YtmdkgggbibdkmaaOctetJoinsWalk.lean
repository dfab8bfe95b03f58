/-
  The walk of the law OctetJoins: it answers true.
-/
import Derived.Test.YtmdkgggbibdkmaaRowsAt
import Derived.Test.YtmdkgggbibdkmaaOctetKnown
namespace Go.Proofs.Ytmdkgggbibdkmaa.octetJoins
open Go.RowKit L Oct
set_option maxRecDepth 100000 in
set_option maxHeartbeats 1600000 in
theorem walk {w : World} (v0 : Value) (l0 : List (List UInt8)) (h0 : SlRows w v0 l0) (_b0 : l0.length * 24 ≤ 140737488351232) (_c0 : ∀ x ∈ l0, x.length ≤ 140737488351232) (v1 : Value) (l1 : List (List UInt8)) (h1 : SlRows w v1 l1) (_b1 : l1.length * 24 ≤ 140737488351232) (_c1 : ∀ x ∈ l1, x.length ≤ 140737488351232) :
    Calls Try.prog 6 #[v0, v1] w fun e w' => e = .returned (.bool true) ∧ Below w.heap.size w w' := by
  clear _c0 _c1 _b0 _b1
  go_enter Try.func6, Try.ntmps6
  go_wp2_with fail
  refine (heavyRows_any v0 l0 w h0).mono ?_
  rintro e w1 ⟨b, rfl, rfl, hl0⟩
  cases b with
  | true => clear hl0; go_wp2; go_ret; exact ⟨rfl, Below.refl _ _⟩
  | false =>
  have hl0 := hl0 rfl
  unfold Light at hl0
  go_wp2_with fail
  refine (heavyRows_any v1 l1 w h1).mono ?_
  rintro e w1 ⟨b, rfl, rfl, hl1⟩
  cases b with
  | true => clear hl1; go_wp2; go_ret; exact ⟨rfl, Below.refl _ _⟩
  | false =>
  have hl1 := hl1 rfl
  unfold Light at hl1
  obtain ⟨F0, hF0⟩ : ∃ F, F = l0.flatten := ⟨_, rfl⟩
  obtain ⟨F1, hF1⟩ : ∃ F, F = l1.flatten := ⟨_, rfl⟩
  obtain ⟨F, hF⟩ : ∃ F, F = F0 ++ F1 := ⟨_, rfl⟩
  have hFl : F.length ≤ 8000 := by rw [hF, List.length_append, hF0, hF1]; omega
  have hF0l : F0.length ≤ 4000 := by rw [hF0]; omega
  have hF1l : F1.length ≤ 4000 := by rw [hF1]; omega
  have hn0 : l0.length ≤ 4000 := by omega
  have hn1 : l1.length ≤ 4000 := by omega
  have HF0 := Lib.hid hF0
  have HF1 := Lib.hid hF1
  have HF := Lib.hid hF
  clear hl0 hl1 hF0 hF1 hF
  -- all
  obtain ⟨vs0, hs0, hi0⟩ := h0
  obtain ⟨vs1, hs1, hi1⟩ := h1
  have hb0 := (Below.refl w.heap.size w).alloc (Nat.le_refl _) (.cells #[] 23)
  have hk0 : vs0.length = l0.length := by have := hs0.length; omega
  have hk1 : vs1.length = l1.length := by have := hs1.length; omega
  have ho0 := rows_ones hk0 hi0
  have ho1 := rows_ones hk1 hi1
  have Hi0 := Lib.hid hi0
  have Hi1 := Lib.hid hi1
  have Hk0 := Lib.hid hk0
  have Hk1 := Lib.hid hk1
  have Ho0 := Lib.hid ho0
  have Ho1 := Lib.hid ho1
  have H0 := (Hold.start w).addEmpty 23
  have hs0' := hs0.below' H0.old
  clear hi0 hi1 hk0 hk1 ho0 ho1
  go_wp2_with (first
    | (at_builtin; refine wpList_app (sx := .tmp 15) elR H0 rfl _ rfl rfl rfl hs0' Ho0.out (by omega) (by omega) ?_; intro v3 xs3 w3 X3 H3; have hs1' := hs1.below' H3.old)
    | (at_builtin; refine wpList_app (sx := .tmp 17) elR H3 rfl _ rfl rfl rfl hs1' Ho1.out (by omega) (by omega) ?_; intro v4 xs4 w4 X4 H4; obtain ⟨ho4, hb4⟩ := H4.fin))
  have r0 : SlRows w4 v0 l0 := ⟨vs0, hs0.below' hb4, fun i hi => (Hi0.out i hi).below' hb4⟩
  have r1 : SlRows w4 v1 l1 := ⟨vs1, hs1.below' hb4, fun i hi => (Hi1.out i hi).below' hb4⟩
  have ra : SlRows w4 v4 (l0 ++ l1) := rowsAppend (by have := ho4.sl; rw [X4.out, X3.out, List.nil_append, Nat.zero_add] at this; exact this) Hk0.out (fun i hi => (Hi0.out i hi).below' hb4) (fun i hi => (Hi1.out i hi).below' hb4)
  obtain ⟨la, hla⟩ : ∃ la, la = l0 ++ l1 := ⟨_, rfl⟩
  have hFa : la.flatten = F := by rw [hla, List.flatten_append, ← HF0.out, ← HF1.out, ← HF.out]
  have hlal : la.length ≤ 8000 := by rw [hla, List.length_append]; omega
  rw [← hla] at ra
  have HFa := Lib.hid hFa
  have hF01 : [F0, F1].flatten = F := by rw [HF.out]; simp
  have HF01 := Lib.hid hF01
  clear Hi0 Hi1 Ho0 Ho1 hs0 hs1 hs0' hs1' H0 H3 H4 ho4 X3 X4 hFa hF01 hb0 hla
  -- x
  refine (join_at r0 (by omega) (by rw [← HF0.out]; omega)).mono ?_
  rintro e w5 ⟨va, rfl, hoa, hb5⟩
  rw [← HF0.out] at hoa
  obtain ⟨pa, ca, rfl⟩ := hoa.sl.shape
  have r1 := r1.below' hb5
  have hb5w := hb4.trans (hb5.mono hb4.size)
  go_wp2_with fail
  refine (join_at r1 (by omega) (by rw [← HF1.out]; omega)).mono ?_
  rintro e w6 ⟨vb, rfl, hob, hb6⟩
  rw [← HF1.out] at hob
  obtain ⟨pb, cb, rfl⟩ := hob.sl.shape
  have hb6w := hb5w.trans (hb6.mono hb5w.size)
  have sa := hoa.sl.below' hb6
  have ra6 := ((ra.below' hb5).below' hb6)
  have r06 := ((r0.below' hb5).below' hb6)
  have r16 := r1.below' hb6
  go_wp2_with fail
  have rl := rowsLit2 23 sa hob.sl rfl
  obtain ⟨wa, hwa⟩ : ∃ wa, wa = w6.alloc (.cells #[.slice pa F0.length ca, .slice pb F1.length cb] 23) := ⟨_, rfl⟩
  have hba : Below w.heap.size w wa := by rw [hwa]; exact hb6w.alloc hb6w.size _
  have ra6 : SlRows wa v4 la := by rw [hwa]; exact rows_alloc ra6 _
  have r06 : SlRows wa v0 l0 := by rw [hwa]; exact rows_alloc r06 _
  have r16 : SlRows wa v1 l1 := by rw [hwa]; exact rows_alloc r16 _
  rw [← hwa] at rl ⊢
  clear hwa r0 r1 ra hoa hob sa
  refine (join_at rl (by simp) (by rw [HF01.out]; omega)).mono ?_
  rintro e w7 ⟨v6, rfl, ho6, hb7⟩
  rw [HF01.out] at ho6
  obtain ⟨p6, c6, rfl⟩ := ho6.sl.shape
  have ra7 := ra6.below' hb7
  clear rl
  go_wp2_with fail
  refine (join_at ra7 (by omega) (by rw [HFa.out]; omega)).mono ?_
  rintro e w8 ⟨v8, rfl, ho8, hb8⟩
  rw [HFa.out] at ho8
  go_wp2_with fail
  refine (same_any _ v8 F F _ (ho6.sl.below' hb8) ho8.sl).mono ?_
  rintro e w9 ⟨rfl, hb9⟩
  have e5 : decide (F = F) = true := by simp
  rw [e5]
  clear e5
  have hb79 := hb8.trans (hb9.mono hb8.size)
  have ra9 := ra7.below' hb79
  have ho9 := ho6.below hb79
  have hba9 : Below wa.heap.size wa w9 := hb7.trans (hb79.mono hb7.size)
  clear ho6 hb7 ra7 ho8 hb8 hb9 hb79
  go_wp2_with fail
  refine (sum_at ra9).mono ?_
  rintro e w10 ⟨he, rfl⟩
  rw [HFa.out] at he
  subst he
  go_wp2_with fail
  refine (sum_at (rowsLit1 23 ho9.sl rfl)).mono ?_
  rintro e w10 ⟨he, hw⟩
  rw [show [F].flatten = F from by simp] at he
  subst he
  have hb10 : Below w9.heap.size w9 w10 := by rw [← hw]; exact (Below.refl _ _).alloc (Nat.le_refl _) _
  have ra10 := ra9.below' hb10
  have ho10 := ho9.below hb10
  have hba10 : Below wa.heap.size wa w10 := hba9.trans (hb10.mono hba9.size)
  have hlen := ra10.run_len Try.underlying38
  clear hw ra9 ho9 hb10 hba9
  go_wp2
  go_loop [7, 8] (fun n i => ∃ k m : Nat, k ≤ la.length ∧ i = .int .i64 k ∧ n = .int .i64 m ∧ Hid (m = (la.take k).flatten.length) ∧ m ≤ 8000) (fun _ i => la.length - (intOf i).toNat)
  case atStart => exact ⟨0, 0, Nat.zero_le _, rfl, rfl, Lib.hid (by simp), by omega⟩
  case round =>
    obtain ⟨k, m, hk, rfl, rfl, Hm, hm8⟩ := hrel
    by_cases hlt : k < la.length
    · obtain ⟨A, u, l, hA, hblk, hc, Hl, hl⟩ := ra10.at (P := Try.prog) Try.underlying38 Try.size23 k hlt
      have hlen2 := hl.run_len Try.underlying23
      have hst := heavy_step hlt
      rw [← Hl.out, ← Hm.out] at hst
      have hle := flatten_take_le la (k + 1)
      rw [HFa.out] at hle
      have hml : m + l.length ≤ 8000 := by omega
      have Hst := Lib.hid hst
      clear hl hst hle
      go_wp2
      go_round
      case rel => exact ⟨k + 1, m + l.length, by omega, by go_num, by go_num, Lib.hid Hst.out.symm, hml⟩
      case measure => simp [intOf]; omega
    · obtain rfl : k = la.length := by omega
      rw [List.take_length, HFa.out] at Hm
      have hmF := Hm.out
      subst hmF
      go_wp2_with fail
      refine (spoilB ho10 hba10 (by omega)).mono ?_
      rintro e w11 ⟨rfl, hb11⟩
      have r0 := r06.below' hb11
      have r1 := r16.below' hb11
      have ra := ra6.below' hb11
      have hbw := hba.trans (hb11.mono hba.size)
      clear ho10 hba10 r06 r16 ra6 ra10 hlen
      go_wp2_with fail
      refine (join_at ra (by omega) (by rw [HFa.out]; omega)).mono ?_
      rintro e w12 ⟨v12, rfl, ho12, hb12⟩
      rw [HFa.out] at ho12
      have r0 := r0.below' hb12
      have r1 := r1.below' hb12
      have hbw := hbw.trans (hb12.mono hbw.size)
      go_wp2_with fail
      refine (join_at r0 (by omega) (by rw [← HF0.out]; omega)).mono ?_
      rintro e w13 ⟨v13, rfl, ho13, hb13⟩
      rw [← HF0.out] at ho13
      obtain ⟨p13, c13, rfl⟩ := ho13.sl.shape
      have r1 := r1.below' hb13
      have s12 := ho12.sl.below' hb13
      have hbw := hbw.trans (hb13.mono hbw.size)
      go_wp2_with fail
      refine (join_at r1 (by omega) (by rw [← HF1.out]; omega)).mono ?_
      rintro e w14 ⟨v14, rfl, ho14, hb14⟩
      rw [← HF1.out] at ho14
      obtain ⟨p14, c14, rfl⟩ := ho14.sl.shape
      have s12 := s12.below' hb14
      have s13 := ho13.sl.below' hb14
      have hbw := hbw.trans (hb14.mono hbw.size)
      go_wp2_with fail
      refine (join_at (rowsLit2 23 s13 ho14.sl rfl) (by simp) (by rw [HF01.out]; omega)).mono ?_
      rintro e w15 ⟨v15, rfl, ho15, hb15⟩
      rw [HF01.out] at ho15
      have s12 := (sl_alloc s12 _).below' hb15
      have hbw := (hbw.alloc hbw.size _).trans (hb15.mono (hbw.alloc hbw.size _).size)
      go_wp2_with fail
      refine (same_any v12 v15 F F _ s12 ho15.sl).mono ?_
      rintro e w16 ⟨rfl, hb16⟩
      have e5 : decide (F = F) = true := by simp
      rw [e5]
      clear e5
      have hbw := hbw.trans (hb16.mono hbw.size)
      go_wp2_with fail
      refine (known_any _).mono ?_
      rintro e w17 ⟨rfl, hb17⟩
      have Hbw := Lib.hid (hbw.trans (hb17.mono hbw.size))
      clear hbw hb17 hb16 hb15 hb14 hb13 hb12 hb11
      go_wp2
      go_ret
      exact ⟨rfl, Hbw.out⟩
end Go.Proofs.Ytmdkgggbibdkmaa.octetJoins
