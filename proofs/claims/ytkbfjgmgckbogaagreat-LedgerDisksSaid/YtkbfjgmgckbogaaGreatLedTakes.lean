/-
  takes of chapter 5: a record is taken into a ledger.
-/
import Derived.Test.YtkbfjgmgckbogaaGreatF17
import Derived.Test.YtkbfjgmgckbogaaGreatStep
import Derived.Deep.RegionLaw
import Derived.Deep.DeepCutAuto
namespace Go.Proofs.YtkbfjgmgckbogaaGreat.Ld
open Go.RowKit L Oct Dsk Fr Kp
/-- bytes that were made become a row among rows -/
theorem inner_join {W0 w : World} {R : Asrt} {vs : List Value} {ls : List (List UInt8)} {v : Value} {l : List UInt8} (h : Hold W0 ((Row 5 1 v l.length (u8s l)).sep ((Inner vs ls).sep R)) w) : Hold W0 ((Inner (vs ++ [v]) (ls ++ [l])).sep R) w := by
  have hs := h.sl
  obtain ⟨h1, F, hF, F1, F2, h2, h3, ⟨ho, h4⟩, F3, F4, h5, h6, ⟨hl, hsl, hfp⟩, h9⟩ := h
  have hlow : ∀ i, i < ls.length → (vs ++ [v]).getD i undef = vs.getD i undef ∧ (ls ++ [l]).getD i [] = ls.getD i [] := by
    intro i hi
    simp [List.getD, List.getElem?_append_left hi, List.getElem?_append_left (show i < vs.length by omega)]
  have hnew : (vs ++ [v]).getD ls.length undef = v ∧ (ls ++ [l]).getD ls.length [] = l := by
    rw [← hl]
    simp [List.getD, hl]
  refine ⟨h1, fun k => (F3 k ∨ (v.ownBlock = some k ∧ 0 < l.length)) ∨ F4 k, ?_, fun k => F3 k ∨ (v.ownBlock = some k ∧ 0 < l.length), F4, fun k => Iff.rfl, ?_, ⟨by simp [hl], fun i hi => ?_, fun k => ?_⟩, h9⟩
  · rintro k ((hk | ⟨hk, _⟩) | hk)
    · exact hF k ((h2 k).2 (.inr ((h5 k).2 (.inl hk))))
    · exact hF k ((h2 k).2 (.inl ((h4 k).2 hk)))
    · exact hF k ((h2 k).2 (.inr ((h5 k).2 (.inr hk))))
  · rintro k (hk | ⟨hk, _⟩) hk4
    · exact h6 k hk hk4
    · exact h3 k ((h4 k).2 hk) ((h5 k).2 (.inr hk4))
  · by_cases hi2 : i < ls.length
    · rw [(hlow i hi2).1, (hlow i hi2).2]
      exact hsl i hi2
    · have : i = ls.length := by simp at hi; omega
      subst this
      rw [hnew.1, hnew.2]
      exact hs
  · constructor
    · rintro (hk | ⟨hk, hl0⟩)
      · obtain ⟨i, hi, hb2, hl2⟩ := (hfp k).1 hk
        exact ⟨i, by simp; omega, by rw [(hlow i hi).1]; exact hb2, by rw [(hlow i hi).2]; exact hl2⟩
      · exact ⟨ls.length, by simp, by rw [hnew.1]; exact hk, by rw [hnew.2]; exact hl0⟩
    · rintro ⟨i, hi, hb2, hl2⟩
      by_cases hi2 : i < ls.length
      · rw [(hlow i hi2).1] at hb2
        rw [(hlow i hi2).2] at hl2
        exact .inl ((hfp k).2 ⟨i, hi2, hb2, hl2⟩)
      · have : i = ls.length := by simp at hi; omega
        subst this
        rw [hnew.1] at hb2
        rw [hnew.2] at hl2
        exact .inr ⟨hb2, hl2⟩
section
variable {W0 w : World} {R : Asrt} {lb b tb : Nat} {g : Lg}
/-- an entry more stands in the ledger -/
theorem ent_put {dv ev v' vB : Value} {vs : List Value} {B : List UInt8} {n : Nat}
    (H : Hold W0 ((Row 22 1 v' n (vs ++ [vB])).sep ((Blk lb #[ptr b, .string g.pre, .int .i64 g.base, dv, ev, .bool g.dead] 71).sep ((Row 5 1 vB B.length (u8s B)).sep ((Inner vs g.ents).sep ((Row 5 1 dv g.data.length (u8s g.data)).sep R))))) w) (hn : n = g.ents.length + 1) :
    w.cell? ⟨lb, 4, none⟩ = some ev ∧ w.frozen? ⟨lb, 4, none⟩ = false ∧ Hold W0 ((LedgA lb b { g with ents := g.ents ++ [B] }).sep R) (w.setCell ⟨lb, 4, none⟩ v') := by
  subst hn
  refine ⟨blk_cell H.up2.blk 4, blk_free H.up2.blk 4, ?_⟩
  have h1 := H.up2.setB 4 v'
  have h2 : Hold W0 ((Row 5 1 vB B.length (u8s B)).sep ((Inner vs g.ents).sep ((Blk lb #[ptr b, .string g.pre, .int .i64 g.base, dv, v', .bool g.dead] 71).sep ((Row 5 1 dv g.data.length (u8s g.data)).sep ((Row 22 1 v' (g.ents.length + 1) (vs ++ [vB])).sep R))))) _ := h1.perm (by ac_rfl)
  have h3 := inner_join h2
  have e : g.ents.length + 1 = (g.ents ++ [B]).length := by simp
  rw [e] at h3
  exact led_shut (g := { g with ents := g.ents ++ [B] }) (h3.perm (by ac_rfl))
def RetTakes (W0 : World) (R : Asrt) (tb lb b : Nat) (y : Bool × Int × Lg) (e : Ending) (w' : World) : Prop :=
  e = .returned (.bool y.1) ∧ Hold W0 ((Blk tb #[ptr lb, .int .i64 y.2.1] 108).sep ((LedgA lb b y.2.2).sep R)) w'
set_option maxRecDepth 100000 in
set_option maxHeartbeats 3200000 in
theorem takes_any {last : Int} (H : Hold W0 ((Blk tb #[ptr lb, .int .i64 last] 108).sep ((LedgA lb b g).sep R)) w) (hg : GOk g) (hlast : -1 ≤ last ∧ last ≤ 4611686018427387904) (v : Value) (p : List UInt8) (hv : Sl w 1 v p.length (u8s p)) (hpl : p.length ≤ 1073741824) :
    Calls Tryz.prog 62 #[ptr tb, v] w (RetTakes W0 R tb lb b (takes last g p)) := by
  obtain ⟨hl1, hl2⟩ := hlast
  have HH := Lib.hid H
  have HG := Lib.hid hg
  have HV := Lib.hid hv
  have hll := recL_len p
  clear H hg hv
  unfold ptr
  go_enter Tryz.func62, Tryz.ntmps62
  go_wp2_with fail
  refine (newReader_any HH.out v p HV.out (by omega)).mono ?_
  rintro e w6 ⟨_, rfl, rb, rfl, h6⟩
  have H6 := Lib.hid h6
  clear h6 HH
  go_wp2_with fail
  refine (num_any H6.out (by omega)).mono ?_
  rintro e w7 ⟨rfl, h7⟩
  have H7 := Lib.hid h7
  clear h7 H6
  go_wp2_with fail
  refine (rbytes_any H7.out (by omega)).mono ?_
  rintro e w8 ⟨vB, rfl, h8⟩
  obtain ⟨ao8, cap8, rfl⟩ := (show Own w8 0 5 1 vB (recB p).length (u8s (recB p)) from h8.own).shape
  have H8 := Lib.hid h8
  have hRN : recN p = got 0 (dec 0 0 p) := rfl
  rw [← hRN]
  obtain ⟨N, hN⟩ : ∃ N, N = recN p := ⟨_, rfl⟩
  have hrw : Hid ((!((false || (dec 0 0 p).isNone) || (decRow (left (dec 0 0 p))).isNone) && (left (decRow (left (dec 0 0 p)))).isEmpty) = recW p) := Lib.hid (by simp [recW])
  have hN2 : N ≤ 4611686018427387904 := by rw [hN]; exact recN_le p
  rw [← hN]
  have HN := Lib.hid hN
  clear h8 H7 hRN hN hll hpl HV
  go_wp2_with fail
  refine (whole_any H8.out.up2).mono ?_
  rintro e w9 ⟨rfl, hw9⟩
  subst hw9
  rw [hrw.out]
  obtain ⟨B, hB⟩ : ∃ B, B = recB p := ⟨_, rfl⟩
  have HBB := Lib.hid hB
  have h8b : Hold W0 ((Row 5 1 (.slice ao8 (recB p).length cap8) (recB p).length (u8s (recB p))).sep ((Rd rb (left (decRow (left (dec 0 0 p)))) ((false || (dec 0 0 p).isNone) || (decRow (left (dec 0 0 p))).isNone)).sep ((Blk tb #[ptr lb, .int .i64 last] 108).sep ((LedgA lb b g).sep R)))) w8 := H8.out
  rw [← hB] at h8b
  rw [← hB]
  have H9 := Lib.hid h8b
  clear H8 hrw hB h8b
  have k1 := blk_cell H9.out.up3.blk 1
  cases hW : recW p with
  | false =>
    have he : Hid (takes last g p = (false, last, g)) := Lib.hid (by rw [takes, if_neg (fun h => by rw [hW] at h; cases h.1)])
    have HF := Lib.hid H9.out.drop1.drop1
    clear H9
    go_wp2
    go_ret
    rw [he.out]
    exact ⟨rfl, HF.out⟩
  | true =>
    have HW := Lib.hid hW
    clear hW
    by_cases hok : 1 ≤ N ∧ N ≤ 1099511627776 ∧ (0 ≤ last → (N : Int) = last + 1)
    · obtain ⟨hk1, hk2, hk3⟩ := hok
      have HT : Hid (takes last g p = if N ≤ g.base then (true, (N : Int), g) else if N = g.last + 1 then (true, (N : Int), { g with ents := g.ents ++ [B] }) else (false, (N : Int), g)) := Lib.hid (by
        rw [takes, if_pos ⟨HW.out, by rw [← HN.out]; exact hk1, by rw [← HN.out]; exact hk2, by rw [← HN.out]; exact hk3⟩, ← HN.out, ← HBB.out])
      have g1 : decide ((N : Int) < 1) = false := by simp; omega
      have g2 : decide ((1099511627776 : Int) < (N : Int)) = false := by simp; omega
      have f1 := blk_free H9.out.up3.blk 1
      have h10 := H9.out.up3.setB 1 (.int .i64 N)
      obtain ⟨w10, hw10⟩ : ∃ w10, w10 = w8.setCell ⟨tb, 1, none⟩ (.int .i64 N) := ⟨_, rfl⟩
      rw [← hw10] at h10
      have H10 : Hid (Hold W0 ((Blk tb #[ptr lb, .int .i64 N] 108).sep ((LedgA lb b g).sep ((Row 5 1 (.slice ao8 B.length cap8) B.length (u8s B)).sep ((Rd rb (left (decRow (left (dec 0 0 p)))) ((false || (dec 0 0 p).isNone) || (decRow (left (dec 0 0 p))).isNone)).sep R)))) w10) := Lib.hid (h10.perm (by ac_rfl))
      have c0 : w10.cell? ⟨tb, 0, none⟩ = some (.pointer (some ⟨lb, 0, none⟩)) := blk_cell H10.out.blk 0
      have hw10H := Lib.hid hw10
      have hcase : (0 ≤ last ∧ ((N : Int) != last + 1) = false) ∨ last < 0 := by
        by_cases h : 0 ≤ last
        · exact .inl ⟨h, by have := hk3 h; simp; omega⟩
        · exact .inr (by omega)
      obtain ⟨dv, ev, vs, h11⟩ := led_open H10.out.up2
      have c2 : w10.cell? ⟨lb, 2, none⟩ = some (.int .i64 g.base) := blk_cell h11.blk 2
      clear h11 h10 H9 hk1 hk2 hk3 hw10 HW HBB HN
      rcases hcase with ⟨h3, g4⟩ | h3
      case' inl => have g3 : decide ((0 : Int) ≤ last) = true := by simpa using h3
      case' inr => have g3 : decide ((0 : Int) ≤ last) = false := by simp; omega
      all_goals
        clear h3
        go_upto_region 6 with fail
        rw [← hw10H.out]
        clear k1 f1 g1 g2 g3
        by_cases hb : N ≤ g.base
        · have he := Lib.hid (HT.out.trans (if_pos hb))
          have g5 : decide (N ≤ g.base) = true := by simpa using hb
          have HF := Lib.hid H10.out.up3.drop1.up3.drop1
          clear hb
          go_wp2
          go_ret
          rw [he.out]
          exact ⟨rfl, HF.out⟩
        · have g5 : decide (N ≤ g.base) = false := by simpa using hb
          have hT2 := HT.out.trans (if_neg hb)
          have HT2 := Lib.hid hT2
          have hbb := HG.out.base
          have hln := HG.out.len
          clear hT2 HT hb
          go_wp2_with fail
          refine (last_any H10.out.up2 HG.out).mono ?_
          rintro e w12 ⟨rfl, n12, hw12⟩
          have H12 : Hid (Hold W0 ((Blk tb #[ptr lb, .int .i64 N] 108).sep ((LedgA lb b g).sep ((Row 5 1 (.slice ao8 B.length cap8) B.length (u8s B)).sep ((Rd rb (left (decRow (left (dec 0 0 p)))) ((false || (dec 0 0 p).isNone) || (decRow (left (dec 0 0 p))).isNone)).sep R)))) w12) := Lib.hid (by rw [hw12]; exact H10.out.keeps (below_drewN (Below.refl _ _) _))
          have hlst : g.last ≤ 1099512676352 := by unfold Lg.last; omega
          clear hw12 hw10H c0 c2 H10
          by_cases hq : N = g.last + 1
          · have he := Lib.hid (HT2.out.trans (if_pos hq))
            have g6 : ((N : Int) != (g.last : Int) + 1) = false := by simp; omega
            clear hq hbb
            obtain ⟨dv, ev, vs, h13⟩ := led_open H12.out.up2.drew
            have h13b : Hold W0 ((Rd rb (left (decRow (left (dec 0 0 p)))) ((false || (dec 0 0 p).isNone) || (decRow (left (dec 0 0 p))).isNone)).sep ((Blk tb #[ptr lb, .int .i64 N] 108).sep ((Row 22 1 ev g.ents.length vs).sep ((Blk lb #[ptr b, .string g.pre, .int .i64 g.base, dv, ev, .bool g.dead] 71).sep ((Row 5 1 (.slice ao8 B.length cap8) B.length (u8s B)).sep ((Inner vs g.ents).sep ((Row 5 1 dv g.data.length (u8s g.data)).sep R))))))) w12.drew := h13.perm (by ac_rfl)
            have d0 : w12.drew.cell? ⟨tb, 0, none⟩ = some (.pointer (some ⟨lb, 0, none⟩)) := blk_cell h13b.drop1.blk 0
            have h14 : Hold W0 ((Row 22 1 ev g.ents.length vs).sep ((Blk lb #[ptr b, .string g.pre, .int .i64 g.base, dv, ev, .bool g.dead] 71).sep ((Row 5 1 (.slice ao8 B.length cap8) B.length (u8s B)).sep ((Inner vs g.ents).sep ((Row 5 1 dv g.data.length (u8s g.data)).sep ((Blk tb #[ptr lb, .int .i64 N] 108).sep R)))))) w12.drew := h13b.drop1.perm (by ac_rfl)
            have d4 : w12.drew.cell? ⟨lb, 4, none⟩ = some ev := blk_cell h14.up2.blk 4
            have h15 := h14.addLit (.slice ao8 B.length cap8) 22
            have e0 : (w12.alloc (.cells #[.slice ao8 B.length cap8] 22)).drew.cell? ⟨tb, 0, none⟩ = some (.pointer (some ⟨lb, 0, none⟩)) := cell_on ((Below.refl w12.drew.heap.size w12.drew).alloc (Nat.le_refl _) (.cells #[.slice ao8 B.length cap8] 22)) d0
            have e4 : (w12.alloc (.cells #[.slice ao8 B.length cap8] 22)).drew.cell? ⟨lb, 4, none⟩ = some ev := cell_on ((Below.refl w12.drew.heap.size w12.drew).alloc (Nat.le_refl _) (.cells #[.slice ao8 B.length cap8] 22)) d4
            have hsl := h15.sl
            have H15 := Lib.hid h15.up2
            clear h13 h13b h14 h15 H12
            go_upto_region 10 with fail
            go_cut [] (fun wc => Hold W0 ((LedgA lb b { g with ents := g.ents ++ [B] }).sep ((Blk tb #[ptr lb, .int .i64 N] 108).sep R)) wc)
            case first =>
              go_region_law
                (first
                  | (refine step_app elR H15.out ?_ (.tmp 72) (.tmp 74) ?_ ?_ ?_ hsl (by simp [Value.oneCell']) (by omega) (by omega) ?_; (any_goals rfl); intro v16 ys16 w16 Y16 h16; rw [Y16.out] at h16; obtain ⟨ao16, cap16, rfl⟩ := h16.own.shape; have c0 : w16.cell? ⟨tb, 0, none⟩ = some (.pointer (some ⟨lb, 0, none⟩)) := blk_cell (h16.up2.drop1.drop1.drop1.drop1.drop1.drop1).blk 0; obtain ⟨c16, f16, h17⟩ := ent_put h16.up2.drop1 rfl; have H17 := Lib.hid h17; clear h16 h17)
                  | fail)
              all_goals
                go_wp2_with fail
                go_meet
                exact H17.out
            case rest =>
              have HF := Lib.hid hcut.up2
              clear hcut d0 d4 e0 e4 hsl H15
              go_wp2
              go_ret
              rw [he.out]
              exact ⟨rfl, HF.out⟩
          · have he := Lib.hid (HT2.out.trans (if_neg hq))
            have g6 : ((N : Int) != (g.last : Int) + 1) = true := by simp; omega
            have HF := Lib.hid H12.out.up3.drop1.up3.drop1
            clear hq hbb hln
            go_wp2
            go_ret
            rw [he.out]
            exact ⟨rfl, HF.out⟩
    · have he : Hid (takes last g p = (false, last, g)) := Lib.hid (by rw [takes, if_neg (fun h => hok (by rw [HN.out]; exact h.2))])
      have HF := Lib.hid H9.out.drop1.drop1
      have hcase : N < 1 ∨ (1 ≤ N ∧ 1099511627776 < N) ∨ (1 ≤ N ∧ N ≤ 1099511627776 ∧ 0 ≤ last ∧ (N : Int) ≠ last + 1) := by omega
      clear H9 hok
      rcases hcase with h1 | ⟨h1, h2⟩ | ⟨h1, h2, h3, h4⟩
      · have g1 : decide ((N : Int) < 1) = true := by simp; omega
        clear h1
        go_wp2
        go_ret
        rw [he.out]
        exact ⟨rfl, HF.out⟩
      · have g1 : decide ((N : Int) < 1) = false := by simp; omega
        have g2 : decide ((1099511627776 : Int) < (N : Int)) = true := by simp; omega
        clear h1 h2
        go_wp2
        go_ret
        rw [he.out]
        exact ⟨rfl, HF.out⟩
      · have g1 : decide ((N : Int) < 1) = false := by simp; omega
        have g2 : decide ((1099511627776 : Int) < (N : Int)) = false := by simp; omega
        have g3 : decide ((0 : Int) ≤ last) = true := by simpa using h3
        have g4 : ((N : Int) != last + 1) = true := by simpa using h4
        clear h1 h2 h4
        go_wp2
        go_ret
        rw [he.out]
        exact ⟨rfl, HF.out⟩
end
end Go.Proofs.YtkbfjgmgckbogaaGreat.Ld
