/-
  What the laws of chapter 7 share: heavy, cells, known.
-/
import Derived.Test.YtgmnpgohkabfcaaBlockXSeek
import Derived.Test.YtgmnpgohkabfcaaCellEq
import Derived.Test.YtgmnpgohkabfcaaBlockEncPure
namespace Go.Proofs.Ytgmnpgohkabfcaa.Bl
open Go.RowKit L Oct
def HeavyRel (w : World) (l : List Cl) (n i : Value) (wr : World) : Prop := ∃ k : Nat, k ≤ l.length ∧ k ≤ 201 ∧ i = .int .i64 k ∧ n = .int .i64 (weight (l.take k)) ∧ weight (l.take k) ≤ 6000 ∧ Drew w wr
def RetHeavy (w : World) (l : List Cl) (e : Ending) (w' : World) : Prop := ∃ b, e = .returned (.bool b) ∧ (b = false → weight l ≤ 6000 ∧ l.length ≤ 201) ∧ Below w.heap.size w w'
set_option maxRecDepth 100000 in
set_option maxHeartbeats 1600000 in
theorem heavy_any (v : Value) (l : List Cl) (w : World) (h : Sl w 4 v l.length (cls l)) (hs : ∀ c ∈ l, c.key.size ≤ 140737488351232 ∧ c.val.size ≤ 140737488351232) : Calls Try.prog 10 #[v] w (RetHeavy w l) := by
  have hlen := h.run_len Try.underlying22
  have hmx := h.le'
  have Hs := Lib.hid hs
  clear hs
  go_enter Try.func10, Try.ntmps10
  go_wp2
  go_loopw [3, 4] (fun n i wr => HeavyRel w l n i wr) (fun _ i _ => l.length - (intOf i).toNat)
  case atStart => exact ⟨0, Nat.zero_le _, Nat.zero_le _, rfl, rfl, Nat.zero_le _, Drew.refl _⟩
  case round =>
    obtain ⟨k, hk, hk2, rfl, rfl, hw, hd⟩ := hrel
    by_cases hlt : k < l.length
    · obtain ⟨A, c, hA, _, hcells, Hc⟩ := (h.below' hd.below).atCl (P := Try.prog) Try.underlying22 Try.size36 k _ rfl hlt
      have hcs := Hs.out c (by rw [Hc.out, getD_get hlt]; exact List.getElem_mem hlt)
      have hwt := weight_take l k hlt
      rw [← Hc.out] at hwt
      obtain ⟨n, hn⟩ : ∃ n, n = weight (l.take k) := ⟨_, rfl⟩
      rw [← hn] at hw hwt ⊢
      have Hw := Lib.hid hwt
      have c0 := hcells.key
      have c1 := hcells.val
      have h01 : (0 : Int) ≤ (k : Int) := by omega
      have h02 : (k : Int) < (l.length : Int) := by omega
      have a1 : IntKind.i64.wrap ((n : Int) + 1) = (n : Int) + 1 := IntWalk.i64_in _ (by omega)
      have a2 : IntKind.i64.wrap ((n : Int) + 1 + (c.key.size : Int)) = (n : Int) + 1 + (c.key.size : Int) := IntWalk.i64_in _ (by omega)
      have a3 : IntKind.i64.wrap ((n : Int) + 1 + (c.key.size : Int) + (c.val.size : Int)) = (n : Int) + 1 + (c.key.size : Int) + (c.val.size : Int) := IntWalk.i64_in _ (by omega)
      clear hwt hn
      go_wp2_with fail
      go_quiet (fail)
      clear a1 a2 a3
      by_cases h1 : 6000 < n + 1 + c.key.size + c.val.size
      · have g1 : decide ((6000 : Int) < (n : Int) + 1 + (c.key.size : Int) + (c.val.size : Int)) = true := by simp; omega
        go_wp2
        go_ret
        exact ⟨_, rfl, fun h => by simp at h, (hd.drewN _).below⟩
      · have g1 : decide ((6000 : Int) < (n : Int) + 1 + (c.key.size : Int) + (c.val.size : Int)) = false := by simp; omega
        by_cases h2 : 200 < k
        · have g2 : decide ((200 : Int) < (k : Int)) = true := by simp; omega
          go_wp2
          go_ret
          exact ⟨_, rfl, fun h => by simp at h, (hd.drewN _).below⟩
        · have g2 : decide ((200 : Int) < (k : Int)) = false := by simp; omega
          go_wp2
          go_roundw
          case rel => exact ⟨k + 1, by omega, by omega, by go_num, by rw [Hw.out]; go_num, by rw [Hw.out]; omega, hd.drewN _⟩
          case measure => simp [intOf]; omega
    · obtain rfl : k = l.length := by omega
      rw [List.take_length] at hw
      go_wp2
      go_ret
      exact ⟨_, rfl, fun _ => ⟨hw, hk2⟩, hd.below⟩
def CellsRel (w : World) (l : List Cl) (i : Value) (wr : World) : Prop := ∃ k : Nat, k ≤ l.length ∧ i = .int .i64 k ∧ Drew w wr
set_option maxRecDepth 100000 in
set_option maxHeartbeats 1600000 in
theorem cells_same (va vb : Value) (l : List Cl) (w : World) (ha : Sl w 4 va l.length (cls l)) (hb : Sl w 4 vb l.length (cls l)) : Calls Try.prog 18 #[va, vb] w fun e w' => e = .returned (.bool true) ∧ Drew w w' := by
  have hlen := ha.run_len Try.underlying22
  have hlen2 := hb.run_len Try.underlying22
  have hmx := ha.le'
  have hne : ((l.length : Int) != (l.length : Int)) = false := by simp
  go_enter Try.func18, Try.ntmps18
  go_wp2
  go_loopw [5] (fun i wr => CellsRel w l i wr) (fun i _ => l.length - (intOf i).toNat)
  case atStart => exact ⟨0, Nat.zero_le _, rfl, Drew.refl _⟩
  case round =>
    obtain ⟨k, hk, rfl, hd⟩ := hrel
    by_cases hlt : k < l.length
    · obtain ⟨A, c, hA, _, hcells, Hc⟩ := (ha.below' hd.below).atCl (P := Try.prog) Try.underlying22 Try.size36 k _ rfl hlt
      obtain ⟨A', c', hA', _, hcells', Hc'⟩ := (hb.below' hd.below).atCl (P := Try.prog) Try.underlying22 Try.size36 k _ rfl hlt
      obtain rfl : c = c' := by rw [Hc.out, Hc'.out]
      obtain ⟨c0, c1, c2, c3⟩ := hcells
      obtain ⟨d0, d1, d2, d3⟩ := hcells'
      have h01 : (0 : Int) ≤ (k : Int) := by omega
      have h02 : (k : Int) < (l.length : Int) := by omega
      have hq := fun w' : World => run_neC c c w'
      simp only [eqC_self, Cl.agg, Bool.not_true] at hq
      go_wp2_with fail
      go_quiet (fail)
      go_wp2
      go_roundw
      case rel => exact ⟨k + 1, by omega, by go_num, hd.drewN _⟩
      case measure => simp [intOf]; omega
    · go_wp2
      go_ret
      exact ⟨rfl, hd⟩
def kl : List Cl := [⟨⟨#[97, 98]⟩, ⟨#[120]⟩, false, 1⟩, ⟨⟨#[97, 99]⟩, ⟨#[]⟩, true, 2⟩]
theorem kl_rise : riseN kl = 0 := by decide +kernel
theorem kl_seek : seekC kl ⟨#[97, 99]⟩ 5 = (⟨⟨#[97, 99]⟩, ⟨#[]⟩, true, 2⟩, true) := by
  refine seekC_at (k := 1) (by decide) (fun j hj => ?_) (by decide +kernel)
  obtain rfl : j = 0 := by omega
  decide +kernel
theorem kl_all : ∀ c ∈ kl, isC c = true := riseN_all kl_rise
theorem kl_ok : DecOk (encL kl) kl := ⟨kl_rise, rfl⟩
theorem encL_pos {l : List Cl} (h : 0 < l.length) : 0 < (encL l).length := by
  obtain ⟨t, ht⟩ := encUp_tail l (l.length - 1) 1 (by omega)
  have := encC_pos (nAt l 0) (l.getD 0 default)
  rw [encL, ht, List.length_append, encUp, List.length_append]
  omega
set_option maxRecDepth 100000 in
set_option maxHeartbeats 1600000 in
theorem known_any (w : World) : Calls Try.prog 13 #[] w fun e w' => e = .returned (.bool true) ∧ Below w.heap.size w w' := by
  have hs := sl_builtC w kl 36 (by simp [kl, maxLen]) (b := w.heap.size) rfl
  go_enter Try.func13, Try.ntmps13
  go_wp2_with fail
  refine (encode_any _ kl _ hs (by simp [kl])).mono ?_
  rintro e w1 ⟨v1, rfl, ho1, hb1⟩
  have hR : encR kl = encL kl := by rw [encR, if_pos kl_rise]
  rw [hR] at ho1
  rw [kl_rise]
  have hpos := encL_pos (l := kl) (by simp [kl])
  have hle : (encL kl).length ≤ 100000 := Nat.le_trans (encUp_length kl kl_all 2 (by simp [kl])) (by decide)
  have s1 := ho1.sl
  have hb0 := Lib.hid ((below_one w (.cells (cls kl).toArray 36)).trans (hb1.mono (below_one w (.cells (cls kl).toArray 36)).size))
  obtain ⟨B, hB⟩ : ∃ B, B = encL kl := ⟨_, rfl⟩
  rw [← hB] at s1 hpos hle
  have HB := Lib.hid hB
  have hlen := s1.run_len Try.underlying24
  clear ho1 hb1 hs hR hB
  go_wp2_with fail
  refine (seek_any v1 B ⟨#[97, 99]⟩ 5 _ s1 hle).mono ?_
  rintro e w2 ⟨hb2, ⟨l, hok, rfl⟩ | ⟨hno, rfl⟩⟩
  · obtain rfl : l = kl := decOk_one hok (by rw [HB.out]; exact kl_ok)
    rw [kl_seek]
    have HH := Lib.hid (hb0.out.trans (hb2.mono hb0.out.size))
    have hg : decide ((0 : Int) < (B.length : Int)) = true := by simp; omega
    have hg' : decide (0 < B.length) = true := by simp; omega
    have hq := fun w' : World => run_eqC ⟨⟨#[97, 99]⟩, ⟨#[]⟩, true, 2⟩ ⟨⟨#[97, 99]⟩, ⟨#[]⟩, true, 2⟩ w'
    simp only [eqC_self, Cl.agg] at hq
    clear hb2 hok s1 hle hpos
    rw [Cl.agg]
    go_wp2
    go_ret
    exact ⟨rfl, HH.out.alloc HH.out.size _⟩
  · exact (hno kl (by rw [HB.out]; exact kl_ok)).elim
end Go.Proofs.Ytgmnpgohkabfcaa.Bl
