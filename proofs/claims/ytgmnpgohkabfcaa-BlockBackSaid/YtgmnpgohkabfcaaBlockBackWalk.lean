/-
  'BlockBack' answers true: cells that are encoded are decoded as they were, and each is found by its key and number. Conditions: none beside what a row says of every argument.
-/
import Derived.Test.YtgmnpgohkabfcaaBlockLib
import Derived.Test.YtgmnpgohkabfcaaBlockYes
import Derived.Test.YtgmnpgohkabfcaaBlockBackPure
import Derived.Test.YtgmnpgohkabfcaaArgCells
namespace Go.Proofs.Ytgmnpgohkabfcaa.blockBack
open Go.RowKit L Oct Bl
def Rel (w : World) (l : List Cl) (v3 : Value) (i : Value) (wr : World) : Prop := ∃ k : Nat, k ≤ l.length ∧ k ≤ 30 ∧ i = .int .i64 k ∧ Below w.heap.size w wr ∧ Sl wr 1 v3 (encL l).length (u8s (encL l))
structure InS (w : World) (v3 : Value) (L : List UInt8) (w' : World) : Prop where
  below : Below w.heap.size w w'
  sl : Sl w' 1 v3 L.length (u8s L)
theorem InS.alloc {w : World} {v3 : Value} {L : List UInt8} (w' : World) (o : Obj) (h : InS w v3 L w') : InS w v3 L (w'.alloc o) := ⟨h.below.alloc h.below.size _, h.sl.below' (below_one _ _)⟩
theorem InS.drew {w : World} {v3 : Value} {L : List UInt8} (w' : World) (h : InS w v3 L w') : InS w v3 L w'.drew := ⟨h.below.drew, h.sl.drew⟩
theorem InS.set {w wr : World} {v3 : Value} {L : List UInt8} (hr : InS w v3 L wr) (w' : World) (b j : Nat) (u : Value) (h : InS w v3 L w') (hb : wr.heap.size ≤ b) : InS w v3 L (w'.setCell ⟨b, j, none⟩ u) := by
  refine ⟨h.below.setCell (by have := hr.below.size; show _ ≤ b; omega) u, ?_⟩
  by_cases hL : 0 < L.length * 1
  · refine h.sl.kept fun k hk => Below.heap_setCell _ _ _ _ fun e => ?_
    have := hr.sl.lt hL k hk
    have e : k = b := e
    omega
  · exact h.sl.none (by omega)
theorem bcell {W w1 : World} (hb : Below W.heap.size W w1) : (∀ b o, b < W.heap.size → w1.cell? ⟨b, o, none⟩ = W.cell? ⟨b, o, none⟩) ∧ (∀ b o, b < W.heap.size → w1.frozen? ⟨b, o, none⟩ = W.frozen? ⟨b, o, none⟩) :=
  ⟨fun b o h => hb.cell (p := ⟨b, o, none⟩) h, fun b o h => hb.frozen (p := ⟨b, o, none⟩) h⟩
def Cells4 (p : Nat) (a : Cl) (w' : World) : Prop := w'.cell? ⟨p, 0, none⟩ = some (.string a.key) ∧ w'.cell? ⟨p, 1, none⟩ = some (.string a.val) ∧ w'.cell? ⟨p, 2, none⟩ = some (.bool a.del) ∧ w'.cell? ⟨p, 3, none⟩ = some (.int .i64 a.seq)
theorem encL_le {l : List Cl} (h : riseN l = 0) (hl : l.length ≤ 201) (hw : weight l ≤ 6000) : (encL l).length ≤ 100000 := by
  have key : ∀ k, k ≤ l.length → (encUp l k).length ≤ weight (l.take k) + 46 * k := by
    intro k
    induction k with
    | zero => intro _; simp [encUp]
    | succ k ih =>
      intro hk
      have h1 := isC_key (riseN_all h (l.getD k default) (by rw [getD_get (show k < l.length by omega)]; exact List.getElem_mem _))
      have h2 := nAt_le l k
      have h3 := encC_length (nAt l k) (l.getD k default) (by omega) (by omega) (by omega)
      have h4 := weight_take l k (by omega)
      have := ih (by omega)
      rw [encUp, List.length_append]
      omega
  have := key l.length (Nat.le_refl _)
  rw [List.take_length] at this
  rw [encL]; omega
set_option maxRecDepth 1000000 in
set_option maxHeartbeats 3200000 in
theorem walk {w : World} (v0 : Value) (l0 : List Cl) (h0 : Sl w 4 v0 l0.length (cls l0)) (_b0 : l0.length * 48 ≤ 140737488351232) (i0 : ∀ c ∈ l0, CellIn c) :
    Calls Try.prog 5 #[v0] w fun e w' => e = .returned (.bool true) ∧ Below w.heap.size w w' := by
  have Hi := Lib.hid i0
  have hlen := h0.run_len Try.underlying22
  clear i0 _b0
  go_enter Try.func5, Try.ntmps5
  go_wp2_with fail
  refine (heavy_any v0 l0 w h0 fun c hc => ⟨(Hi.out c hc).1, (Hi.out c hc).2.1⟩).mono ?_
  rintro e w1 ⟨b, rfl, hhv, hb1⟩
  cases b with
  | true =>
    go_wp2
    go_ret
    exact ⟨rfl, hb1⟩
  | false =>
    obtain ⟨hwt, hl⟩ := hhv rfl
    clear hhv
    go_wp2_with fail
    refine (xrise_any v0 l0 _ (h0.below' hb1)).mono ?_
    rintro e w2 ⟨rfl, hb2⟩
    have b2 := hb1.trans (hb2.mono hb1.size)
    have h11 := riseN_small l0
    clear hb1 hb2
    by_cases hr : riseN l0 = 0
    · have hz : ((riseN l0 : Int) != 0) = false := by simp [hr]
      have hR : Hid (encR l0 = encL l0) := Lib.hid (by rw [encR, if_pos hr])
      have hle := encL_le hr hl hwt
      have Hr := Lib.hid hr
      have Hok : Hid (DecOk (encL l0) l0) := Lib.hid ⟨hr, rfl⟩
      clear hr
      go_wp2_with fail
      refine (encode_any v0 l0 _ (h0.below' b2) (by omega)).mono ?_
      rintro e w3 ⟨v3, rfl, ho3, hb3⟩
      rw [hR.out] at ho3
      have b3 := b2.trans (hb3.mono b2.size)
      have s3 := ho3.sl
      clear ho3 hb3 b2
      go_wp2_with fail
      refine (decode_any v3 (encL l0) _ s3 hle).mono ?_
      intro e w4 hr
      obtain ⟨v4, rfl, ho4, hb4⟩ := ret_yes Hok.out hr
      have b4 := b3.trans (hb4.mono b3.size)
      have s4 := s3.below' hb4
      have t4 := ho4.sl
      clear hr ho4 hb4 b3 s3
      go_wp2_with fail
      refine (cells_same _ _ l0 _ (h0.below' b4) t4).mono ?_
      rintro e w5 ⟨rfl, hd⟩
      have b5 := Lib.hid (b4.trans (hd.below.mono b4.size))
      have s5 := Lib.hid (s4.below' hd.below)
      clear b4 s4 t4 hd
      go_wp2
      go_loopw [7] (fun i wr => Rel w l0 v3 i wr) (fun i _ => l0.length - (intOf i).toNat)
      case atStart => exact ⟨0, Nat.zero_le _, Nat.zero_le _, rfl, b5.out, s5.out⟩
      case round =>
        clear b5 s5
        obtain ⟨k, hk, hk30, rfl, hB, hS⟩ := hrel
        by_cases hgo : k < l0.length ∧ k < 30
        · obtain ⟨hlt, hlt3⟩ := hgo
          have g1 : decide ((k : Int) < 30) = true := by simp; omega
          obtain ⟨A, c, hA, _, hcells, Hc⟩ := h0.atCl (P := Try.prog) Try.underlying22 Try.size36 k _ rfl hlt
          have hcw := hcells.below' hB
          have hback : Hid (seekC l0 c.key c.seq = (c, true)) := Lib.hid (by rw [Hc.out]; exact seek_back Hr.out hlt)
          have c0 := hcw.key
          have c3 := hcw.seq
          have h01 : (0 : Int) ≤ (k : Int) := by omega
          have h02 : (k : Int) < (l0.length : Int) := by omega
          clear hcw
          have hIn : InS w v3 (encL l0) wr := ⟨hB, hS⟩
          have hA' := fun (w' : World) (o : Obj) => InS.alloc (w := w) (v3 := v3) (L := encL l0) w' o
          have hDr := fun (w' : World) => InS.drew (w := w) (v3 := v3) (L := encL l0) w'
          have hSet := fun (w' : World) (b j : Nat) (u : Value) => InS.set hIn w' b j u
          have m0 := World.new_ne wr _ c0
          have m3 := World.new_ne wr _ c3
          go_upto_region 10 with fail
          go_cut [8, 9, 10] (fun s8 s9 s10 wc => ∃ b8 : Nat, s8 = .pointer (some ⟨b8, 0, none⟩) ∧ s9 = .bool true ∧ s10 = .int .i64 0 ∧ InS w v3 (encL l0) wc ∧ Cells4 b8 c wc)
          case first =>
            go_region_held3 (fun w' => InS w v3 (encL l0) w' ∧ w'.cell? A = some (.string c.key) ∧ w'.cell? ⟨A.block, A.off + 3, none⟩ = some (.int .i64 c.seq)) (first | (refine ⟨hSet _ _ _ _ (hSet _ _ _ _ (hSet _ _ _ _ (hSet _ _ _ _ hIn6 (Nat.le_refl _)) (Nat.le_refl _)) (Nat.le_refl _)) (Nat.le_refl _), ?_, ?_⟩ <;> go_keep) | go_keep)
              (first | (go_at_call 16; refine (seek_any v3 (encL l0) c.key c.seq _ (InS.sl (And.left (by assumption))) hle).mono ?_; intro e w6 hr; obtain ⟨rfl, hb6⟩ := seek_yes Hok.out hr; rw [hback.out, Cl.agg]; have hIn6 : InS w v3 (encL l0) w6 := ⟨(InS.below (And.left (by assumption))).trans (hb6.mono (InS.below (And.left (by assumption))).size), (InS.sl (And.left (by assumption))).below' hb6⟩; have hcw := hcells.below' hIn6.below; have d0 := hcw.key; have d3 := hcw.seq; have n0 := World.new_ne w6 _ d0; have n3 := World.new_ne w6 _ d3; have hsz6 : wr.heap.size ≤ w6.heap.size := Nat.le_trans (by simp) hb6.size; obtain ⟨hcl, hfr⟩ := bcell hb6; clear hr hb6 hcw))
            all_goals
              go_wp2_with fail
              go_meet
              refine ⟨_, rfl, rfl, rfl, And.left (by assumption), ?_⟩
              refine ⟨?_, ?_, ?_, ?_⟩ <;> simp [go_sem, *]
          case rest =>
            obtain ⟨b8, rfl, rfl, rfl, hInc, ⟨e0, e1, e2, e3⟩⟩ := hcut
            obtain ⟨d0, d1, d2, d3⟩ := hcells.below' hInc.below
            have hq := fun w' : World => run_neC c c w'
            simp only [eqC_self, Cl.agg, Bool.not_true] at hq
            clear hA' hDr hSet m0 m3 hIn c0 c3
            go_wp2_with fail
            go_quiet (fail)
            go_wp2
            go_roundw
            case rel => exact ⟨k + 1, by omega, by omega, by go_num, hInc.below.trans (below_drewN (Below.refl _ _) _) , hInc.sl⟩
            case measure => simp [intOf]; omega
        · have HB := Lib.hid hB
          clear hS hB
          by_cases hlt : k < l0.length
          · have g1 : decide ((k : Int) < 30) = false := by simp; omega
            clear hgo
            go_wp2_with fail
            refine (known_any _).mono ?_
            rintro e w6 ⟨rfl, hb6⟩
            have HF := Lib.hid (HB.out.trans (hb6.mono HB.out.size))
            clear hb6
            go_wp2
            go_ret
            exact ⟨rfl, HF.out⟩
          · clear hgo
            go_wp2_with fail
            refine (known_any _).mono ?_
            rintro e w6 ⟨rfl, hb6⟩
            have HF := Lib.hid (HB.out.trans (hb6.mono HB.out.size))
            clear hb6
            go_wp2
            go_ret
            exact ⟨rfl, HF.out⟩
    · have hz : ((riseN l0 : Int) != 0) = true := by simp [hr]
      clear hr
      go_wp2
      go_ret
      exact ⟨rfl, b2⟩
end Go.Proofs.Ytgmnpgohkabfcaa.blockBack
