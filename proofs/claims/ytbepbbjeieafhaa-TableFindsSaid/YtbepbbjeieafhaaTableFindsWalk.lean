/-
  'TableFinds' answers true: of a table of any cells what any key has at any number, and all cells of any keys. Conditions: none beside what a row says of every argument.
-/
import Derived.Test.YtbepbbjeieafhaaM8
import Derived.Deep.RegionHeld3
import Derived.Deep.DrawnRows
namespace Go.Proofs.Ytbepbbjeieafhaa.tableFinds
open Go.RowKit L Oct Bl Tb Fr
structure InF (w : World) (tb b1 b2 : Nat) (l : List Cl) (x : Cl) (w' : World) : Prop where
  hold : ∃ R, Hold w ((Tab tb l).sep ((Blk b2 #[.string x.key, .string x.val, .bool x.del, .int .i64 x.seq] 39).sep ((Blk b1 #[.string x.key, .string x.val, .bool x.del, .int .i64 x.seq] 39).sep R))) w'
def InFS (w : World) (tb b1 b2 : Nat) (l : List Cl) (x : Cl) (A0 A1 : Addr) (c0 c1 : Cl) (w' : World) : Prop := InF w tb b1 b2 l x w' ∧
  (w'.cell? ⟨b1, 0, none⟩ = some (.string x.key) ∧ w'.cell? ⟨b1, 1, none⟩ = some (.string x.val) ∧ w'.cell? ⟨b1, 2, none⟩ = some (.bool x.del) ∧ w'.cell? ⟨b1, 3, none⟩ = some (.int .i64 x.seq)) ∧
  (w'.cell? ⟨b2, 0, none⟩ = some (.string x.key) ∧ w'.cell? ⟨b2, 1, none⟩ = some (.string x.val) ∧ w'.cell? ⟨b2, 2, none⟩ = some (.bool x.del) ∧ w'.cell? ⟨b2, 3, none⟩ = some (.int .i64 x.seq)) ∧
  w'.cell? A0 = some (.string c0.key) ∧ w'.cell? A1 = some (.string c1.key)
section
variable {w w1 w' : World} {tb b1 b2 : Nat} {l : List Cl} {x : Cl} {A0 A1 : Addr} {c0 c1 : Cl}
theorem inF_all (h : InF w tb b1 b2 l x w') (h0 : w'.cell? A0 = some (.string c0.key)) (h1 : w'.cell? A1 = some (.string c1.key)) : InFS w tb b1 b2 l x A0 A1 c0 c1 w' := by
  have hh := h
  obtain ⟨R, H⟩ := h.hold
  exact ⟨hh, ⟨blk_cell H.up3.blk 0, blk_cell H.up3.blk 1, blk_cell H.up3.blk 2, blk_cell H.up3.blk 3⟩, ⟨blk_cell H.up2.blk 0, blk_cell H.up2.blk 1, blk_cell H.up2.blk 2, blk_cell H.up2.blk 3⟩, h0, h1⟩
theorem inF_next (hb : Below w1.heap.size w1 w') (h : InFS w tb b1 b2 l x A0 A1 c0 c1 w1) : InFS w tb b1 b2 l x A0 A1 c0 c1 w' := by
  obtain ⟨R, H⟩ := h.1.hold
  exact inF_all ⟨⟨R, H.keeps hb⟩⟩ (cell_next hb h.2.2.2.1) (cell_next hb h.2.2.2.2)
theorem inF_old (h : InF w tb b1 b2 l x w') : Below w.heap.size w w' := by
  obtain ⟨R, H⟩ := h.hold
  exact H.old
theorem scanIn (h : InF w tb b1 b2 l x w') (hl : l.length ≤ 1000000) (a b : ByteArray) : Calls Try.prog 20 #[.pointer (some ⟨tb, 0, none⟩), .string a, .string b] w' (RetScan w' l a b) := by
  obtain ⟨R, H⟩ := h.hold
  exact scan_any H hl a b
theorem last_in (h : InF w tb b1 b2 l x w') (hl : 0 < l.length) : Calls Try.prog 26 #[.pointer (some ⟨tb, 0, none⟩)] w' fun e w'' => e = .returned (.string (l.getD (l.length - 1) default).key) ∧ Below w'.heap.size w' w'' := by
  obtain ⟨R, H⟩ := h.hold
  exact last8_any H hl
theorem first_in (h : InF w tb b1 b2 l x w') (hl : 0 < l.length) : Calls Try.prog 25 #[.pointer (some ⟨tb, 0, none⟩)] w' fun e w'' => e = .returned (.string (l.getD 0 default).key) ∧ w' = w'' := by
  obtain ⟨R, H⟩ := h.hold
  exact first8_any H hl
theorem len_in (h : InF w tb b1 b2 l x w') : Calls Try.prog 21 #[.pointer (some ⟨tb, 0, none⟩)] w' fun e w'' => e = .returned (.int .i64 l.length) ∧ w' = w'' := by
  obtain ⟨R, H⟩ := h.hold
  exact len_any H
end
set_option maxRecDepth 1000000 in
set_option maxHeartbeats 6400000 in
theorem walk {w : World} (v0 : Value) (l0 : List Cl) (h0 : Sl w 4 v0 l0.length (cls l0)) (_b0 : l0.length * 48 ≤ 140737488351232) (i0 : ∀ c ∈ l0, CellIn c) (a1 : ByteArray) (_w1 : a1.size ≤ 140737488351232) (a2 : Int) (_w2 : (Lit.int .i64 a2).wf = true) (a3 : ByteArray) (_w3 : a3.size ≤ 140737488351232) :
    Calls Try.prog 7 #[v0, .string a1, .int .i64 a2, .string a3] w fun e w' => e = .returned (.bool true) ∧ Below w.heap.size w w' := by
  have Hi := Lib.hid i0
  have hlen0 := h0.run_len Try.underlying22
  clear i0
  go_enter Try.func7, Try.ntmps7
  go_wp2_with fail
  refine (heavy_any v0 l0 w h0 fun c hc => ⟨(Hi.out c hc).1, (Hi.out c hc).2.1⟩).mono ?_
  rintro e w1 ⟨b, rfl, hhv, hb1⟩
  cases b with
  | true =>
    go_wp2
    go_ret
    exact ⟨rfl, hb1⟩
  | false =>
    obtain ⟨hwt, hl⟩ := hhv rfl
    clear hhv
    go_wp2_with fail
    refine (xrise_any v0 l0 _ (h0.below' hb1)).mono ?_
    rintro e w2 ⟨rfl, hb2⟩
    have b2 := hb1.trans (hb2.mono hb1.size)
    clear hb1 hb2
    by_cases hr : riseN l0 = 0
    case neg =>
      have hz : ((riseN l0 : Int) != 0) = true := by simp [hr]
      clear hr
      go_wp2
      go_ret
      exact ⟨rfl, b2⟩
    have hz : ((riseN l0 : Int) != 0) = false := by simp [hr]
    have Hr := Lib.hid hr
    clear hr
    by_cases hl1 : l0.length = 0
    · have g1 : ((l0.length : Int) == 0) = true := by simp [hl1]
      clear hl1
      go_wp2
      go_ret
      exact ⟨rfl, b2⟩
    have g1 : ((l0.length : Int) == 0) = false := by rw [beq_eq_false_iff_ne]; omega
    have HB : Hid (buildN l0 = 0) := Lib.hid (by rw [buildN, if_neg (by omega)]; exact Hr.out)
    have hln := build_len2 HB.out hwt hl
    by_cases hk : 200 < a1.size + a3.size
    · have g2 : decide ((200 : Int) < (a1.size : Int) + (a3.size : Int)) = true := by simp; omega
      clear hln hl1
      go_wp2
      go_ret
      exact ⟨rfl, b2⟩
    have g2 : decide ((200 : Int) < (a1.size : Int) + (a3.size : Int)) = false := by simp; omega
    go_wp2_with fail
    refine (build_any v0 l0 _ (h0.below' b2) (fun _ => by omega)).mono ?_
    rintro e w3 ⟨v3, rfl, ho3, hb3⟩
    rw [HB.out]
    have H3 := Lib.hid (((Hold.start w).keeps b2).addRow hb3 ho3)
    have HK := Lib.hid (open_ok HB.out)
    have hBl : (buildR l0).length ≤ 40000 := by omega
    clear ho3 hb3 b2 g1 g2 hz
    go_wp2_with fail
    refine (open_any v3 (buildR l0) _ H3.out.sl hBl).mono ?_
    rintro e w4 h4
    obtain ⟨tb, rfl, hT⟩ := open_yes HK.out hBl h4
    have H4 := Lib.hid (Hold.assoc.1 (Hold.onto H3.out hT))
    have hks : a1.size ≤ 200 := by omega
    clear hT h4 H3 HK hBl hln hk
    go_wp2_with fail
    refine (get_any H4.out (by omega) (riseN_rises Hr.out) a1 (by omega) a2).mono ?_
    rintro e w6 ⟨rfl, hb6⟩
    obtain ⟨x, hx⟩ : ∃ x, x = (seekC l0 a1 a2).1 := ⟨_, rfl⟩
    obtain ⟨ok, hok⟩ : ∃ ok, ok = (seekC l0 a1 a2).2 := ⟨_, rfl⟩
    rw [← hx, ← hok, Cl.agg]
    have HX := Lib.hid hx
    have HOK := Lib.hid hok
    have H7 := Lib.hid ((H4.out.keeps hb6).addBlk (cs := #[.string x.key, .string x.val, .bool x.del, .int .i64 x.seq]) (t := 39) (b := w6.heap.size) rfl)
    clear hx hok hb6 H4
    go_upto_region 8 with fail
    obtain ⟨b13, hb13⟩ : ∃ b13, b13 = w6.heap.size := ⟨_, rfl⟩
    obtain ⟨w7, hw7⟩ : ∃ w7, w7 = w6.alloc (.cells #[.string x.key, .string x.val, .bool x.del, .int .i64 x.seq] 39) := ⟨_, rfl⟩
    rw [← hb13, ← hw7] at H7
    rw [← hb13, ← hw7]
    clear hb13 hw7
    go_wp2_with fail
    refine (first_any v0 l0 a1 a2 _ (h0.below' H7.out.old)).mono ?_
    rintro e w8 ⟨rfl, hb8⟩
    rw [← HX.out, ← HOK.out, Cl.agg]
    have H9 := Lib.hid ((H7.out.keeps hb8).addBlk (cs := #[.string x.key, .string x.val, .bool x.del, .int .i64 x.seq]) (t := 39) (b := w8.heap.size) rfl)
    clear hb8 H7
    go_upto_region 9 with fail
    obtain ⟨b15, hb15⟩ : ∃ b15, b15 = w8.heap.size := ⟨_, rfl⟩
    obtain ⟨w9, hw9⟩ : ∃ w9, w9 = w8.alloc (.cells #[.string x.key, .string x.val, .bool x.del, .int .i64 x.seq] 39) := ⟨_, rfl⟩
    rw [← hb15, ← hw9] at H9
    rw [← hb15, ← hw9]
    clear hb15 hw9
    obtain ⟨A0, c0, hA0, _, hcells0, Hc0⟩ := (h0.below' H9.out.old).atCl (P := Try.prog) Try.underlying22 Try.size39 0 0 rfl (by omega)
    obtain ⟨A1, c1, hA1, _, hcells1, Hc1⟩ := (h0.below' H9.out.old).atCl (P := Try.prog) Try.underlying22 Try.size39 (l0.length - 1) ((l0.length : Int) - 1) (by omega) (by omega)
    have hwr : IntKind.i64.wrap ((l0.length : Int) - 1) = (l0.length : Int) - 1 := IntWalk.i64_in _ (by omega)
    have h01 : (0 : Int) ≤ (l0.length : Int) - 1 := by omega
    have hlast : ∀ w1, InF w tb b13 b15 l0 x w1 → Calls Try.prog 26 #[.pointer (some ⟨tb, 0, none⟩)] w1 fun e w'' => e = .returned (.string c1.key) ∧ Below w1.heap.size w1 w'' := fun w1 h => by
      rw [Hc1.out]; exact last_in h (by omega)
    have hfirst : ∀ w1, InF w tb b13 b15 l0 x w1 → Calls Try.prog 25 #[.pointer (some ⟨tb, 0, none⟩)] w1 fun e w'' => e = .returned (.string c0.key) ∧ w1 = w'' := fun w1 h => by
      rw [Hc0.out]; exact first_in h (by omega)
    have HLast := Lib.hid hlast
    have HFirst := Lib.hid hfirst
    have hT : InFS w tb b13 b15 l0 x A0 A1 c0 c1 _ := inF_all ⟨⟨_, H9.out.up3.drew⟩⟩ hcells0.key hcells1.key
    have hks0 : (c0.key.toList == c0.key.toList) = true := by simp
    have hks1 : (c1.key.toList == c1.key.toList) = true := by simp
    have hq := fun w' : World => run_eqC x x w'
    simp only [eqC_self, Cl.agg] at hq
    have hqb : (ok == ok) = true := by simp
    have hql : ((l0.length : Int) == (l0.length : Int)) = true := by simp
    clear hcells0 hcells1 hlast hfirst Hc0 Hc1 H9 hl1
    go_wp2_with fail
    go_region_held3 (fun w' => InF w tb b13 b15 l0 x w' ∧
        (w'.cell? ⟨b13, 0, none⟩ = some (.string x.key) ∧ w'.cell? ⟨b13, 1, none⟩ = some (.string x.val) ∧ w'.cell? ⟨b13, 2, none⟩ = some (.bool x.del) ∧ w'.cell? ⟨b13, 3, none⟩ = some (.int .i64 x.seq)) ∧
        (w'.cell? ⟨b15, 0, none⟩ = some (.string x.key) ∧ w'.cell? ⟨b15, 1, none⟩ = some (.string x.val) ∧ w'.cell? ⟨b15, 2, none⟩ = some (.bool x.del) ∧ w'.cell? ⟨b15, 3, none⟩ = some (.int .i64 x.seq)) ∧
        w'.cell? A0 = some (.string c0.key) ∧ w'.cell? A1 = some (.string c1.key)) (first | exact hT | go_keep)
      (first
        | (go_at_call 20; have hI := hT.1; (with_reducible refine (scanIn hI (by omega) a1 a3).mono ?_); rintro e w11 ⟨v11, rfl, ho11, hb11⟩; have s11 := ho11.sl; have hT := inF_next hb11 hT; clear hb11 ho11 hI)
        | (go_at_call 24; refine (xscan_any v0 l0 _ (h0.below' (inF_old hT.1)) (by omega) a1 a3).mono ?_; rintro e w12 ⟨v12, rfl, ho12, hb12⟩; have s12 := ho12.sl; have s11 := s11.below' hb12; have hT := inF_next hb12 hT; clear hb12 ho12)
        | (go_at_call 19; (with_reducible refine (cells_same v11 v12 _ _ s11 s12).mono ?_); rintro e w13 ⟨rfl, hd13⟩; have hT := inF_next hd13.below hT; clear hd13 s11 s12)
        | (go_at_call 20; refine (scanIn hT.1 (by omega) ⟨#[]⟩ ⟨#[]⟩).mono ?_; rintro e w14 ⟨v14, rfl, ho14, hb14⟩; rw [scanC_all] at ho14; have s14 := ho14.sl; have hT := inF_next hb14 hT; clear hb14 ho14)
        | (go_at_call 19; refine (cells_same v14 v0 l0 _ s14 (h0.below' (inF_old hT.1))).mono ?_; rintro e w15 ⟨rfl, hd15⟩; have hT := inF_next hd15.below hT; clear hd15)
        | (go_at_call 25; refine (HFirst.out _ hT.1).mono ?_; rintro e w16 ⟨rfl, rfl⟩)
        | (go_at_call 26; refine (HLast.out _ hT.1).mono ?_; rintro e w17 ⟨rfl, hb17⟩; have hT := inF_next hb17 hT; clear hb17)
        | (go_at_call 21; refine (len_in hT.1).mono ?_; rintro e w18 ⟨rfl, rfl⟩)
        | (go_at_call 13; refine (Tb.known_any _).mono ?_; rintro e w19 ⟨rfl, hb19⟩; have hT := inF_next hb19 hT; clear hb19))
    go_wp2
    go_ret
    exact ⟨rfl, inF_old hT.1⟩
end Go.Proofs.Ytbepbbjeieafhaa.tableFinds
