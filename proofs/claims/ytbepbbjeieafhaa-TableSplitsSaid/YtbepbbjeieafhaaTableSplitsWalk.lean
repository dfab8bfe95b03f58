/-
  'TableSplits' answers true: what lies between two keys, and behind the second, is what lies behind the first. Conditions: none beside what a row says of every argument.
-/
import Derived.Test.YtbepbbjeieafhaaM8
import Derived.Test.YtbepbbjeieafhaaTableSplitPure
namespace Go.Proofs.Ytbepbbjeieafhaa.tableSplits
open Go.RowKit L Oct Bl Tb Fr
set_option maxRecDepth 100000 in
set_option maxHeartbeats 3200000 in
theorem walk {w : World} (v0 : Value) (l0 : List Cl) (h0 : Sl w 4 v0 l0.length (cls l0)) (_b0 : l0.length * 48 ≤ 140737488351232) (i0 : ∀ c ∈ l0, CellIn c) (a1 : ByteArray) (_w1 : a1.size ≤ 140737488351232) (a2 : ByteArray) (_w2 : a2.size ≤ 140737488351232) :
    Calls Try.prog 6 #[v0, .string a1, .string a2] w fun e w' => e = .returned (.bool true) ∧ Below w.heap.size w w' := by
  have Hi := Lib.hid i0
  have hlen0 := h0.run_len Try.underlying22
  clear i0
  go_enter Try.func6, Try.ntmps6
  go_wp2_with fail
  refine (heavy_any v0 l0 w h0 fun c hc => ⟨(Hi.out c hc).1, (Hi.out c hc).2.1⟩).mono ?_
  rintro e w1 ⟨b, rfl, hhv, hb1⟩
  cases b with
  | true =>
    go_wp2
    go_ret
    exact ⟨rfl, hb1⟩
  | false =>
    obtain ⟨hwt, hl⟩ := hhv rfl
    clear hhv
    go_wp2_with fail
    refine (xrise_any v0 l0 _ (h0.below' hb1)).mono ?_
    rintro e w2 ⟨rfl, hb2⟩
    have b2 := hb1.trans (hb2.mono hb1.size)
    clear hb1 hb2
    by_cases hr : riseN l0 = 0
    case neg =>
      have hz : ((riseN l0 : Int) != 0) = true := by simp [hr]
      clear hr
      go_wp2
      go_ret
      exact ⟨rfl, b2⟩
    have hz : ((riseN l0 : Int) != 0) = false := by simp [hr]
    have Hr := Lib.hid hr
    clear hr
    by_cases hl1 : l0.length = 0
    · have g1 : ((l0.length : Int) == 0) = true := by simp [hl1]
      clear hl1
      go_wp2
      go_ret
      exact ⟨rfl, b2⟩
    have g1 : ((l0.length : Int) == 0) = false := by rw [beq_eq_false_iff_ne]; omega
    have HB : Hid (buildN l0 = 0) := Lib.hid (by rw [buildN, if_neg (by omega)]; exact Hr.out)
    have hln := build_len2 HB.out hwt hl
    clear hl1
    by_cases hk : 200 < a1.size + a2.size
    · have g2 : decide ((200 : Int) < (a1.size : Int) + (a2.size : Int)) = true := by simp; omega
      clear hln
      go_wp2
      go_ret
      exact ⟨rfl, b2⟩
    have g2 : decide ((200 : Int) < (a1.size : Int) + (a2.size : Int)) = false := by simp; omega
    cases hlt : Op.bytesLess a2.toList a1.toList with
    | true =>
      clear hln hk
      go_wp2
      go_ret
      exact ⟨rfl, b2⟩
    | false =>
      by_cases hemp : a2.toList = []
      · have hq : (a2.toList == []) = true := by simp [hemp]
        clear hln hk hemp
        go_wp2
        go_ret
        exact ⟨rfl, b2⟩
      have hq : (a2.toList == []) = false := by simpa using hemp
      have Hsp := Lib.hid (scan_split (riseN_rises Hr.out) (a := a1) (m := a2) hlt hemp)
      clear hk
      go_wp2_with fail
      refine (build_any v0 l0 _ (h0.below' b2) (fun _ => by omega)).mono ?_
      rintro e w3 ⟨v3, rfl, ho3, hb3⟩
      rw [HB.out]
      have H3 := Lib.hid (((Hold.start w).keeps b2).addRow hb3 ho3)
      have HK := Lib.hid (open_ok HB.out)
      have hBl : (buildR l0).length ≤ 40000 := by omega
      clear ho3 hb3 b2 hlt hemp hq g1 g2 hz
      go_wp2_with fail
      refine (open_any v3 (buildR l0) _ H3.out.sl hBl).mono ?_
      rintro e w4 h4
      obtain ⟨tb, rfl, hT⟩ := open_yes HK.out hBl h4
      have H4 := (Hold.assoc.1 (Hold.onto H3.out hT))
      have H5 := Lib.hid (H4.addRow (below_one w4 (.cells #[] 39)) (own_litC w4 [] 39 (by simp [maxLen])))
      clear hT h4 H3 H4
      go_wp2_with fail
      refine (scan_any H5.out.up2 (by omega) a1 a2).mono ?_
      rintro e w6 ⟨v6, rfl, ho6, hb6⟩
      have n1 := scanC_le l0 a1 a2
      have n2 := scanC_le l0 a2 ⟨#[]⟩
      obtain ⟨x, hx⟩ : ∃ x, x = scanC l0 a1 a2 := ⟨_, rfl⟩
      obtain ⟨y, hy⟩ : ∃ y, y = scanC l0 a2 ⟨#[]⟩ := ⟨_, rfl⟩
      rw [← hx] at ho6 n1
      rw [← hy] at n2
      have HX := Lib.hid hx
      have HY := Lib.hid hy
      have H6 := H5.out.addRow hb6 ho6
      have s6 := Lib.hid H6.sl
      have H6' := Lib.hid H6.up2
      clear hx hy ho6 hb6 H5 H6
      go_wp2_with (at_builtin; refine wpList_appC H6'.out rfl _ _ rfl rfl rfl s6.out (by simp only [List.length_nil]; omega) ?_; intro ao7 n7 cap7 w7 N7 H7; rw [List.nil_append] at H7)
      have H7' := Lib.hid H7
      clear H7 H6' s6
      refine (scan_any H7'.out.up3 (by omega) a2 ⟨#[]⟩).mono ?_
      rintro e w8 ⟨v8, rfl, ho8, hb8⟩
      rw [← HY.out] at ho8
      have H8 := H7'.out.addRow hb8 ho8
      have s8 := Lib.hid H8.sl
      have H8' := Lib.hid H8.up2
      clear ho8 hb8 H7' H8
      go_wp2_with (at_builtin; refine wpList_appC H8'.out rfl _ _ rfl rfl rfl s8.out (by omega) ?_; intro ao9 n9 cap9 w9 N9 H9)
      rw [HX.out, HY.out, Hsp.out] at H9
      have HN : n9 = (scanC l0 a1 ⟨#[]⟩).length := by rw [N9.out, HX.out, HY.out, Hsp.out]
      have HN9 := Lib.hid HN
      have H9' := Lib.hid H9
      clear H9 H8' s8 HN
      refine (scan_any H9'.out.up4 (by omega) a1 ⟨#[]⟩).mono ?_
      rintro e w10 ⟨v10, rfl, ho10, hb10⟩
      obtain ⟨z, hz⟩ : ∃ z, z = scanC l0 a1 ⟨#[]⟩ := ⟨_, rfl⟩
      rw [← hz] at ho10 H9' HN9
      have H11 := Lib.hid (H9'.out.addRow hb10 ho10)
      clear hz ho10 hb10 H9'
      go_wp2_with fail
      refine (cells_same _ v10 z _ H11.out.up2.sl H11.out.sl).mono ?_
      rintro e w11 ⟨rfl, hd⟩
      have HB12 := Lib.hid (H11.out.keeps hd.below).old
      clear hd H11
      go_wp2_with fail
      refine (Tb.known_any _).mono ?_
      rintro e w15 ⟨rfl, hb15⟩
      have HF := Lib.hid (HB12.out.trans (hb15.mono HB12.out.size))
      clear hb15
      go_wp2
      go_ret
      exact ⟨rfl, HF.out⟩
end Go.Proofs.Ytbepbbjeieafhaa.tableSplits
