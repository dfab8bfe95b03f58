/-
  'TableBuilds' answers true: the program's Build hands back what the reference's does. Conditions: none beside what a row says of every argument.
-/
import Derived.Test.YtbepbbjeieafhaaM8
namespace Go.Proofs.Ytbepbbjeieafhaa.tableBuilds
open Go.RowKit L Oct Bl Tb
set_option maxRecDepth 100000 in
set_option maxHeartbeats 1600000 in
theorem walk {w : World} (v0 : Value) (l0 : List Cl) (h0 : Sl w 4 v0 l0.length (cls l0)) (_b0 : l0.length * 48 ≤ 140737488351232) (i0 : ∀ c ∈ l0, CellIn c) :
    Calls Try.prog 3 #[v0] w fun e w' => e = .returned (.bool true) ∧ Below w.heap.size w w' := by
  have Hi := Lib.hid i0
  clear i0
  go_enter Try.func3, Try.ntmps3
  go_wp2_with fail
  refine (heavy_any v0 l0 w h0 fun c hc => ⟨(Hi.out c hc).1, (Hi.out c hc).2.1⟩).mono ?_
  rintro e w1 ⟨b, rfl, hhv, hb1⟩
  cases b with
  | true =>
    go_wp2
    go_ret
    exact ⟨rfl, hb1⟩
  | false =>
    obtain ⟨hwt, hl⟩ := hhv rfl
    have hpay := Lib.hid (fun h => payload_small (l := l0) h (by omega))
    have hs1 := h0.below' (hb1.trans ((below_one w1 (.cells #[] 39)).mono hb1.size))
    have H1 := ((Hold.start w).keeps hb1).addRow (below_one w1 (.cells #[] 39)) (own_litC w1 [] 39 (by simp [maxLen]))
    clear hhv hwt
    go_wp2_with (at_builtin; refine wpList_appC H1 rfl _ _ rfl rfl rfl hs1 (by simp only [List.length_nil]; omega) ?_; intro ao2 n2 cap2 w2 N2 H2)
    rw [List.nil_append] at H2
    have s2 := H2.sl
    obtain rfl : n2 = l0.length := by rw [N2.out, List.nil_append]
    refine (build_any _ l0 _ s2 hpay.out).mono ?_
    rintro e w3 ⟨v3, rfl, ho3, hb3⟩
    have H3 := (H2.keeps hb3)
    have s3 := ho3.sl
    clear H1 H2 ho3 hb3 hs1 s2
    go_wp2_with fail
    refine (xbuild_any v0 l0 _ (h0.below' H3.old) hpay.out).mono ?_
    rintro e w4 ⟨v4, rfl, ho4, hb4⟩
    have HH := Lib.hid (H3.keeps hb4).old
    have cv1 := (s3.below' hb4).run_string (src := 24) (dst := 9) Try.underlying24 Try.underlying5 Try.underlying9
    have cv2 := ho4.sl.run_string (src := 24) (dst := 9) Try.underlying24 Try.underlying5 Try.underlying9
    obtain ⟨S, hS⟩ : ∃ S, S = ByteArray.mk (buildR l0).toArray := ⟨_, rfl⟩
    rw [← hS] at cv1 cv2
    have hq : (S.toList == S.toList) = true := by simp
    have hr : ((buildN l0 : Int) == (buildN l0 : Int)) = true := by simp
    clear s3 ho4 hb4 H3 hS
    go_wp2_with fail
    refine (Tb.known_any _).mono ?_
    rintro e w5 ⟨rfl, hb5⟩
    have HF := Lib.hid (HH.out.trans (hb5.mono HH.out.size))
    clear hb5
    go_wp2
    go_ret
    exact ⟨rfl, HF.out⟩
end Go.Proofs.Ytbepbbjeieafhaa.tableBuilds
