/-
  The walk of SchemaTables.
-/
import Derived.Test.YtindlfiifckdnaaDoorSchOne
import Derived.Test.YtindlfiifckdnaaDoorSchMask
import Derived.Test.YtindlfiifckdnaaDoorSchTypesAll
import Derived.Test.YtindlfiifckdnaaDoorSchKnown
namespace Go.Proofs.YtindlfiifckdnaaDoor.Sc
open Go.RowKit L
theorem nm19_size : ∀ s ∈ nm19, s.size ≤ 100 := by decide
set_option maxRecDepth 100000 in
set_option maxHeartbeats 1600000 in
theorem tables_any (s : ByteArray) (i : Int) (w : World) (hT : Tab w) : Calls Tryd.prog 4 #[.string s, .int .i64 i] w (RetBl w true) := by
  have HT := Lib.hid hT
  clear hT
  by_cases hs : 200 < s.size
  · go_enter Tryd.func4, Tryd.ntmps4
    go_wp2
    go_ret
    exact ⟨rfl, Below.refl _ _⟩
  · obtain ⟨j, hj, hjl⟩ := mask16 i
    obtain ⟨q, hq⟩ : ∃ q : Nat, (j : Int) % 19 = (q : Int) := ⟨j % 19, by omega⟩
    have hql : q < 19 := by omega
    go_enter Tryd.func4, Tryd.ntmps4
    go_wp2_with fail
    refine (Types_any _).mono ?_
    rintro e2 w2 ⟨v2, rfl, s2, hb2⟩
    have B2 := Lib.hid hb2
    have S2 := Lib.hid s2
    clear hb2 s2
    go_wp2_with fail
    refine (xtypes_any _).mono ?_
    rintro e3 w3 ⟨v3, rfl, s3, hb3⟩
    have B3 := Lib.hid (B2.out.trans (hb3.mono B2.out.size))
    have S3 := Lib.hid s3
    have S2' := Lib.hid (S2.out.below' hb3)
    clear hb3 s3
    go_wp2_with fail
    refine (same_texts S2'.out S3.out).mono ?_
    rintro e4 w4 ⟨rfl, hb4⟩
    have B4 := Lib.hid (B3.out.trans (hb4.mono B3.out.size))
    have S4 := Lib.hid (S2'.out.below' hb4)
    clear hb4
    go_wp2_with fail
    refine (one_any s _ (by omega) (HT.out.below B4.out)).mono ?_
    rintro e5 w5 ⟨rfl, hb5⟩
    have B5 := Lib.hid (B4.out.trans (hb5.mono B4.out.size))
    have S5 := S4.out.below' hb5
    have hlen := S5.run_len (P := Tryd.prog) Tryd.underlying28
    rw [show nm19.length = 19 from rfl] at hlen
    obtain ⟨A, u, hA, _, hc, Hu⟩ := S5.at1 (P := Tryd.prog) Tryd.underlying28 Tryd.size9 q (by rw [show nm19.length = 19 from rfl]; exact hql)
    rw [Hu.out, strs_get nm19 q (by rw [show nm19.length = 19 from rfl]; exact hql)] at hc
    obtain ⟨x, hx⟩ : ∃ x, x = nm19.getD q ByteArray.empty := ⟨_, rfl⟩
    have hxs := nm19_size x (by rw [hx]; simp [List.getD, show q < nm19.length from hql])
    rw [← hx] at hc
    clear hb5 S5 Hu hx
    go_wp2_with fail
    refine (one_any x _ (by omega) (HT.out.below B5.out)).mono ?_
    rintro e6 w6 ⟨rfl, hb6⟩
    have B6 := Lib.hid (B5.out.trans (hb6.mono B5.out.size))
    clear hb6 hA hc hlen
    go_wp2_with fail
    refine (known_any _ (HT.out.below B6.out)).mono ?_
    rintro e7 w7 ⟨rfl, hb7⟩
    have B7 : Hid (Below w.heap.size w w7) := Lib.hid (B6.out.trans (hb7.mono B6.out.size))
    clear hb7
    go_wp2
    go_ret
    exact ⟨rfl, B7.out⟩
end Go.Proofs.YtindlfiifckdnaaDoor.Sc
