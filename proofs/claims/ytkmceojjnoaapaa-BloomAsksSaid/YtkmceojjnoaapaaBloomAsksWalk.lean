import Derived.Test.YtkmceojjnoaapaaBloomSmall
namespace Go.Proofs.Ytkmceojjnoaapaa.bloomAsks
open Go.RowKit BloomP L Bloom
set_option maxHeartbeats 400000 in
theorem walk {w : World} (v0 : Value) (l0 : List UInt8) (h0 : Sl w 1 v0 l0.length (u8s l0)) (_b0 : l0.length ≤ 140737488351232) (a1 : ByteArray) (w1 : a1.size ≤ 140737488351232) :
    Calls Try.prog 4 #[v0, .string a1] w fun e w' => e = .returned (.bool true) ∧ Below w.heap.size w w' := by
  have hlen := h0.run_len Try.underlying24
  by_cases hb : (1000 : Int) < l0.length
  · go_enter Try.func4, Try.ntmps4
    go_wp2
    go_ret
    exact ⟨rfl, Below.refl _ _⟩
  by_cases hs : (1000 : Int) < a1.size
  · go_enter Try.func4, Try.ntmps4
    go_wp2
    go_ret
    exact ⟨rfl, Below.refl _ _⟩
  by_cases hz : l0.length = 0
  · have hz' : l0 = [] := List.eq_nil_of_length_eq_zero hz
    subst hz'
    go_enter Try.func4, Try.ntmps4
    go_wp2_with fail
    refine (may_nil v0 a1 _ h0).mono ?_
    rintro e w2 ⟨rfl, hb2⟩
    go_wp2_with fail
    refine (may_ref_nil v0 a1 _ (h0.below' hb2)).mono ?_
    rintro e w3 ⟨rfl, hb3⟩
    go_wp2_with fail
    refine (known_any _).mono ?_
    rintro e w4 ⟨rfl, hb4⟩
    go_wp2
    go_ret
    exact ⟨rfl, hb2.trans ((hb3.mono hb2.size).trans (hb4.mono (Nat.le_trans hb2.size hb3.size)))⟩
  · go_enter Try.func4, Try.ntmps4
    go_wp2_with fail
    refine (may_any v0 _ l0 a1 _ h0 (by omega) (by omega) (by omega)).mono ?_
    rintro e w2 ⟨rfl, hb2⟩
    go_wp2_with fail
    refine (may_ref v0 _ l0 a1 _ (h0.below' hb2) (by omega) (by omega) (by omega)).mono ?_
    rintro e w3 ⟨rfl, hb3⟩
    go_wp2_with fail
    refine (known_any _).mono ?_
    rintro e w4 ⟨rfl, hb4⟩
    go_wp2
    go_ret
    exact ⟨rfl, hb2.trans ((hb3.mono hb2.size).trans (hb4.mono (Nat.le_trans hb2.size hb3.size)))⟩
end Go.Proofs.Ytkmceojjnoaapaa.bloomAsks
