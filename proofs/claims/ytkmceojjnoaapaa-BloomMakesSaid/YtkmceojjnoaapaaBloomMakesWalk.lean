/-
  The walk of the law BloomMakes: it answers true. Conditions: its arguments read as slices and texts within the form's reach.
-/
import Derived.Test.YtkmceojjnoaapaaBloomSmall
import Derived.Deep.RegionWith
namespace Go.Proofs.Ytkmceojjnoaapaa.bloomMakes
open Go.RowKit BloomP L Bloom
set_option maxHeartbeats 4000000 in
theorem walk {w : World} (v0 : Value) (l0 : List ByteArray) (h0 : Sl w 1 v0 l0.length (strs l0)) (_b0 : l0.length * 16 ≤ 140737488351232) (c0 : ∀ s ∈ l0, s.size ≤ 140737488351232) (a1 : ByteArray) (w1 : a1.size ≤ 140737488351232) :
    Calls Try.prog 3 #[v0, .string a1] w fun e w' => e = .returned (.bool true) ∧ Below w.heap.size w w' := by
  by_cases hs : (1000 : Int) < a1.size
  · go_enter Try.func3, Try.ntmps3
    go_wp2_with fail
    refine (heavy_any v0 _ l0 _ h0 (fun s hs => by have := c0 s hs; omega)).mono ?_
    rintro e w' ⟨b, rfl, rfl, hb⟩
    clear hb
    cases b <;> (go_wp2; go_ret; exact ⟨rfl, Below.refl _ _⟩)
  · go_enter Try.func3, Try.ntmps3
    go_wp2_with fail
    refine (heavy_any v0 _ l0 _ h0 (fun s hs => by have := c0 s hs; omega)).mono ?_
    rintro e w' ⟨b, rfl, rfl, hb⟩
    cases b with
    | true => clear hb; go_wp2; go_ret; exact ⟨rfl, Below.refl _ _⟩
    | false =>
      have hn := (hb rfl).1
      have hz : ∀ s ∈ l0, s.size ≤ 9223372036854775807 := fun s hs => by have := c0 s hs; omega
      have Hz := Lib.hid hz
      obtain ⟨S, hS⟩ : ∃ S : ByteArray, S = ⟨(make (keysOf l0)).toArray⟩ := ⟨_, rfl⟩
      have HS := Lib.hid hS
      clear hb hz c0 hS
      go_wp2_with fail
      go_region_with (first
        | (go_at_call 8; refine (make_any v0 _ l0 _ (Sl.drew h0) (by omega) Hz.out).mono ?_; rintro e w2 ⟨v', rfl, hown, hb2⟩; have h02 := (Sl.drew h0).below' hb2; have hk2 : Below w.heap.size w w2 := Below.trans (b := w.drew) (Below.drew (Below.refl _ _)) hb2; have hcv := (Sl.of_own hown).run_string (P := Try.prog) Try.underlying24 Try.underlying5 Try.underlying9; rw [← HS.out] at hcv)
        | (go_at_call 9; refine (make_ref v0 _ l0 _ h02 (by omega) Hz.out).mono ?_; rintro e w3 ⟨v'', rfl, hown3, hb3⟩; have hk3 : Below w.heap.size w w3 := hk2.trans (hb3.mono hk2.size); have hcv2 := (Sl.of_own hown3).run_string (P := Try.prog) Try.underlying24 Try.underlying5 Try.underlying9; have hcv3 := (Sl.of_own (own_below hown hb3)).run_string (P := Try.prog) Try.underlying24 Try.underlying5 Try.underlying9; rw [← HS.out] at hcv2 hcv3)
        | (go_at_call 10; refine (hash_any a1 _ (by omega)).mono ?_; rintro e w4 ⟨rfl, rfl⟩)
        | (go_at_call 11; refine (hash_ref a1 _ (by omega)).mono ?_; rintro e w4 ⟨rfl, rfl⟩)
        | (go_at_call 12; refine (known_any _).mono ?_; rintro e w5 ⟨rfl, hb5⟩; have hk5 : Below w.heap.size w w5 := hk3.trans (hb5.mono hk3.size)))
      all_goals go_wp2
      all_goals go_ret
      all_goals exact ⟨rfl, hk5⟩
end Go.Proofs.Ytkmceojjnoaapaa.bloomMakes
