/-
  The walk of the law BloomHas: it answers true. Conditions: its argument reads as a slice of texts within the form's reach.
-/
import Derived.Test.YtkmceojjnoaapaaBloomSmall
namespace Go.Proofs.Ytkmceojjnoaapaa.bloomHas
open Go.RowKit BloomP L Bloom
set_option maxHeartbeats 800000 in
theorem walk {w : World} (v0 : Value) (l0 : List ByteArray) (h0 : Sl w 1 v0 l0.length (strs l0)) (_b0 : l0.length * 16 ≤ 140737488351232) (c0 : ∀ s ∈ l0, s.size ≤ 140737488351232) :
    Calls Try.prog 5 #[v0] w fun e w' => e = .returned (.bool true) ∧ Below w.heap.size w w' := by
  have hlen0 := h0.run_len Try.underlying22
  go_enter Try.func5, Try.ntmps5
  go_wp2_with fail
  refine (heavy_any v0 _ l0 _ h0 (fun s hs => by have := c0 s hs; omega)).mono ?_
  rintro e w' ⟨b, rfl, rfl, hb⟩
  cases b with
  | true => clear hb; go_wp2; go_ret; exact ⟨rfl, Below.refl _ _⟩
  | false =>
    have hn := (hb rfl).1
    have hz : ∀ s ∈ l0, s.size ≤ 9223372036854775807 := fun s hs => by have := c0 s hs; omega
    have Hz := Lib.hid hz
    clear hb hz c0
    go_wp2_with fail
    refine (make_any v0 _ l0 _ h0 (by omega) Hz.out).mono ?_
    rintro e w2 ⟨v', rfl, hown, hb2⟩
    have hlv := (Sl.of_own hown).run_len Try.underlying24
    go_wp2
    go_loopw [4] (fun i wr => ∃ k : Nat, k ≤ l0.length ∧ i = .int .i64 k ∧ Below w2.heap.size w2 wr) (fun i _ => l0.length - (intOf i).toNat)
    case atStart => exact ⟨0, Nat.zero_le _, rfl, Below.refl _ _⟩
    case round =>
      obtain ⟨k, hk, rfl, hbr⟩ := hrel
      have hbw : Below w.heap.size w wr := hb2.trans (hbr.mono hb2.size)
      by_cases hlt : k < l0.length
      · obtain ⟨s, hse⟩ : ∃ s, s = l0.getD k ByteArray.empty := ⟨_, rfl⟩
        obtain ⟨A, hA, hblk, hcell⟩ := run_indexAt_sl (P := Try.prog) (h0.below' hbw) Try.underlying22 Try.size9 .i64 (k : Int) (by omega) (by omega)
        have hc := hcell 0 (by omega)
        rw [strs_get _ _ (by omega)] at hc
        simp only [add_zero, Int.toNat_natCast, Nat.mul_one, Nat.add_zero] at hc
        rw [← hse] at hc
        have hmem : s ∈ l0 := by
          rw [hse, List.getD, List.getElem?_eq_getElem hlt]
          simp
        have hsz := Hz.out s hmem
        have hmay : mayTo (make (keysOf l0)) s.data.toList 6 = true := by
          have h1 := may_make (keysOf l0) s.data.toList (List.mem_map.2 ⟨s, hmem, rfl⟩)
          have h2 := make_length (keysOf l0)
          have h3 := room_pos (keysOf l0).length
          unfold may at h1
          rw [Bool.or_eq_true] at h1
          rcases h1 with h1 | h1
          · rw [List.isEmpty_iff] at h1
            rw [h1] at h2
            simp at h2
            omega
          · exact h1
        have Hmay := Lib.hid hmay
        clear hcell hse hmem hmay
        have hr1 : 1 ≤ room l0.length := by have := room_pos l0.length; omega
        have hr2 : room l0.length ≤ 1152921504606846975 := by unfold room; omega
        go_wp2_with fail
        refine (may_any v' _ (make (keysOf l0)) s _ ((Sl.of_own hown).below' hbr) hr1 hr2 hsz).mono ?_
        rintro e w3 ⟨he, hb3⟩
        rw [Hmay.out] at he
        subst he
        go_wp2
        go_roundw
        case rel => exact ⟨k + 1, by omega, by go_num, hbr.trans (hb3.mono hbr.size)⟩
        case measure => simp [intOf]; omega
      · have hmx : (room l0.length : Int) = if (10 * (l0.length : Int) + 7) / 8 > 8 then (10 * (l0.length : Int) + 7) / 8 else 8 := by
          unfold room
          split <;> omega
        have hcmp : ∀ x : Int, x = (room l0.length : Int) → (((room l0.length : Nat) : Int) == x) = true := by intro x hx; simp [hx]
        by_cases h8 : (8 : Int) < (10 * (l0.length : Int) + 7) / 8
        all_goals
          have hd : ∀ x : Int, x = (room l0.length : Int) → ((room l0.length : Int) == x) = true := by intro x hx; simp [hx]
          first
            | (have hd1 := hd ((10 * (l0.length : Int) + 7) / 8) (by rw [hmx, if_pos h8])
               clear hd hmx hcmp
               go_wp2_with fail
               refine (known_any _).mono ?_
               rintro e w3 ⟨rfl, hb3⟩
               go_wp2
               go_ret
               exact ⟨rfl, hbw.trans (hb3.mono hbw.size)⟩)
            | (have hd1 := hd 8 (by rw [hmx, if_neg (by omega)])
               clear hd hmx hcmp
               go_wp2_with fail
               refine (known_any _).mono ?_
               rintro e w3 ⟨rfl, hb3⟩
               go_wp2
               go_ret
               exact ⟨rfl, hbw.trans (hb3.mono hbw.size)⟩)
end Go.Proofs.Ytkmceojjnoaapaa.bloomHas
