/-
  The walk of the law BloomTurns: it answers true. Conditions: its argument reads as a slice of texts within the form's reach.
-/
import Derived.Test.YtkmceojjnoaapaaBloomSmall
import Derived.Deep.RegionWith
namespace Go.Proofs.Ytkmceojjnoaapaa.bloomTurns
open Go.RowKit BloomP L Bloom
theorem drop_rev (l : List ByteArray) (k : Nat) (h : k < l.length) : (l.drop k).reverse = (l.drop (k + 1)).reverse ++ [l.getD k ByteArray.empty] := by
  rw [List.drop_eq_getElem_cons h]
  simp [List.getD, h]
set_option maxHeartbeats 2000000 in
theorem walk {w : World} (v0 : Value) (l0 : List ByteArray) (h0 : Sl w 1 v0 l0.length (strs l0)) (_b0 : l0.length * 16 ≤ 140737488351232) (c0 : ∀ s ∈ l0, s.size ≤ 140737488351232) :
    Calls Try.prog 6 #[v0] w fun e w' => e = .returned (.bool true) ∧ Below w.heap.size w w' := by
  have hlen0 := h0.run_len Try.underlying22
  obtain ⟨i9, hi, hz0, hz1, hz2⟩ := info_parts Try.info9
  go_enter Try.func6, Try.ntmps6
  go_wp2_with fail
  refine (heavy_any v0 _ l0 _ h0 (fun s hs => by have := c0 s hs; omega)).mono ?_
  rintro e w' ⟨b, rfl, rfl, hb⟩
  cases b with
  | true => clear hb; go_wp2; go_ret; exact ⟨rfl, Below.refl _ _⟩
  | false =>
    have hn := (hb rfl).1
    have hz : ∀ s ∈ l0, s.size ≤ 9223372036854775807 := fun s hs => by have := c0 s hs; omega
    have Hz := Lib.hid hz
    clear hb hz c0
    go_wp2
    go_loopw [3, 4] (fun v i wr => ∃ k : Nat, k ≤ l0.length ∧ i = .int .i64 ((k : Int) - 1) ∧ wr.ownsRow w.heap.size 9 1 v (l0.drop k).reverse.length (strs (l0.drop k).reverse) ∧ Below w.heap.size w wr) (fun _ i _ => (intOf i + 1).toNat)
    case atStart => exact ⟨l0.length, Nat.le_refl _, rfl, by simpa [strs] using World.ownsRow_nil _ _ _ _, Below.refl _ _⟩
    case round =>
      obtain ⟨k, hk, rfl, hown, hbr⟩ := hrel
      by_cases hlt : 0 < k
      · obtain ⟨s, hse⟩ : ∃ s, s = l0.getD (k - 1) ByteArray.empty := ⟨_, rfl⟩
        obtain ⟨A, hA, hblk, hcell⟩ := run_indexAt_sl (P := Try.prog) (h0.below' hbr) Try.underlying22 Try.size9 .i64 ((k : Int) - 1) (by omega) (by omega)
        have hc := hcell 0 (by omega)
        rw [show ((k : Int) - 1).toNat * 1 + 0 = k - 1 from by omega, strs_get _ _ (by omega)] at hc
        simp only [add_zero] at hc
        rw [← hse] at hc
        have hS := Lib.hid hse
        clear hcell hse
        have hll : (l0.drop k).reverse.length ≤ 4000 := by simp; omega
        obtain ⟨R, hR⟩ : ∃ R, R = (l0.drop k).reverse := ⟨_, rfl⟩
        rw [← hR] at hown hll
        have HR := Lib.hid hR
        clear hR
        go_wp2_with (at_builtin; refine wpList_append_own _ rfl _ _ 22 rfl w.heap.size 9 i9 (.string ByteArray.empty) 1 16 Try.underlying22 hi hz0 hz1 hz2 rfl (by decide) _ _ _ rfl (hown.alloc _) ⟨wr.heap.size, 0, none⟩ 1 1 [.string s] rfl rfl ?c1 ?c2 ?c3 ?c4 ?c5 ?_)
        case c1 =>
          intro j u hj
          match j, hj with
          | 0, hj => simp at hj; subst hj; simp [Addr.add]
        case c2 => intro u hu; simp at hu; subst hu; rfl
        case c3 => unfold maxLen; omega
        case c4 => omega
        case c5 => have := hbr.size; simp; omega
        intro v' w2 hown' hgrow _
        go_wp2
        have hb2 : Below w.heap.size w w2 := (hbr.alloc (by have := hbr.size; omega) _).grown hgrow (by have := hbr.size; simp; omega) (fun q hq => (hown.lt q hq).1)
        have hsn := drop_rev l0 (k - 1) (by omega)
        rw [show k - 1 + 1 = k from by omega, ← HR.out, ← hS.out] at hsn
        go_roundw
        case rel =>
          refine ⟨k - 1, by omega, by rw [show (((k - 1 : Nat) : Int) - 1) = (k : Int) - 1 - 1 from by omega], ?_, hb2⟩
          rw [hsn]
          simpa [strs] using hown'
        case measure => simp [intOf]; omega
      · obtain rfl : k = 0 := by omega
        simp only [List.drop_zero] at hown
        have hlr : l0.reverse.length ≤ 1000000 := by simp; omega
        have Hzr : Hid (∀ s ∈ l0.reverse, s.size ≤ 9223372036854775807) := fun s hs => Hz.out s (by simpa using hs)
        have h0r := h0.below' hbr
        have hsl := Sl.of_own hown
        obtain ⟨S, hS⟩ : ∃ S : ByteArray, S = ⟨(make (keysOf l0)).toArray⟩ := ⟨_, rfl⟩
        have HS := Lib.hid hS
        have hS2 : S = ⟨(make (keysOf l0.reverse)).toArray⟩ := by
          rw [hS, show keysOf l0.reverse = (keysOf l0).reverse from by simp [keysOf], make_reverse]
        have HS2 := Lib.hid hS2
        clear hS hS2 hown
        go_wp2_with fail
        go_region_with (first
          | (go_at_call_of 8 v0; refine (make_any v0 _ l0 _ (Sl.drew h0r) (by omega) Hz.out).mono ?_; rintro e w2 ⟨v', rfl, hown, hb2⟩; have h02 := (Sl.drew hsl).below' hb2; have hk2 : Below w.heap.size w w2 := Below.trans (b := wr.drew) (Below.drew hbr) (hb2.mono hbr.size); have hcv := (Sl.of_own hown).run_string (P := Try.prog) Try.underlying24 Try.underlying5 Try.underlying9; rw [← HS.out] at hcv)
          | (go_at_call 8; refine (make_any _ _ l0.reverse _ h02 hlr Hzr.out).mono ?_; rintro e w3 ⟨v'', rfl, hown3, hb3⟩; have hk3 : Below w.heap.size w w3 := hk2.trans (hb3.mono hk2.size); have hcv2 := (Sl.of_own hown3).run_string (P := Try.prog) Try.underlying24 Try.underlying5 Try.underlying9; have hcv3 := (Sl.of_own (own_below hown hb3)).run_string (P := Try.prog) Try.underlying24 Try.underlying5 Try.underlying9; rw [← HS2.out] at hcv2; rw [← HS.out] at hcv3)
          | (go_at_call 12; refine (known_any _).mono ?_; rintro e w5 ⟨rfl, hb5⟩; have hk5 : Below w.heap.size w w5 := hk3.trans (hb5.mono hk3.size)))
        all_goals go_wp2
        all_goals go_ret
        all_goals exact ⟨rfl, hk5⟩
end Go.Proofs.Ytkmceojjnoaapaa.bloomTurns
