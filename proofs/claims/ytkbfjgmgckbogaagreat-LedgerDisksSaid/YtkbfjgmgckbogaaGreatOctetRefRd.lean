/-
  The reference's Reader of chapter 1: Bad, Raw, Num, Bytes, Whole: what they take. What it reads lies in memory that was there (W0), or in memory of its own.
-/
import Derived.Test.YtkbfjgmgckbogaaGreatF16
namespace Go.Proofs.YtkbfjgmgckbogaaGreat.Oct
open Go.RowKit L
/-- a reference's Reader at a block of its own: what is left, and whether it erred -/
def Xd (W0 : World) (b : Nat) (l : List UInt8) (bad : Bool) : Asrt where
  at_ F w := ∃ v, w.heap[b]? = some (.cells #[v, .bool bad] 114 (0, 0)) ∧ (bad = true → l = []) ∧ (0 < l.length → v.ownBlock ≠ some b) ∧
    ((Sl w 1 v l.length (u8s l) ∧ ∀ k, F k ↔ k = b ∨ (v.ownBlock = some k ∧ 0 < l.length)) ∨ (Sl W0 1 v l.length (u8s l) ∧ W0.heap.size ≤ b ∧ ∀ k, F k ↔ k = b))
  stay := by
    rintro F w w' ⟨v, h1, h2, h3, h4⟩ hk
    have hb : F b := by
      rcases h4 with ⟨_, hF⟩ | ⟨_, _, hF⟩
      · exact (hF b).2 (.inl rfl)
      · exact (hF b).2 rfl
    refine ⟨v, by rw [hk b hb]; exact h1, h2, h3, ?_⟩
    rcases h4 with ⟨hs, hF⟩ | h4
    · refine .inl ⟨?_, hF⟩
      by_cases hl : 0 < l.length
      · exact hs.kept fun k e => hk k ((hF k).2 (.inr ⟨e, hl⟩))
      · exact hs.none (by omega)
    · exact .inr h4
  lt := by
    rintro F w ⟨v, h1, h2, h3, h4⟩ k hk
    have hb := (Array.getElem?_eq_some_iff.1 h1).1
    rcases h4 with ⟨hs, hF⟩ | ⟨_, _, hF⟩
    · rcases (hF k).1 hk with rfl | ⟨e, hl⟩
      · exact hb
      · exact hs.lt (by omega) k e
    · rw [(hF k).1 hk]; exact hb
section
variable {W0 w w' : World} {R : Asrt} {b : Nat} {l : List UInt8} {bad : Bool} {v : Value}
/-- a Reader as it is made, of bytes that were there -/
theorem addXdOld (h : Hold W0 R w) (hs : Sl W0 1 v l.length (u8s l)) {b : Nat} (hb : w.heap.size = b) : Hold W0 ((Xd W0 b l false).sep R) (w.alloc (.cells #[v, .bool false] 114)) := by
  subst hb
  refine h.add ((Below.refl _ _).alloc (Nat.le_refl _) _) (A := Xd W0 w.heap.size l false) (F := fun k => k = w.heap.size) ⟨v, heap_alloc_new w _, by simp, fun hl e => ?_, .inr ⟨hs, h.old.size, fun k => Iff.rfl⟩⟩ fun k hk => by omega
  have := hs.lt (by omega) _ e
  have := h.old.size
  omega
/-- a Reader as it is made, of bytes of the call's own -/
theorem addXd (h : Hold W0 ((Row 5 1 v l.length (u8s l)).sep R) w) {b : Nat} (hb : w.heap.size = b) : Hold W0 ((Xd W0 b l false).sep R) (w.alloc (.cells #[v, .bool false] 114)) := by
  subst hb
  have hal := (Below.refl w.heap.size w).alloc (Nat.le_refl _) (.cells #[v, .bool false] 114)
  obtain ⟨F, ⟨hown, hF⟩, hge, hup⟩ := h.take
  have hup' := hup (w.alloc (.cells #[v, .bool false] 114)) (Xd W0 w.heap.size l false) (fun k => k = w.heap.size ∨ (v.ownBlock = some k ∧ 0 < l.length)) (Keeps.of_below hal)
    ⟨v, heap_alloc_new w _, by simp, fun hl e => ?_, .inl ⟨hown.sl.below' hal, fun k => Iff.rfl⟩⟩ ?_
  · exact hup'
  · have := (hown.lt _ e).2
    omega
  · rintro k (rfl | ⟨e, _⟩)
    · exact .inr (Nat.le_refl _)
    · exact .inl ((hF k).2 e)
/-- what a Reader's block holds -/
theorem xd_open (h : Hold W0 ((Xd W0 b l bad).sep R) w) : ∃ v, w.heap[b]? = some (.cells #[v, .bool bad] 114 (0, 0)) ∧ (bad = true → l = []) ∧ Sl w 1 v l.length (u8s l) ∧ (0 < l.length → v.ownBlock ≠ some b) := by
  obtain ⟨F, v, h1, h2, h3, h4⟩ := h.fst
  refine ⟨v, h1, h2, ?_, h3⟩
  rcases h4 with ⟨hs, _⟩ | ⟨hs, _⟩
  · exact hs
  · exact hs.below' h.old
/-- the block is written: an error -/
theorem xd_bad (h : Hold W0 ((Xd W0 b l bad).sep R) w) : Hold W0 ((Xd W0 b [] true).sep R) ((w.setCell ⟨b, 1, none⟩ (.bool true)).setCell ⟨b, 0, none⟩ (.slice none 0 0)) := by
  obtain ⟨F, ⟨v, hb, h2, h3, h4⟩, hge, hup⟩ := h.take
  have hFb : F b := by
    rcases h4 with ⟨_, hF⟩ | ⟨_, _, hF⟩
    · exact (hF b).2 (.inl rfl)
    · exact (hF b).2 rfl
  have hs0 := blk_set hb 1 (.bool true)
  have hs1 := blk_set hs0 0 (.slice none 0 0)
  exact hup _ (Xd W0 b [] true) (fun k => k = b) (((Keeps.refl F w).setCell (fun _ => hFb) _).setCell (fun _ => hFb) _)
    ⟨.slice none 0 0, hs1, fun _ => rfl, by simp, .inl ⟨Sl.nil _ _, fun k => by simp⟩⟩ (fun k hk => .inl (by rw [hk]; exact hFb))
/-- the beginning of what is left is taken -/
theorem xd_cut {v' : Value} (h : Hold W0 ((Xd W0 b l bad).sep R) w) (hb : w.heap[b]? = some (.cells #[v, .bool bad] 114 (0, 0))) (n : Nat) (hn : n ≤ l.length) {lo : Option Value} (hlo : lo = some (.int .i64 (n : Int)))
    (hr : (Instr.slice 22 v lo none none).run Tryz.prog w = .ok v' w) : Hold W0 ((Xd W0 b (l.drop n) bad).sep R) (w.setCell ⟨b, 0, none⟩ v') := by
  obtain ⟨F, ⟨v0, hb0, h2, h3, h4⟩, hge, hup⟩ := h.take
  rw [hb] at hb0
  simp only [Option.some.injEq, Obj.cells.injEq, and_true] at hb0
  have hv : v = v0 := by
    have := congrArg (fun a : Array Value => a[0]?) hb0
    simpa using this
  subst hv
  have hFb : F b := by
    rcases h4 with ⟨_, hF⟩ | ⟨_, _, hF⟩
    · exact (hF b).2 (.inl rfl)
    · exact (hF b).2 rfl
  have hll : (l.drop n).length = l.length - n := by simp
  have key : ∀ W : World, Sl W 1 v l.length (u8s l) → Sl W 1 v' (l.drop n).length (u8s (l.drop n)) ∧ v'.ownBlock = v.ownBlock := by
    intro W hs
    obtain ⟨v2, hr2, hs2, ho2⟩ := run_slice_sl (P := Tryz.prog) hs Tryz.underlying22 Tryz.size5 lo none n l.length (.inr ⟨.i64, hlo⟩) (.inl ⟨rfl, rfl⟩) hn (Nat.le_refl _)
    have e : v2 = v' := by
      have := (hr2 w).symm.trans hr
      exact (Result.ok.inj this).1
    subst e
    refine ⟨?_, ho2⟩
    rw [hll]
    rw [Nat.mul_one, Nat.mul_one, u8s_drop, List.take_of_length_le (by rw [u8s_length]; simp)] at hs2
    exact hs2
  have hbad : bad = true → l.drop n = [] := fun e => by rw [h2 e]; simp
  rcases h4 with ⟨hs, hF⟩ | ⟨hs, hW, hF⟩
  · obtain ⟨hs', ho⟩ := key w hs
    refine hup _ (Xd W0 b (l.drop n) bad) (fun k => k = b ∨ (v'.ownBlock = some k ∧ 0 < (l.drop n).length)) ((Keeps.refl F w).setCell (fun _ => hFb) _)
      ⟨v', blk_set hb 0 v', hbad, fun hl => by rw [ho]; exact h3 (by omega), .inl ⟨?_, fun k => Iff.rfl⟩⟩ ?_
    · by_cases hl : 0 < (l.drop n).length
      · refine hs'.kept fun k e => Below.heap_setCell _ _ _ _ fun e2 => h3 (by omega) ?_
        rw [← ho, e, e2]
      · exact hs'.none (by omega)
    · rintro k (rfl | ⟨e, hl⟩)
      · exact .inl hFb
      · exact .inl ((hF k).2 (.inr ⟨by rw [← ho]; exact e, by omega⟩))
  · obtain ⟨hs', ho⟩ := key W0 hs
    refine hup _ (Xd W0 b (l.drop n) bad) (fun k => k = b) ((Keeps.refl F w).setCell (fun _ => hFb) _)
      ⟨v', blk_set hb 0 v', hbad, fun hl => by rw [ho]; exact h3 (by omega), .inr ⟨hs', hW, fun k => Iff.rfl⟩⟩ fun k hk => .inl (by rw [hk]; exact hFb)
end
theorem xbad_any {W0 w : World} {R : Asrt} {b : Nat} {l : List UInt8} {bad : Bool} (h : Hold W0 ((Xd W0 b l bad).sep R) w) :
    Calls Tryz.prog 90 #[.pointer (some ⟨b, 0, none⟩)] w fun e w' => e = .returned (.tuple #[]) ∧ Hold W0 ((Xd W0 b [] true).sep R) w' := by
  obtain ⟨v, hb, h2, hsl, h3⟩ := xd_open h
  have hc0 : w.cell? ⟨b, 0, none⟩ = some v := blk_cell hb 0
  have hc1 : w.cell? ⟨b, 1, none⟩ = some (.bool bad) := blk_cell hb 1
  have hf0 := blk_free hb 0
  have hf1 := blk_free hb 1
  have hs0 := blk_set hb 1 (.bool true)
  have hc1' := blk_cell hs0 0
  have hf1' := blk_free hs0 0
  have Hfin := Lib.hid (xd_bad h)
  clear hs0 h2 hsl h3 h hb
  go_enter Tryz.func90, Tryz.ntmps90
  go_wp2
  go_end0
  exact ⟨rfl, Hfin.out⟩
set_option maxRecDepth 100000 in
set_option maxHeartbeats 1600000 in
theorem xraw_any {W0 w : World} {R : Asrt} {b : Nat} {l : List UInt8} {bad : Bool} (h : Hold W0 ((Xd W0 b l bad).sep R) w) (n : Int) (hl : l.length ≤ 140737488355328) :
    Calls Tryz.prog 89 #[.pointer (some ⟨b, 0, none⟩), .int .i64 n] w (RetV fun v' w' => Hold W0 ((Row 5 1 v' (got [] (decRaw n l)).length (u8s (got [] (decRaw n l)))).sep ((Xd W0 b (left (decRaw n l)) (bad || (decRaw n l).isNone)).sep R)) w') := by
  obtain ⟨v, hb, h2, hsl, h3⟩ := xd_open h
  have hc0 : w.cell? ⟨b, 0, none⟩ = some v := blk_cell hb 0
  have hc1 : w.cell? ⟨b, 1, none⟩ = some (.bool bad) := blk_cell hb 1
  have hlen := hsl.run_len Tryz.underlying22
  by_cases hok : 0 ≤ n ∧ n ≤ l.length
  · obtain ⟨m, rfl⟩ : ∃ m : Nat, n = m := ⟨n.toNat, by omega⟩
    have hm : m ≤ l.length := by omega
    have e0 : decRaw (m : Int) l = some (l.take m, l.drop m) := by simp [decRaw, hm]
    rw [e0]
    show Calls Tryz.prog 89 #[.pointer (some ⟨b, 0, none⟩), .int .i64 (m : Int)] w (RetV fun v' w' => Hold W0 ((Row 5 1 v' (l.take m).length (u8s (l.take m))).sep ((Xd W0 b (l.drop m) (bad || false)).sep R)) w')
    rw [Bool.or_false]
    obtain ⟨hn1, hn2⟩ := hok
    cases bad with
    | true =>
      have hl0 := h2 rfl
      subst hl0
      have hm0 : m = 0 := by simpa using hm
      subst hm0
      have Hf := Lib.hid (h.addNil 5 1)
      clear h h2 h3 hb hsl
      go_enter Tryz.func89, Tryz.ntmps89
      go_wp2
      go_ret
      exact ⟨_, rfl, by simpa [u8s] using Hf.out⟩
    | false =>
      obtain ⟨v1, hr1, hs1, ho1⟩ := run_slice_sl (P := Tryz.prog) hsl Tryz.underlying22 Tryz.size5 none (some (.int .i64 (m : Int))) 0 m (.inl ⟨rfl, rfl⟩) (.inr ⟨_, rfl⟩) (Nat.zero_le _) hm
      have hx1 : Sl w 1 v1 (l.take m).length (u8s (l.take m)) := by
        rw [List.length_take, Nat.min_eq_left hm]
        simpa [u8s_take] using hs1
      have H0 := h.addEmpty 5
      have hc0a : (w.alloc (.cells #[] 5)).cell? ⟨b, 0, none⟩ = some v := blk_cell (cs := #[v, .bool false]) (t := 114) (by rw [((Below.refl w.heap.size w).alloc (Nat.le_refl _) (.cells #[] 5)).block b (Array.getElem?_eq_some_iff.1 hb).1, hb]) 0
      have hx1' := sl_alloc hx1 (.cells #[] 5)
      obtain ⟨X, hX⟩ : ∃ X, X = l.take m := ⟨_, rfl⟩
      rw [← hX] at hx1' ⊢
      have hXl : X.length ≤ l.length := by rw [hX, List.length_take]; omega
      clear hs1 hx1 ho1 hX hsl h2 h3
      go_enter Tryz.func89, Tryz.ntmps89
      go_wp2_with (at_builtin; refine wpList_app el8 H0 rfl _ _ rfl rfl rfl hx1' (u8s_one _) (by omega) (by omega) ?_; intro v4 xs4 w4 X4 H4; rw [X4.out, List.nil_append, Nat.zero_add] at H4; obtain ⟨v0, hb4, _, hsl4, _⟩ := xd_open H4.up2; obtain ⟨v2, hr2, hs2, _⟩ := run_slice_sl (P := Tryz.prog) hsl4 Tryz.underlying22 Tryz.size5 (some (.int .i64 (m : Int))) none m l.length (.inr ⟨_, rfl⟩) (.inl ⟨rfl, rfl⟩) hm (Nat.le_refl _); obtain ⟨p2, c2, rfl⟩ := hs2.shape; have hc4 : w4.cell? ⟨b, 0, none⟩ = some v0 := blk_cell hb4 0; have hf4 := blk_free hb4 0; have H6 := Lib.hid (xd_cut H4.up2 hb4 m hm rfl (hr2 w4)).up2; clear X4 H4 H0 h hsl4 hs2)
      go_ret
      exact ⟨_, rfl, H6.out⟩
  · have e0 : decRaw n l = none := by simp only [decRaw, if_neg hok]
    rw [e0]
    clear hsl h2 h3 hb
    by_cases hn : n < 0
    all_goals
      go_enter Tryz.func89, Tryz.ntmps89
      go_wp2_with fail
      refine (xbad_any h).mono ?_
      rintro e w1 ⟨rfl, hH⟩
      obtain ⟨v1, hb1, _, _, _⟩ := xd_open hH
      have hc1' : w1.cell? ⟨b, 1, none⟩ = some (.bool true) := blk_cell hb1 1
      have HH := Lib.hid (hH.addNil 5 1)
      clear hH hb1 h
      go_wp2
      go_ret
      exact ⟨_, rfl, by simpa [got, left, u8s] using HH.out⟩
theorem or_digit9 (m d : Nat) (hm : m < 2 ^ 63) (hd : d < 2) : bits .or .u64 (m : Int) (IntKind.u64.wrap ((d : Int) * 2 ^ (7 * 9))) = ((m + d * 2 ^ (7 * 9) : Nat) : Int) := by
  have h1 : d * 2 ^ (7 * 9) ≤ 1 * 2 ^ 63 := Nat.mul_le_mul (by omega) (by decide)
  have e1 : ((d : Int) * 2 ^ (7 * 9)) = ((d * 2 ^ (7 * 9) : Nat) : Int) := by simp
  have e2 : IntKind.u64.wrap ((d * 2 ^ (7 * 9) : Nat) : Int) = ((d * 2 ^ (7 * 9) : Nat) : Int) := IntWalk.u64_in _ (by omega)
  rw [e1, e2, u64_or_nat _ _ (by omega) (by omega)]
  congr 1
  rw [Nat.or_comm, Nat.add_comm, ← Nat.shiftLeft_eq, Nat.shiftLeft_add_eq_or_of_lt (by simpa using hm)]
set_option maxRecDepth 100000 in
set_option maxHeartbeats 1600000 in
theorem xnum_any {W0 w : World} {R : Asrt} {b : Nat} {l : List UInt8} {bad : Bool} (h : Hold W0 ((Xd W0 b l bad).sep R) w) (hl : l.length ≤ 140737488355328) :
    Calls Tryz.prog 67 #[.pointer (some ⟨b, 0, none⟩)] w fun e w' => e = .returned (.int .i64 (got 0 (dec 0 0 l) : Nat)) ∧ Hold W0 ((Xd W0 b (left (dec 0 0 l)) (bad || (dec 0 0 l).isNone)).sep R) w' := by
  obtain ⟨D, hD⟩ : ∃ D, D = dec 0 0 l := ⟨_, rfl⟩
  rw [← hD]
  go_enter Tryz.func67, Tryz.ntmps67
  go_wp2
  go_loopw [4, 3] (fun i u wr => ∃ (k m : Nat), k ≤ l.length ∧ k ≤ 9 ∧ i = .int .i64 k ∧ u = .int .u64 m ∧ m < 2 ^ (7 * k) ∧ D = dec k m (l.drop k) ∧ Hold W0 ((Xd W0 b (l.drop k) bad).sep R) wr) (fun i _ _ => 10 - (intOf i).toNat)
  case atStart => exact ⟨0, 0, Nat.zero_le _, Nat.zero_le _, rfl, rfl, by decide, by simpa using hD, by simpa using h⟩
  case round =>
    clear hD h
    obtain ⟨k, m, hk, hk9, rfl, rfl, hm, hDk, HH⟩ := hrel
    by_cases hlt : k < l.length
    · obtain ⟨c, hcx⟩ : ∃ c, c = l.getD k 0 := ⟨_, rfl⟩
      have hdr : l.drop k = c :: l.drop (k + 1) := by
        rw [List.drop_eq_getElem_cons hlt, hcx]
        simp [List.getD, hlt]
      obtain ⟨r, hr⟩ : ∃ r, r = l.drop (k + 1) := ⟨_, rfl⟩
      have hrl : r.length + 1 ≤ 140737488355328 := by rw [hr, List.length_drop]; omega
      rw [hdr, ← hr] at HH hDk
      obtain ⟨_, _, hb2, _, _⟩ := xd_open HH
      have hbf : bad = false := by
        cases bad with
        | false => rfl
        | true => cases hb2 rfl
      subst hbf
      have Hr := Lib.hid hr
      clear hdr hcx hr hb2
      go_wp2_with fail
      refine (xraw_any HH 1 (by simpa using hrl)).mono ?_
      rintro e w2 ⟨v2, rfl, H2⟩
      have e1 : decRaw 1 (c :: r) = some ([c], r) := by
        unfold decRaw
        rw [if_pos ⟨by omega, by rw [List.length_cons]; omega⟩]
        rfl
      rw [e1] at H2
      have H2 : Hold W0 ((Row 5 1 v2 [c].length (u8s [c])).sep ((Xd W0 b r false).sep R)) w2 := H2
      obtain ⟨v3, hb3, _, _, _⟩ := xd_open H2.up2
      have hc1 : w2.cell? ⟨b, 1, none⟩ = some (.bool false) := blk_cell hb3 1
      obtain ⟨A, x, hA, hblk, hcA, hx, _⟩ := H2.sl.at8' (P := Tryz.prog) Tryz.underlying22 Tryz.size5 0 0 rfl (by simp)
      have hxc : x = c := hx.out
      subst hxc
      have H3 := Lib.hid H2.drop1
      clear H2 HH e1 hb3 hx hblk
      simp only [dec] at hDk
      have hcl := x.toNat_lt
      by_cases h9 : k = 9
      · subst h9
        rw [if_pos (by omega)] at hDk
        subst hDk
        by_cases hc127 : 127 < x.toNat
        · go_wp2_with fail
          refine (xbad_any H3.out).mono ?_
          rintro e w5 ⟨rfl, hH⟩
          have HH := Lib.hid hH
          clear hH
          go_wp2
          go_ret
          exact ⟨rfl, by simpa [left] using HH.out⟩
        by_cases hc1' : 1 < x.toNat
        · go_wp2_with fail
          refine (xbad_any H3.out).mono ?_
          rintro e w5 ⟨rfl, hH⟩
          have HH := Lib.hid hH
          clear hH
          go_wp2
          go_ret
          exact ⟨rfl, by simpa [left] using HH.out⟩
        obtain ⟨X, hX⟩ : ∃ X, X = m + x.toNat * 2 ^ (7 * 9) := ⟨_, rfl⟩
        have hor : bits .or .u64 (m : Int) (IntKind.u64.wrap (IntKind.u64.wrap (bits .and .u8 (x.toNat : Int) 127) * 9223372036854775808)) = (X : Int) := by
          have := or_digit9 m x.toNat hm (by omega)
          rw [← hX] at this
          rw [u8_and127, Nat.mod_eq_of_lt (by omega), IntWalk.u64_in (x.toNat : Int) (by omega)]
          exact this
        have hXl : X < 18446744073709551616 := by omega
        by_cases hz : x.toNat = 0
        · have hcc : ((x.toNat : Int) == 0) = true := by simp [hz]
          clear hX hm
          go_wp2_with fail
          refine (xbad_any H3.out).mono ?_
          rintro e w5 ⟨rfl, hH⟩
          have HH := Lib.hid hH
          clear hH
          go_wp2
          go_ret
          exact ⟨rfl, by simpa [left] using HH.out⟩
        · have hcc : ((x.toNat : Int) == 0) = false := by simp; omega
          have hbig : 4611686018427387904 < X := by omega
          clear hX hm
          go_wp2_with fail
          refine (xbad_any H3.out).mono ?_
          rintro e w5 ⟨rfl, hH⟩
          have HH := Lib.hid hH
          clear hH
          go_wp2
          go_ret
          exact ⟨rfl, by simpa [left] using HH.out⟩
      · have hk9' : k < 9 := by omega
        have hne9 : ((k : Int) == 9) = false := by simp; omega
        obtain ⟨X, hX⟩ : ∃ X, X = m + x.toNat % 128 * 2 ^ (7 * k) := ⟨_, rfl⟩
        have hor : bits .or .u64 (m : Int) (IntKind.u64.wrap (IntKind.u64.wrap (bits .and .u8 (x.toNat : Int) 127) * 2 ^ (7 * k))) = (X : Int) := by
          have := or_digit k m (x.toNat % 128) hk9' hm (by omega)
          rw [← hX] at this
          rw [u8_and127, IntWalk.u64_in ((x.toNat % 128 : Nat) : Int) (by omega)]
          exact this
        have hXlt : X < 2 ^ (7 * (k + 1)) := by
          have h1 : 2 ^ (7 * (k + 1)) = 128 * 2 ^ (7 * k) := by rw [Nat.mul_succ, Nat.pow_add]; omega
          have h2 : x.toNat % 128 * 2 ^ (7 * k) ≤ 127 * 2 ^ (7 * k) := Nat.mul_le_mul_right _ (by omega)
          omega
        by_cases hbrk : 0 < k ∧ x.toNat = 0
        · rw [if_pos (.inr hbrk)] at hDk
          subst hDk
          obtain ⟨hk0, hz⟩ := hbrk
          have hcc : ((x.toNat : Int) == 0) = true := by simp [hz]
          clear hX hm hXlt
          go_wp2_with fail
          refine (xbad_any H3.out).mono ?_
          rintro e w5 ⟨rfl, hH⟩
          have HH := Lib.hid hH
          clear hH
          go_wp2
          go_ret
          exact ⟨rfl, by simpa [left] using HH.out⟩
        · rw [if_neg (by rintro (h | h); omega; exact hbrk h)] at hDk
          by_cases h128 : x.toNat < 128
          · rw [if_pos h128, ← show X = m + x.toNat * 2 ^ (7 * k) from by rw [hX, Nat.mod_eq_of_lt h128]] at hDk
            clear hX hXlt hm
            by_cases hbig : 4611686018427387904 < X
            · rw [if_pos hbig] at hDk
              subst hDk
              by_cases hk0 : 0 < k
              · have hcc : ((x.toNat : Int) == 0) = false := by simp; omega
                clear hbrk
                go_wp2_with fail
                refine (xbad_any H3.out).mono ?_
                rintro e w5 ⟨rfl, hH⟩
                have HH := Lib.hid hH
                clear hH
                go_wp2
                go_ret
                exact ⟨rfl, by simpa [left] using HH.out⟩
              · clear hbrk
                go_wp2_with fail
                refine (xbad_any H3.out).mono ?_
                rintro e w5 ⟨rfl, hH⟩
                have HH := Lib.hid hH
                clear hH
                go_wp2
                go_ret
                exact ⟨rfl, by simpa [left] using HH.out⟩
            · rw [if_neg hbig] at hDk
              subst hDk
              by_cases hk0 : 0 < k
              · have hcc : ((x.toNat : Int) == 0) = false := by simp; omega
                clear hbrk
                go_wp2
                go_ret
                exact ⟨rfl, H3.out⟩
              · clear hbrk
                go_wp2
                go_ret
                exact ⟨rfl, H3.out⟩
          · rw [if_neg h128, show (x.toNat - 128) = x.toNat % 128 from by omega, ← hX] at hDk
            have HD := Lib.hid hDk
            have HX := Lib.hid hXlt
            clear hX hm hXlt hDk hbrk
            go_wp2
            go_roundw
            case rel => exact ⟨k + 1, X, by omega, by omega, by go_num, rfl, HX.out, by rw [← Hr.out]; exact HD.out, by rw [← Hr.out]; exact H3.out⟩
            case measure => simp [intOf]; omega
    · obtain rfl : k = l.length := by omega
      rw [List.drop_length] at hDk HH
      simp only [dec] at hDk
      subst hDk
      go_wp2_with fail
      refine (xraw_any HH 1 (by simp)).mono ?_
      rintro e w2 ⟨v2, rfl, H2⟩
      have e1 : decRaw 1 [] = none := by simp [decRaw]
      rw [e1] at H2
      obtain ⟨v3, hb3, _, _, _⟩ := xd_open H2.up2
      have hc1 : w2.cell? ⟨b, 1, none⟩ = some (.bool (bad || (none : Option (List UInt8 × List UInt8)).isNone)) := blk_cell hb3 1
      simp only [Option.isNone_none, Bool.or_true] at hc1
      have H3 := Lib.hid H2.drop1
      clear H2 HH e1 hb3
      go_wp2
      go_ret
      exact ⟨rfl, H3.out⟩
set_option maxHeartbeats 800000 in
theorem xbytes_any {W0 w : World} {R : Asrt} {b : Nat} {l : List UInt8} {bad : Bool} (h : Hold W0 ((Xd W0 b l bad).sep R) w) (hl : l.length ≤ 140737488355328) :
    Calls Tryz.prog 68 #[.pointer (some ⟨b, 0, none⟩)] w (RetV fun v' w' => Hold W0 ((Row 5 1 v' (got [] (decRow l)).length (u8s (got [] (decRow l)))).sep ((Xd W0 b (left (decRow l)) (bad || (decRow l).isNone)).sep R)) w') := by
  obtain ⟨e1, e2, e3⟩ := decRow_raw l bad
  rw [e1, e2, e3]
  obtain ⟨_, _, hb2, _, _⟩ := xd_open h
  have hll : (left (dec 0 0 l)).length ≤ 140737488355328 := by
    cases hd : dec 0 0 l with
    | none => simp [left]
    | some p =>
      obtain ⟨n, r⟩ := p
      have := dec_length l 0 0 n r hd
      simp [left]; omega
  clear e1 e2 e3
  have hnum := xnum_any h hl
  obtain ⟨D, hD⟩ : ∃ D, D = dec 0 0 l := ⟨_, rfl⟩
  rw [← hD] at hnum hll ⊢
  go_enter Tryz.func68, Tryz.ntmps68
  go_wp2_with fail
  refine hnum.mono ?_
  rintro e w1 ⟨rfl, h1⟩
  obtain ⟨v3, hb3, _, _, _⟩ := xd_open h1
  have hc1 : w1.cell? ⟨b, 1, none⟩ = some (.bool (bad || D.isNone)) := blk_cell hb3 1
  clear hb3 h
  cases D with
  | none =>
    have H2 := Lib.hid (h1.addNil 5 1)
    clear h1
    simp only [Option.isNone_none, Bool.or_true] at hc1
    go_wp2
    go_ret
    exact ⟨_, rfl, by simpa [got, left, decRaw, u8s] using H2.out⟩
  | some p =>
    have hbf : bad = false := by
      cases bad with
      | false => rfl
      | true => rw [hb2 rfl] at hD; simp [dec] at hD
    subst hbf
    simp only [Option.isNone_some, Bool.or_false] at hc1
    clear hb2 hD
    go_wp2_with fail
    refine (xraw_any h1 _ hll).mono ?_
    rintro e w2 ⟨v', rfl, h2⟩
    have H2 := Lib.hid h2
    clear h1 h2 hc1
    go_wp2
    go_ret
    exact ⟨v', rfl, H2.out⟩
end Go.Proofs.YtkbfjgmgckbogaaGreat.Oct
