/-
  Part 8 of the texts that the proofs of this seat stand on: contracts of functions and plain lemmas, one text behind the other. Conditions: those that each theorem states.
-/
import Derived.RegionTactic
import Derived.ChangeAlike
import Derived.BigRegion
import Derived.Deep.QuietTactic
import Derived.BigQuiet
import Derived.Test.YtbepbbjeieafhaaM7
/-
  Scan of chapter 8, and the reference's Scan of chapter 7: cells of keys from one up to another one.
-/


namespace Go.Proofs.Ytbepbbjeieafhaa.Tb
open Go.RowKit L Oct Bl
def RetScan (w : World) (l : List Cl) (a b : ByteArray) (e : Ending) (w' : World) : Prop := ∃ v, e = .returned v ∧ Own w' w.heap.size 39 4 v (scanC l a b).length (cls (scanC l a b)) ∧ Below w.heap.size w w'
def ScRel (w : World) (l : List Cl) (a b : ByteArray) (k : Nat) (x : Value) (wr : World) : Prop :=
  Hold w ((Row 39 4 x (scanC (l.take k) a b).length (cls (scanC (l.take k) a b))).sep Asrt.emp) wr
set_option maxRecDepth 100000 in
set_option maxHeartbeats 1600000 in
theorem scan_any {W0 w : World} {R : Asrt} {tb : Nat} {l : List Cl} (H : Hold W0 ((Tab tb l).sep R) w) (hl : l.length ≤ 1000000) (a b : ByteArray) :
    Calls Try.prog 20 #[.pointer (some ⟨tb, 0, none⟩), .string a, .string b] w (RetScan w l a b) := by
  obtain ⟨v, mb, F, vb, hb, h, _, _⟩ := tab_at H
  have c0 := blk_cell hb 0
  have hlen := h.run_len Try.underlying22
  have H0 := Lib.hid ((Hold.start w).addNil 39 4)
  clear hb H
  go_enter Try.func20, Try.ntmps20
  go_wp2
  go_loopw [7, 17] (fun x i wr => ∃ (k : Nat) (x' : Value), x' = x ∧ k ≤ l.length ∧ i = .int .i64 k ∧ ScRel w l a b k x' wr) (fun _ i _ => l.length - (intOf i).toNat)
  case atStart => exact ⟨0, _, rfl, Nat.zero_le _, rfl, H0.out⟩
  case round =>
    clear H0 c0
    obtain ⟨k, x, rfl, hk, rfl, hR⟩ := hrel
    by_cases hlt : k < l.length
    · have hsc := scanC_take (a := a) (b := b) hlt
      have hle := scanC_le (l.take k) a b
      rw [List.length_take] at hle
      unfold ScRel at hR
      obtain ⟨S, hS⟩ : ∃ S, S = scanC (l.take k) a b := ⟨_, rfl⟩
      rw [← hS] at hR hsc hle
      obtain ⟨A, c, hA, _, hcells, Hc⟩ := (h.below' hR.old).atCl (P := Try.prog) Try.underlying22 Try.size39 k _ rfl hlt
      obtain ⟨c0, c1, c2, c3⟩ := hcells
      rw [← Hc.out] at hsc
      have Hsc := Lib.hid hsc
      have HB := Lib.hid ((hR.addBlk (cs := #[.string c.key, .string c.val, .bool c.del, .int .i64 c.seq]) (t := 39) (b := wr.heap.size) rfl))
      clear hS hR hsc
      cases h1 : Op.bytesLess c.key.toList a.toList with
      | true =>
        have hi : inC a b c = false := by simp [inC, h1]
        have HN : Hid (scanC (l.take (k + 1)) a b = S) := Lib.hid (by rw [Hsc.out, hi]; simp)
        clear hi
        go_wp2
        go_roundw
        case rel => exact ⟨k + 1, x, rfl, by omega, by go_num, by unfold ScRel; rw [HN.out]; exact HB.out.drop1⟩
        case measure => simp [intOf]; omega
      | false =>
        cases h2 : (b.toList == []) with
        | true =>
          have hi : inC a b c = true := by simp [inC, h1, h2]
          have HN : Hid (scanC (l.take (k + 1)) a b = S ++ [c]) := Lib.hid (by rw [Hsc.out, hi]; simp)
          have h2' : b.toList = [] := by simpa using h2
          clear hi
          go_wp2_with (at_builtin; refine wpList_appC (HB.out.up2.keeps (below_one _ (.cells #[.string c.key, .string c.val, .bool c.del, .int .i64 c.seq] 39))) rfl _ _ rfl rfl rfl (sl_builtC (wr.alloc (.cells #[.string c.key, .string c.val, .bool c.del, .int .i64 c.seq] 39)) [c] 39 (by simp [maxLen]) (b := wr.heap.size + 1) (by simp)) (by simp; omega) ?_; intro ao10 n10 cap10 w10 N10 H10; have H11 : Hid (ScRel w l a b (k + 1) (.slice ao10 n10 cap10) w10) := Lib.hid (by unfold ScRel; rw [HN.out]; exact H10.up2.drop1); clear H10)
          go_roundw
          case rel => exact ⟨k + 1, _, rfl, by omega, by go_num, H11.out⟩
          case measure => simp [intOf]; omega
        | false =>
          have h2' : b.toList ≠ [] := by simpa using h2
          cases h3 : Op.bytesLess c.key.toList b.toList with
          | true =>
            have hi : inC a b c = true := by simp [inC, h1, h3]
            have HN : Hid (scanC (l.take (k + 1)) a b = S ++ [c]) := Lib.hid (by rw [Hsc.out, hi]; simp)
            clear hi
            go_wp2_with (at_builtin; refine wpList_appC (HB.out.up2.keeps (below_one _ (.cells #[.string c.key, .string c.val, .bool c.del, .int .i64 c.seq] 39))) rfl _ _ rfl rfl rfl (sl_builtC (wr.alloc (.cells #[.string c.key, .string c.val, .bool c.del, .int .i64 c.seq] 39)) [c] 39 (by simp [maxLen]) (b := wr.heap.size + 1) (by simp)) (by simp; omega) ?_; intro ao10 n10 cap10 w10 N10 H10; have H11 : Hid (ScRel w l a b (k + 1) (.slice ao10 n10 cap10) w10) := Lib.hid (by unfold ScRel; rw [HN.out]; exact H10.up2.drop1); clear H10)
            go_roundw
            case rel => exact ⟨k + 1, _, rfl, by omega, by go_num, H11.out⟩
            case measure => simp [intOf]; omega
          | false =>
            have hi : inC a b c = false := by simp [inC, h3, h2']
            have HN : Hid (scanC (l.take (k + 1)) a b = S) := Lib.hid (by rw [Hsc.out, hi]; simp)
            clear hi
            go_wp2
            go_roundw
            case rel => exact ⟨k + 1, x, rfl, by omega, by go_num, by unfold ScRel; rw [HN.out]; exact HB.out.drop1⟩
            case measure => simp [intOf]; omega
    · obtain rfl : k = l.length := by omega
      have HF := Lib.hid (Hold.fin hR)
      clear hR
      go_wp2
      go_ret
      have := HF.out
      rw [List.take_length] at this
      exact ⟨x, rfl, this.1, this.2⟩
set_option maxRecDepth 100000 in
set_option maxHeartbeats 1600000 in
theorem xscan_any (v : Value) (l : List Cl) (w : World) (h : Sl w 4 v l.length (cls l)) (hl : l.length ≤ 1000000) (a b : ByteArray) :
    Calls Try.prog 24 #[v, .string a, .string b] w (RetScan w l a b) := by
  have hlen := h.run_len Try.underlying22
  have H0 := Lib.hid ((Hold.start w).addNil 39 4)
  go_enter Try.func24, Try.ntmps24
  go_wp2
  go_loopw [7, 8] (fun x i wr => ∃ (k : Nat) (x' : Value), x' = x ∧ k ≤ l.length ∧ i = .int .i64 k ∧ ScRel w l a b k x' wr) (fun _ i _ => l.length - (intOf i).toNat)
  case atStart => exact ⟨0, _, rfl, Nat.zero_le _, rfl, H0.out⟩
  case round =>
    clear H0
    obtain ⟨k, x, rfl, hk, rfl, hR⟩ := hrel
    by_cases hlt : k < l.length
    · have hsc := scanC_take (a := a) (b := b) hlt
      have hle := scanC_le (l.take k) a b
      rw [List.length_take] at hle
      unfold ScRel at hR
      obtain ⟨S, hS⟩ : ∃ S, S = scanC (l.take k) a b := ⟨_, rfl⟩
      rw [← hS] at hR hsc hle
      obtain ⟨A, c, hA, _, hcells, Hc⟩ := (h.below' hR.old).atCl (P := Try.prog) Try.underlying22 Try.size39 k _ rfl hlt
      obtain ⟨c0, c1, c2, c3⟩ := hcells
      rw [← Hc.out] at hsc
      have Hsc := Lib.hid hsc
      have HB := Lib.hid hR
      clear hS hR hsc
      cases h1 : Op.bytesLess c.key.toList a.toList with
      | true =>
        have hi : inC a b c = false := by simp [inC, h1]
        have HN : Hid (scanC (l.take (k + 1)) a b = S) := Lib.hid (by rw [Hsc.out, hi]; simp)
        clear hi
        go_wp2
        go_roundw
        case rel => exact ⟨k + 1, x, rfl, by omega, by go_num, by unfold ScRel; rw [HN.out]; exact HB.out⟩
        case measure => simp [intOf]; omega
      | false =>
        cases h2 : (b.toList == []) with
        | true =>
          have hi : inC a b c = true := by simp [inC, h1, h2]
          have HN : Hid (scanC (l.take (k + 1)) a b = S ++ [c]) := Lib.hid (by rw [Hsc.out, hi]; simp)
          have h2' : b.toList = [] := by simpa using h2
          clear hi
          go_wp2_with (at_builtin; refine wpList_appC (HB.out.keeps (below_one _ (.cells #[.string c.key, .string c.val, .bool c.del, .int .i64 c.seq] 39))) rfl _ _ rfl rfl rfl (sl_builtC wr [c] 39 (by simp [maxLen]) (b := wr.heap.size) rfl) (by simp; omega) ?_; intro ao10 n10 cap10 w10 N10 H10; have H11 : Hid (ScRel w l a b (k + 1) (.slice ao10 n10 cap10) w10) := Lib.hid (by unfold ScRel; rw [HN.out]; exact H10); clear H10)
          go_roundw
          case rel => exact ⟨k + 1, _, rfl, by omega, by go_num, H11.out⟩
          case measure => simp [intOf]; omega
        | false =>
          have h2' : b.toList ≠ [] := by simpa using h2
          cases h3 : Op.bytesLess c.key.toList b.toList with
          | true =>
            have hi : inC a b c = true := by simp [inC, h1, h3]
            have HN : Hid (scanC (l.take (k + 1)) a b = S ++ [c]) := Lib.hid (by rw [Hsc.out, hi]; simp)
            clear hi
            go_wp2_with (at_builtin; refine wpList_appC (HB.out.keeps (below_one _ (.cells #[.string c.key, .string c.val, .bool c.del, .int .i64 c.seq] 39))) rfl _ _ rfl rfl rfl (sl_builtC wr [c] 39 (by simp [maxLen]) (b := wr.heap.size) rfl) (by simp; omega) ?_; intro ao10 n10 cap10 w10 N10 H10; have H11 : Hid (ScRel w l a b (k + 1) (.slice ao10 n10 cap10) w10) := Lib.hid (by unfold ScRel; rw [HN.out]; exact H10); clear H10)
            go_roundw
            case rel => exact ⟨k + 1, _, rfl, by omega, by go_num, H11.out⟩
            case measure => simp [intOf]; omega
          | false =>
            have hi : inC a b c = false := by simp [inC, h3, h2']
            have HN : Hid (scanC (l.take (k + 1)) a b = S) := Lib.hid (by rw [Hsc.out, hi]; simp)
            clear hi
            go_wp2
            go_roundw
            case rel => exact ⟨k + 1, x, rfl, by omega, by go_num, by unfold ScRel; rw [HN.out]; exact HB.out⟩
            case measure => simp [intOf]; omega
    · obtain rfl : k = l.length := by omega
      have HF := Lib.hid (Hold.fin hR)
      clear hR
      go_wp2
      go_ret
      have := HF.out
      rw [List.take_length] at this
      exact ⟨x, rfl, this.1, this.2⟩
end Go.Proofs.Ytbepbbjeieafhaa.Tb

/-
  Build of the reference of chapter 8.
-/







namespace Go.Proofs.Ytbepbbjeieafhaa.L
open Go.RowKit
theorem Hold.back {w w1 w2 : World} {A : Asrt} (h : Hold w1 A w2) (hb : Below w.heap.size w w1) : Hold w A w2 := by
  obtain ⟨h1, F, hF, hA⟩ := h
  exact ⟨hb.trans (h1.mono hb.size), F, fun k hk => Nat.le_trans hb.size (hF k hk), hA⟩
end Go.Proofs.Ytbepbbjeieafhaa.L
namespace Go.Proofs.Ytbepbbjeieafhaa.Tb
open Go.RowKit L Oct Bl Fr
def lastOf (r : List Cl) : Cl := r.getD (r.length - 1) default
/-- a block as bytes, from its cells alone -/
def rowB (r : List Cl) : List UInt8 := row (byts (lastOf r).key) ++ enc (clamp (lastOf r).seq) ++ row (encR r)
theorem rows_rise {l : List Cl} {k : Nat} (hk : k < (parts l).length) : 0 < ((rows l).getD k []).length ∧ ((rows l).getD k []).length ≤ l.length ∧ rowB ((rows l).getD k []) = partB l ((parts l).getD k (0, 0)) ∧ ∀ c ∈ (rows l).getD k [], c ∈ l := by
  have hp := parts_in l ((parts l).getD k (0, 0)) (by simp [List.getD, hk])
  rw [rows_get hk]
  obtain ⟨p, hp'⟩ : ∃ p, p = (parts l).getD k (0, 0) := ⟨_, rfl⟩
  rw [← hp'] at hp ⊢
  obtain ⟨f, t⟩ := p
  obtain ⟨h1, h2⟩ := hp
  dsimp only at h1 h2
  have hl := sub_length (l := l) (f := f) h2
  refine ⟨by omega, by omega, ?_, fun c hc => List.mem_of_mem_drop (List.mem_of_mem_take hc)⟩
  have he : lastOf (sub l (f, t)) = l.getD (t - 1) default := by
    unfold lastOf
    rw [hl]
    simp only [sub, List.getD, List.getElem?_take, List.getElem?_drop]
    rw [if_pos (by omega), show f + (t - f - 1) = t - 1 from by omega]
  rw [rowB, he, partB]
set_option maxRecDepth 100000 in
set_option maxHeartbeats 3200000 in
theorem xbuild_any (v : Value) (l : List Cl) (w : World) (h : Sl w 4 v l.length (cls l)) (hp : buildN l = 0 → (payload l).length ≤ 1048576) : Calls Try.prog 12 #[v] w (RetBuild w l) := by
  have hlen := h.run_len Try.underlying22
  have hmx := h.le'
  have hr11 := riseN_small l
  by_cases hb : l.length < 1 ∨ 4096 < l.length
  · have hN : Hid (buildN l = 1) := Lib.hid (by rw [buildN, if_pos hb])
    have hR : Hid (buildR l = []) := Lib.hid (by rw [buildR, if_neg (by rw [hN.out]; decide)])
    rcases hb with hb | hb
    · have g1 : decide ((l.length : Int) < 1) = true := by simp; omega
      go_enter Try.func12, Try.ntmps12
      go_wp2
      go_ret2
      unfold RetBuild
      rw [hN.out, hR.out]
      exact ⟨_, rfl, Own.nil _ _ _ _, Below.refl _ _⟩
    · have g1 : decide ((l.length : Int) < 1) = false := by simp; omega
      have g2 : decide ((4096 : Int) < (l.length : Int)) = true := by simp; omega
      go_enter Try.func12, Try.ntmps12
      go_wp2
      go_ret2
      unfold RetBuild
      rw [hN.out, hR.out]
      exact ⟨_, rfl, Own.nil _ _ _ _, Below.refl _ _⟩
  · have hl1 : 1 ≤ l.length := by omega
    have hl2 : l.length ≤ 4096 := by omega
    have g1 : decide ((l.length : Int) < 1) = false := by simp; omega
    have g2 : decide ((4096 : Int) < (l.length : Int)) = false := by simp; omega
    have hN : Hid (buildN l = riseN l) := Lib.hid (by rw [buildN, if_neg hb])
    clear hb
    go_enter Try.func12, Try.ntmps12
    go_wp2_with fail
    refine (xrise_any v l w h).mono ?_
    rintro e w1 ⟨rfl, hb1⟩
    by_cases hr : riseN l = 0
    · have hz : ((riseN l : Int) != 0) = false := by simp [hr]
      have hN0 : buildN l = 0 := by rw [hN.out, hr]
      have hpl := hp hN0
      have HN0 := Lib.hid hN0
      have Hall := Lib.hid (riseN_all hr)
      clear hN hN0 hr hp
      have hsz : ∀ c ∈ l, sizeC c ≤ 1000000000 := fun c hc => by
        have := isC_key (Hall.out c hc)
        unfold sizeC; omega
      have Hplm := Lib.hid (payload_le l)
      have HBL := Lib.hid (xblocks_any v l w1 (h.below' hb1) (by omega) hsz)
      have Hw1 := Lib.hid hb1
      obtain ⟨rl, hrl⟩ : ∃ rl, rl = rows l := ⟨_, rfl⟩
      have hrn : Hid (rl.length = (parts l).length) := Lib.hid (by rw [hrl, rows_length])
      have Hrk : Hid (∀ k, k < rl.length → 0 < (rl.getD k []).length ∧ (rl.getD k []).length ≤ l.length ∧ rowB (rl.getD k []) = partB l ((parts l).getD k (0, 0)) ∧ ∀ c ∈ rl.getD k [], c ∈ l) := Lib.hid (fun k hk => by rw [hrl]; exact rows_rise (by rw [← hrn.out]; exact hk))
      have hrl2 : rl.length ≤ 4096 := by
        have := partsU_len l l.length
        have := hrn.out
        unfold parts at this; omega
      rw [← hrl] at HBL
      clear hrl hsz hb1
      go_wp2_with fail
      refine HBL.out.mono ?_
      unfold RetRows
      rintro e w2 ⟨v2, vs, rfl, H1⟩
      have H2 := H1.back Hw1.out
      have hlen2 := H2.sl.run_len Try.underlying46
      clear H1 HBL Hw1
      go_wp2_with fail
      refine (rnum_any (rl.length : Int) (by omega) _).mono ?_
      rintro e w3 ⟨v3, rfl, ho3, hb3⟩
      rw [show enc (clamp (rl.length : Int)) = bodyU l 0 from by rw [show clamp (rl.length : Int) = (parts l).length from by have := hrn.out; unfold clamp; omega]; simp [bodyU]] at ho3
      have H3 := Lib.hid (H2.addRow hb3 ho3)
      clear H2 ho3 hb3
      go_wp2
      go_loopw [6, 7] (fun y i wr => ∃ (k : Nat) (y' : Value), y' = y ∧ k ≤ rl.length ∧ i = .int .i64 k ∧ Hold w ((Row 5 1 y' (bodyU l k).length (u8s (bodyU l k))).sep ((Row 22 1 v2 rl.length vs).sep ((InnerC vs rl).sep Asrt.emp))) wr) (fun _ i _ => rl.length - (intOf i).toNat)
      case atStart => exact ⟨0, _, rfl, Nat.zero_le _, rfl, H3.out⟩
      case round =>
        clear H3
        obtain ⟨k, y, rfl, hk, rfl, H⟩ := hrel
        have hbk : (bodyU l k).length ≤ 1048576 := Nat.le_trans (Hplm.out k) hpl
        by_cases hlt : k < rl.length
        · obtain ⟨A1, hA1, hc1, _, _⟩ := H.up2.index (P := Try.prog) Try.underlying46 Try.size22 .i64 (k : Int) (by omega) (by omega)
          rw [Int.toNat_natCast] at hc1
          have hsk := (H.drop1.drop1.innerC).2 k hlt
          obtain ⟨hr1, hr2, hr3, hr4⟩ := Hrk.out k hlt
          obtain ⟨r, hr⟩ : ∃ r, r = rl.getD k [] := ⟨_, rfl⟩
          obtain ⟨vk, hvk⟩ : ∃ vk, vk = vs.getD k undef := ⟨_, rfl⟩
          rw [← hvk] at hsk hc1
          rw [← hr] at hsk hr1 hr2 hr3 hr4
          have hlenk := hsk.run_len Try.underlying22
          obtain ⟨A2, c, hA2, _, hcells, Hc⟩ := hsk.atCl (P := Try.prog) Try.underlying22 Try.size39 (r.length - 1) ((r.length : Int) - 1) (by omega) (by omega)
          have hcells2 := hcells.below' (below_one wr (.cells #[.string ⟨#[]⟩, .string ⟨#[]⟩, .bool false, .int .i64 0] 39))
          obtain ⟨c0, c1, c2, c3⟩ := hcells
          obtain ⟨d0, d1, d2, d3⟩ := hcells2
          have e1 : (wr.alloc (.cells #[.string ⟨#[]⟩, .string ⟨#[]⟩, .bool false, .int .i64 0] 39)).cell? A1 = some vk := ((below_one wr _).cell (World.block_lt_of_cell? wr _ hc1)).trans hc1
          have hwr : IntKind.i64.wrap ((r.length : Int) - 1) = (r.length : Int) - 1 := IntWalk.i64_in _ (by omega)
          have h01 : (0 : Int) ≤ (r.length : Int) - 1 := by omega
          have HH := Lib.hid H
          have Hr4 := Lib.hid hr4
          have Hr3 := Lib.hid hr3
          clear H hr hvk hr4 hr3
          have Hck := Lib.hid (isC_key (Hall.out c (Hr4.out c (by rw [Hc.out, getD_get (show r.length - 1 < r.length by omega)]; exact List.getElem_mem _))))
          have Hsq := Lib.hid (isC_seq (Hall.out c (Hr4.out c (by rw [Hc.out, getD_get (show r.length - 1 < r.length by omega)]; exact List.getElem_mem _))))
          have Hbody : Hid (bodyU l (k + 1) = bodyU l k ++ row (byts c.key) ++ enc (clamp c.seq) ++ row (encR r)) := Lib.hid (by
            rw [body_succ (by rw [← hrn.out]; exact hlt), ← Hr3.out, rowB, show lastOf r = c from Hc.out.symm]
            simp only [List.append_assoc])
          have hb2k : (bodyU l (k + 1)).length ≤ 1048576 := Nat.le_trans (Hplm.out (k + 1)) hpl
          rw [Hbody.out] at hb2k
          simp only [List.length_append] at hb2k
          have HB := Lib.hid ((HH.out.addBlk (cs := #[.string c.key, .string c.val, .bool c.del, .int .i64 c.seq]) (t := 39) (b := wr.heap.size) rfl).drew)
          have hsk2 := Lib.hid (hsk.below' ((below_one wr (.cells #[.string c.key, .string c.val, .bool c.del, .int .i64 c.seq] 39)).drew))
          clear Hr4 Hr3 Hc hrn HH hsk
          go_upto_region 11 with fail
          go_region
          obtain ⟨bc, hbc⟩ : ∃ bc, bc = wr.heap.size := ⟨_, rfl⟩
          have f1 : (wr.alloc (.cells #[.string c.key, .string c.val, .bool c.del, .int .i64 c.seq] 39)).cell? A1 = some vk := ((below_one wr _).cell (World.block_lt_of_cell? wr _ hc1)).trans hc1
          obtain ⟨w4, hw4⟩ : ∃ w4, w4 = (wr.alloc (.cells #[.string c.key, .string c.val, .bool c.del, .int .i64 c.seq] 39)).drew := ⟨_, rfl⟩
          have f2 : w4.cell? A1 = some vk := by rw [hw4]; exact f1
          rw [← hw4, ← hbc] at HB
          rw [← hw4] at hsk2 ⊢
          rw [← hbc]
          clear hw4 hbc f1 c0 c1 c2 c3 d0 d1 d2 d3 e1 hc1 hA2
          go_wp2_with fail
          refine (xencode_any vk r w4 hsk2.out (by omega)).mono ?_
          rintro e w5 ⟨v5, rfl, ho5, hb5⟩
          obtain ⟨ao5, cap5, rfl⟩ := ho5.shape
          have H5 := HB.out.addRow hb5 ho5
          have k0 := blk_cell H5.up2.blk 0
          have hck := Hck.out
          clear HB ho5 hb5 hsk2 f2
          go_wp2_with (with_reducible refine wpList_conv H5 rfl _ rfl c.key rfl Try.underlying9 Try.underlying24 Try.underlying5 (by omega) ?_; intro v6 w6 H6; obtain ⟨ao6, cap6, rfl⟩ := H6.own.shape; clear H5 k0)
          refine (rrow_any _ (byts c.key) _ H6.own.sl (by rw [byts_length]; omega)).mono ?_
          rintro e w7 ⟨v7, rfl, ho7, hb7⟩
          have H7 := (H6.drop1.keeps hb7).up3
          have s7 := ho7.sl
          clear ho7 hb7 H6
          go_wp2_with (first
            | (at_builtin; refine wpList_app8 H7 rfl _ _ rfl rfl rfl s7 (by omega) ?_; intro ao8 n8 cap8 w8 N8 H8; have k3 := blk_cell H8.up3.blk 3; clear H7 s7))
          have hsq := Hsq.out
          refine (rnum_any c.seq (by omega) _).mono ?_
          rintro e w9 ⟨v9, rfl, ho9, hb9⟩
          have H9 := H8.keeps hb9
          have s9 := ho9.sl
          clear ho9 hb9 H8 k3
          go_wp2_with (first
            | (at_builtin; refine wpList_app8 H9 rfl _ _ rfl rfl rfl s9 (by simp only [List.length_append]; omega) ?_; intro ao10 n10 cap10 w10 N10 H10; clear H9 s9))
          have hrw : (row (encR r)).length = (enc (encR r).length).length + (encR r).length := by rw [row, List.length_append]
          refine (rrow_any _ (encR r) _ H10.up2.own.sl (by omega)).mono ?_
          clear hrw
          rintro e w11 ⟨v11, rfl, ho11, hb11⟩
          have H11 := H10.keeps hb11
          have s11 := ho11.sl
          clear ho11 hb11 H10
          go_wp2_with (first
            | (at_builtin; refine wpList_app8 H11 rfl _ _ rfl rfl rfl s11 (by simp only [List.length_append]; omega) ?_; intro ao12 n12 cap12 w12 N12 H12; clear H11 s11))
          have HF := Lib.hid (H12.up2.drop1.up2.drop1)
          rw [← Hbody.out] at HF
          clear H12
          go_roundw
          case rel => exact ⟨k + 1, _, rfl, by omega, by go_num, HF.out⟩
          case measure => simp [intOf]; omega
        · obtain rfl : k = rl.length := by omega
          have hpe : payload l = bodyU l rl.length ++ enc l.length ++ row (BloomP.make (Bloom.keysOf (keys l))) := by rw [payload, ← hrn.out]
          have hpl3 := hpl
          rw [hpe] at hpl3
          simp only [List.length_append] at hpl3
          have HPE := Lib.hid hpe
          obtain ⟨W, hW⟩ : ∃ W, W = bodyU l rl.length := ⟨_, rfl⟩
          rw [← hW] at H hbk hpl3 HPE
          obtain ⟨ao0, cap0, rfl⟩ := H.own.shape
          have HK := Lib.hid (((H.up2.drop1).up2.drop1).addNil 9 1)
          clear hpe hlt H hW Hrk
          go_wp2
          obtain ⟨wm, hwm⟩ : ∃ wm, wm = wr := ⟨_, rfl⟩
          go_loopw [11, 12] (fun x i wr => ∃ (k : Nat) (x' : Value), x' = x ∧ k ≤ l.length ∧ i = .int .i64 k ∧ Hold w ((Row 9 1 x' (keysU l k).length (strs (keysU l k))).sep ((Row 5 1 (.slice ao0 W.length cap0) W.length (u8s W)).sep Asrt.emp)) wr) (fun _ i _ => l.length - (intOf i).toNat)
          case atStart => exact ⟨0, _, rfl, Nat.zero_le _, rfl, HK.out⟩
          case round =>
            clear HK
            obtain ⟨k, x, rfl, hk, rfl, H⟩ := hrel
            by_cases hlt : k < l.length
            · obtain ⟨A, c, hA, _, hcells, Hc⟩ := h.atCl (P := Try.prog) Try.underlying22 Try.size39 k _ rfl hlt
              have HB := Lib.hid H
              have hkl := keysU_len l k
              obtain ⟨ks, hks⟩ : ∃ ks, ks = keysU l k := ⟨_, rfl⟩
              have hcase : (keysU l (k + 1) = ks ++ [c.key] ∧ (k = 0 ∨ (1 ≤ k ∧ (c.key.toList == (l.getD (k - 1) default).key.toList) = false))) ∨ (keysU l (k + 1) = ks ∧ 1 ≤ k ∧ (c.key.toList == (l.getD (k - 1) default).key.toList) = true) := by
                rw [hks, Hc.out]
                by_cases h0 : k = 0
                · exact .inl ⟨by rw [keysU, if_pos (.inl h0)], .inl h0⟩
                · cases hq : ((l.getD k default).key.toList == (l.getD (k - 1) default).key.toList) with
                  | true => exact .inr ⟨by rw [keysU, if_neg (fun h => h.elim h0 fun h => h (key_eq hq).symm)], by omega, rfl⟩
                  | false => exact .inl ⟨by rw [keysU, if_pos (.inr (key_ne hq).symm)], .inr ⟨by omega, rfl⟩⟩
              rw [← hks] at HB hkl
              have hwr : IntKind.i64.wrap ((k : Int) - 1) = (k : Int) - 1 := IntWalk.i64_in _ (by omega)
              have c0 := (hcells.below' HB.out.old).key
              clear hks H
              rcases hcase with ⟨he, hs⟩ | ⟨he, h1, hq⟩
              · have He := Lib.hid he
                clear he
                rcases hs with h0 | ⟨h1, hq⟩
                case' inl =>
                  have g3 : ((k : Int) == 0) = true := by rw [beq_iff_eq]; omega
                  clear h0
                  go_wp2
                  go_quiet (fail)
                case' inr =>
                  have g3 : ((k : Int) == 0) = false := by rw [beq_eq_false_iff_ne]; omega
                  obtain ⟨A', c', hA', _, hcells', Hc'⟩ := h.atCl (P := Try.prog) Try.underlying22 Try.size39 (k - 1) ((k : Int) - 1) (by omega) (by omega)
                  have c0' := (hcells'.below' HB.out.old).key
                  have h01 : (0 : Int) ≤ (k : Int) - 1 := by omega
                  rw [← Hc'.out] at hq
                  clear hcells' h1
                  go_wp2
                  go_quiet (fail)
                all_goals
                  have H2 := HB.out.keeps (below_drewN (Below.refl _ _) nq)
                  have d2 := (hcells.below' H2.old).key
                  obtain ⟨w1, hw1⟩ : ∃ w1, w1 = wr.drewN nq := ⟨_, rfl⟩
                  rw [← hw1] at H2 d2 ⊢
                  have hsx := Lib.hid (sl_built w1 [.string c.key] 9 (by unfold maxLen; simp))
                  clear hw1 HB c0
                  go_wp2_with (at_builtin; refine wpList_app (sx := .tmp 94) elS (H2.keeps ((Below.refl w1.heap.size w1).alloc (Nat.le_refl _) (.cells #[.string c.key] 9))) rfl _ rfl rfl rfl hsx.out (strs_one [c.key]) (by simp; omega) (by simp; omega) ?_; intro v4 ys w4 hys H4; rw [hys.out, show [Value.string c.key] = strs [c.key] from rfl, ← strs_append] at H4; have HR : Hid (Hold w ((Row 9 1 v4 (keysU l (k + 1)).length (strs (keysU l (k + 1)))).sep ((Row 5 1 (.slice ao0 W.length cap0) W.length (u8s W)).sep Asrt.emp)) w4) := Lib.hid (by rw [He.out, List.length_append]; exact H4); clear H2 H4 hys)
                  go_roundw
                  case rel => exact ⟨k + 1, v4, rfl, by omega, by go_num, HR.out⟩
                  case measure => simp [intOf]; omega
              · have He := Lib.hid he
                have g3 : ((k : Int) == 0) = false := by rw [beq_eq_false_iff_ne]; omega
                obtain ⟨A', c', hA', _, hcells', Hc'⟩ := h.atCl (P := Try.prog) Try.underlying22 Try.size39 (k - 1) ((k : Int) - 1) (by omega) (by omega)
                have c0' := (hcells'.below' HB.out.old).key
                have h01 : (0 : Int) ≤ (k : Int) - 1 := by omega
                rw [← Hc'.out] at hq
                clear hcells' he h1
                go_wp2
                go_quiet (fail)
                have HR : Hid (Hold w ((Row 9 1 x (keysU l (k + 1)).length (strs (keysU l (k + 1)))).sep ((Row 5 1 (.slice ao0 W.length cap0) W.length (u8s W)).sep Asrt.emp)) (wr.drewN nq)) := Lib.hid (by
                  rw [He.out]
                  exact HB.out.keeps (below_drewN (Below.refl _ _) nq))
                go_wp2
                go_roundw
                case rel => exact ⟨k + 1, x, rfl, by omega, by go_num, HR.out⟩
                case measure => simp [intOf]; omega
            · obtain rfl : k = l.length := by omega
              rw [show keysU l l.length = keys l from rfl] at H
              have hkl : (keys l).length ≤ 4096 := Nat.le_trans (keysU_len l l.length) hl2
              have Hks : Hid (∀ s ∈ keys l, s.size ≤ 9223372036854775807) := Lib.hid fun s hs => by
                obtain ⟨c, hc, rfl⟩ := keysU_mem l l.length (Nat.le_refl _) s hs
                have := isC_key (Hall.out c hc)
                omega
              have hcl : clamp (l.length : Int) = l.length := by unfold clamp; omega
              have H6 := H.up2
              clear H
              go_wp2_with fail
              refine (rnum_any (l.length : Int) (by omega) _).mono ?_
              rintro e w6 ⟨v6, rfl, ho6, hb6⟩
              rw [hcl] at ho6
              have H7 := H6.keeps hb6
              have s7 := ho6.sl
              clear ho6 hb6 H6 hcl
              go_wp2_with (first
                | (at_builtin; refine wpList_app8 H7 rfl _ _ rfl rfl rfl s7 (by omega) ?_; intro ao8 n8 cap8 w8 N8 H8; clear H7 s7))
              refine (Bloom.make_ref x (keys l).length (keys l) _ H8.up2.sl (by omega) Hks.out).mono ?_
              rintro e w10 ⟨v10, rfl, ho10, hb10⟩
              obtain ⟨M, hM⟩ : ∃ M, M = BloomP.make (Bloom.keysOf (keys l)) := ⟨_, rfl⟩
              rw [← hM] at ho10 hpl3 HPE
              have ho10b : Own w10 w8.heap.size 5 1 v10 M.length (u8s M) := by
                have h1 := Own.of ho10
                have h2 := h1.1
                rw [u8s_length, Nat.mul_one] at h2
                rw [h2]; exact h1
              have H10 := H8.keeps hb10
              have s10 := ho10b.sl
              have hMl : M.length ≤ 1048576 := by
                have : (row M).length = (enc M.length).length + M.length := by rw [row, List.length_append]
                omega
              clear H8 ho10 ho10b hb10 hM
              go_wp2_with fail
              refine (rrow_any v10 M _ s10 (by omega)).mono ?_
              rintro e w11 ⟨v11, rfl, ho11, hb11⟩
              have H11 := H10.keeps hb11
              have s11 := ho11.sl
              clear ho11 hb11 H10 s10
              go_wp2_with (first
                | (at_builtin; refine wpList_app8 H11 rfl _ _ rfl rfl rfl s11 (by simp only [List.length_append]; omega) ?_; intro ao12 n12 cap12 w12 N12 H12; clear H11 s11))
              rw [← HPE.out] at H12
              refine (rencode_any _ (payload l) _ H12.own.sl hpl).mono ?_
              rintro e w13 ⟨v13, rfl, ho13, hb13⟩
              have hR : Hid (buildR l = rec_ (payload l)) := Lib.hid (by rw [buildR, if_pos HN0.out])
              have HF : Hid (Own w13 w.heap.size 5 1 v13 (rec_ (payload l)).length (u8s (rec_ (payload l)))) := Lib.hid (ho13.from fun k hk => Nat.le_trans H12.old.size (ho13.lt k hk).1)
              have HFb := Lib.hid (H12.old.trans (hb13.mono H12.old.size))
              clear ho13 hb13 H12
              go_wp2
              go_ret2
              unfold RetBuild
              rw [HN0.out, hR.out]
              exact ⟨_, rfl, HF.out, HFb.out⟩
    · have hz : ((riseN l : Int) != 0) = true := by simp [hr]
      have hR : Hid (buildR l = []) := Lib.hid (by rw [buildR, if_neg (by rw [hN.out]; exact hr)])
      clear hr hp
      go_wp2
      go_ret2
      unfold RetBuild
      rw [hN.out, hR.out]
      exact ⟨_, rfl, Own.nil _ _ _ _, hb1⟩
end Go.Proofs.Ytbepbbjeieafhaa.Tb

/-
  Open of the reference of chapter 8.
-/




namespace Go.Proofs.Ytbepbbjeieafhaa.Tb
open Go.RowKit L Oct Bl Fr
def RetXOpen (w : World) (b : List UInt8) (e : Ending) (w' : World) : Prop :=
  (∃ l v, OpenOk b l ∧ e = .returned (.tuple #[v, .int .i64 0]) ∧ Own w' w.heap.size 39 4 v l.length (cls l) ∧ Below w.heap.size w w') ∨
  ((∀ l, ¬ OpenOk b l) ∧ e = .returned (.tuple #[.slice none 0 0, .int .i64 (openE b)]) ∧ Below w.heap.size w w')
def XopRel (w : World) (p : List UInt8) (br k : Nat) (y : Value) (wr : World) : Prop :=
  ∃ acc rest bad, Hold w ((Xd w br rest bad).sep ((Row 39 4 y acc.length (cls acc)).sep Asrt.emp)) wr ∧ FollowT p k acc rest ∧ (∀ l0, buildN l0 = 0 → payload l0 = p → bad = false) ∧ weight acc + 5 * rest.length ≤ 5 * p.length
set_option maxRecDepth 100000 in
set_option maxHeartbeats 3200000 in
theorem xopen_any (v : Value) (b : List UInt8) (w : World) (h : Sl w 1 v b.length (u8s b)) (hn : b.length ≤ 40000) : Calls Try.prog 16 #[v] w (RetXOpen w b) := by
  have Hop := Lib.hid fun l (h : OpenOk b l) => open_one h hn
  obtain ⟨p, hp⟩ : ∃ p, p = (unone b).1 := ⟨_, rfl⟩
  obtain ⟨e1, he1⟩ : ∃ e1, e1 = (unone b).2 := ⟨_, rfl⟩
  have ho := rone_any v b w h (by omega)
  rw [← hp, ← he1] at ho
  have HO := Lib.hid ho
  have Hp := Lib.hid hp
  have He1 := Lib.hid he1
  clear ho hp he1
  go_enter Try.func16, Try.ntmps16
  go_wp2_with fail
  refine HO.out.mono ?_
  rintro e w1 ⟨v1, rfl, ho1, hb1⟩
  by_cases h0 : e1 = 0
  · subst h0
    have hpb : p.length ≤ b.length := by
      rw [Hp.out]
      unfold unone
      split
      · simp
      · rename_i hx
        have hz := He1.out
        unfold unone at hz
        rw [if_neg hx] at hz
        exact (unrec_step b hz.symm).2.2
    have HE : Hid (openE b = 3) := Lib.hid (by rw [openE, if_pos He1.out.symm])
    have Hpay : Hid (∀ l, OpenOk b l → buildN l = 0 ∧ payload l = p) := Lib.hid fun l hl => ⟨hl.1, by rw [Hp.out, Hop.out l hl]⟩
    have H1 := (Hold.start w).addRow hb1 ho1
    clear ho1 hb1 HO
    have H3 := addXd H1 (b := w1.heap.size) rfl
    obtain ⟨ao1, cap1, hv1⟩ := H1.own.shape
    subst hv1
    obtain ⟨br, hbr⟩ : ∃ br, br = w1.heap.size := ⟨_, rfl⟩
    rw [← hbr] at H3
    go_wp2_with fail
    rw [← hbr]
    clear H1 hbr
    refine (xnum_any H3 (by omega)).mono ?_
    rintro e w3 ⟨rfl, H4⟩
    obtain ⟨hs1, hs2⟩ := followT_start (p := p)
    obtain ⟨n, hn1⟩ : ∃ n, n = got 0 (dec 0 0 p) := ⟨_, rfl⟩
    obtain ⟨r0, hr0⟩ : ∃ r0, r0 = left (dec 0 0 p) := ⟨_, rfl⟩
    obtain ⟨b0, hb0⟩ : ∃ b0, b0 = (false || (dec 0 0 p).isNone) := ⟨_, rfl⟩
    have hr0l : r0.length ≤ p.length := by rw [hr0]; exact left_dec' p
    have Hn : Hid (∀ l0, buildN l0 = 0 → payload l0 = p → n = (parts l0).length) := Lib.hid fun l0 h1 h2 => by
      rw [hn1, hs1 l0 h1 h2]; rfl
    have Hb0 : Hid (∀ l0, buildN l0 = 0 → payload l0 = p → b0 = false) := Lib.hid fun l0 h1 h2 => by
      rw [hb0, hs1 l0 h1 h2]; rfl
    have hnl : n ≤ 4611686018427387904 := by
      rw [hn1]
      cases hd : dec 0 0 p with
      | none => simp [got]
      | some q => obtain ⟨a, r⟩ := q; exact (dec_length p 0 0 a r hd).2
    rw [← hr0, ← hb0] at H4
    rw [← hr0] at hs2
    rw [← hn1]
    have HF0 := Lib.hid hs2
    have H5 := Lib.hid (H4.addNil 39 4).up2
    clear hs1 hs2 hn1 hr0 hb0 H3 H4
    go_wp2
    go_loopw [7, 9] (fun y i wr => ∃ (k : Nat) (y' : Value), y' = y ∧ k ≤ n ∧ i = .int .i64 k ∧ XopRel w p br k y' wr) (fun _ i _ => n - (intOf i).toNat)
    case atStart => exact ⟨0, _, rfl, Nat.zero_le _, rfl, [], r0, b0, H5.out, HF0.out, Hb0.out, by simp [weight]; omega⟩
    case round =>
      clear H5
      obtain ⟨k, y, rfl, hk, rfl, acc, rest, bad, H, HF, hbad, hw⟩ := hrel
      have hal := weight_len acc
      obtain ⟨aoY, capY, rfl⟩ := H.up2.own.shape
      obtain ⟨vr, hvb, _, _, _⟩ := xd_open H
      have m1 := blk_cell hvb 1
      clear hvb
      by_cases hgo : k < n ∧ bad = false
      · obtain ⟨hlt, rfl⟩ := hgo
        have hst := followT_step HF
        have hmo := fun l2 => followT_more (l2 := l2) HF (fun l0 h1 h2 => by rw [← Hn.out l0 h1 h2]; exact hlt)
        have g1 := left_decRow rest
        have g2 := left_dec' (left (decRow rest))
        have g3 := got_left (left (dec 0 0 (left (decRow rest))))
        obtain ⟨q1, hq1⟩ : ∃ q, q = left (decRow rest) := ⟨_, rfl⟩
        obtain ⟨i1, hi1⟩ : ∃ q, q = (decRow rest).isNone := ⟨_, rfl⟩
        have hrl : rest.length ≤ 100000 := by omega
        have hc1 := xbytes_any H (by omega)
        rw [← hq1] at hst hmo g1 g2 g3
        rw [← hi1] at hst
        rw [← hq1, ← hi1] at hc1
        have HC1 := Lib.hid hc1
        clear hc1 H hq1 hi1
        obtain ⟨q2, hq2⟩ : ∃ q, q = left (dec 0 0 q1) := ⟨_, rfl⟩
        obtain ⟨i2, hi2⟩ : ∃ q, q = (dec 0 0 q1).isNone := ⟨_, rfl⟩
        have Hq2 := Lib.hid hq2
        have Hi2 := Lib.hid hi2
        rw [← hq2] at hst hmo g2 g3
        rw [← hi2] at hst
        obtain ⟨q3, hq3⟩ : ∃ q, q = left (decRow q2) := ⟨_, rfl⟩
        obtain ⟨i3, hi3⟩ : ∃ q, q = (decRow q2).isNone := ⟨_, rfl⟩
        obtain ⟨x, hx⟩ : ∃ q, q = got [] (decRow q2) := ⟨_, rfl⟩
        have Hq3 := Lib.hid hq3
        have Hi3 := Lib.hid hi3
        have Hx := Lib.hid hx
        rw [← hq3, ← hx] at hst g3
        rw [← hq3, ← hx] at hmo
        rw [← hi3] at hst
        have Hst := Lib.hid hst
        have Hmo := Lib.hid hmo
        have Hbad := Lib.hid hbad
        clear hst hmo hq2 hi2 hq3 hi3 hx hbad HF HF0 Hb0
        go_wp2_with fail
        refine HC1.out.mono ?_
        rintro e w5 ⟨v5, rfl, H5⟩
        have H6 := H5.drop1
        clear H5 HC1
        go_wp2_with fail
        refine (xnum_any H6 (by omega)).mono ?_
        rintro e w6 ⟨rfl, H7⟩
        rw [← Hq2.out, ← Hi2.out] at H7
        clear H6
        go_wp2_with fail
        refine (xbytes_any H7 (by omega)).mono ?_
        rintro e w7 ⟨v7, rfl, H8⟩
        rw [← Hq3.out, ← Hi3.out, ← Hx.out] at H8
        clear H7
        go_wp2_with fail
        refine (xdecode_any v7 x _ H8.sl (by omega)).mono ?_
        rintro e w8 ⟨hb8, hdec⟩
        have H9 := (H8.keeps hb8).drop1
        clear H8
        have HNO : Hid ((∃ l0, OpenOk b l0) → (((false || i1) || i2) || i3) = false ∧ ∃ l2, DecOk x l2) := Lib.hid fun ⟨l0, h0⟩ => by
          obtain ⟨h1, h2⟩ := Hpay.out l0 h0
          obtain ⟨a1, a2, a3, a4, _⟩ := Hst.out l0 h1 h2 (by rw [← Hn.out l0 h1 h2]; exact hlt)
          exact ⟨by rw [a1, a2, a3]; rfl, _, a4⟩
        obtain ⟨b3, hb3⟩ : ∃ b3, b3 = (((false || i1) || i2) || i3) := ⟨_, rfl⟩
        rw [← hb3] at H9 HNO
        have Hb3 : Hid (∀ l0, buildN l0 = 0 → payload l0 = p → b3 = false) := Lib.hid fun l0 h1 h2 => by
          obtain ⟨a1, a2, a3, _⟩ := Hst.out l0 h1 h2 (by rw [← Hn.out l0 h1 h2]; exact hlt)
          rw [hb3, a1, a2, a3]; rfl
        clear hb3
        rcases hdec with ⟨l2, v8, hok, rfl, ho8⟩ | ⟨hno, rfl⟩
        · obtain ⟨ao8, cap8, rfl⟩ := ho8.shape
          have s8 := ho8.sl
          have Hok := Lib.hid hok
          have hwe := weight_enc hok.1
          rw [hok.2] at hwe
          have hl2 := weight_len l2
          have hwa := weight_append acc l2
          clear ho8 hok hb8
          go_wp2_with (at_builtin; refine wpList_appC H9.up2 rfl _ _ rfl rfl rfl s8 (by omega) ?_; intro ao10 n10 cap10 w10 N10 H10; have HR : Hid (XopRel w p br (k + 1) (.slice ao10 n10 cap10) w10) := Lib.hid ⟨acc ++ l2, q3, b3, H10.up2, Hmo.out l2 Hok.out, Hb3.out, by rw [hwa]; omega⟩; clear H9 H10 s8)
          go_roundw
          case rel => exact ⟨k + 1, _, rfl, by omega, by go_num, HR.out⟩
          case measure => simp [intOf]; omega
        · have hno2 : Hid (∀ l, ¬ OpenOk b l) := Lib.hid fun l hl => by
            obtain ⟨_, l2, h2⟩ := HNO.out ⟨l, hl⟩
            exact hno l2 h2
          have HB := Lib.hid H9.old
          clear hno hb8 H9
          go_wp2
          go_ret2
          unfold RetXOpen
          rw [HE.out]
          exact .inr ⟨hno2.out, rfl, HB.out⟩
      · have hend : Hid (∀ l, OpenOk b l → acc = l ∧ bad = false) := Lib.hid fun l hl => by
          obtain ⟨h1, h2⟩ := Hpay.out l hl
          have hb := hbad l h1 h2
          have hge : n ≤ k := Nat.le_of_not_lt fun h => hgo ⟨h, hb⟩
          exact ⟨followT_end HF h1 h2 (by rw [← Hn.out l h1 h2]; exact hge), hb⟩
        have Hsl := Lib.hid H.up2.sl
        have hpay : buildN acc = 0 → (payload acc).length ≤ 1048576 := fun h1 => payload_small h1 (by omega)
        have Hpa := Lib.hid hpay
        have hex : k = n ∨ (k < n ∧ bad = true) := by
          by_cases h : k < n
          · cases bad with
            | true => exact .inr ⟨h, rfl⟩
            | false => exact (hgo ⟨h, rfl⟩).elim
          · exact .inl (by omega)
        have HH := Lib.hid H
        clear H HF hbad HF0 Hb0 hpay Hn hgo
        rcases hex with rfl | ⟨hlt, rfl⟩
        all_goals
          go_wp2_with fail
          refine (xbuild_any _ acc _ Hsl.out Hpa.out).mono ?_
          unfold RetBuild
          rintro e w5 ⟨v5, rfl, ho5, hb5⟩
          have H7 := HH.out.keeps hb5
          have s5 := ho5.sl
          have hs := h.below' H7.old
          obtain ⟨vr', hvb', _, _, _⟩ := xd_open H7
          have m2 := blk_cell hvb' 1
          have HB := Lib.hid H7.old
          have Ho := Lib.hid H7.drop1.fin.1
          have cv1 := s5.run_string (src := 24) (dst := 9) Try.underlying24 Try.underlying5 Try.underlying9
          have cv2 := hs.run_string (src := 24) (dst := 9) Try.underlying24 Try.underlying5 Try.underlying9
          obtain ⟨S1, hS1⟩ : ∃ S1, S1 = ByteArray.mk (buildR acc).toArray := ⟨_, rfl⟩
          obtain ⟨S2, hS2⟩ : ∃ S2, S2 = ByteArray.mk b.toArray := ⟨_, rfl⟩
          rw [← hS1] at cv1
          rw [← hS2] at cv2
          have hq : S1.toList = buildR acc ∧ S2.toList = b := by
            rw [hS1, hS2, ByteArray.toList_eq, ByteArray.toList_eq]
            exact ⟨rfl, rfl⟩
          have Hq := Lib.hid hq
          clear ho5 hb5 H7 s5 hs hvb' hS1 hS2 hq m1
        · cases bad with
          | true =>
            have hno2 : Hid (∀ l, ¬ OpenOk b l) := Lib.hid fun l hl => by cases (hend.out l hl).2
            go_wp2
            go_ret2
            unfold RetXOpen
            rw [HE.out]
            exact .inr ⟨hno2.out, rfl, HB.out⟩
          | false =>
            by_cases hN : buildN acc = 0
            · have hz : ((buildN acc : Int) != 0) = false := by simp [hN]
              have HN := Lib.hid hN
              by_cases hR : buildR acc = b
              · have hd : (S1.toList == S2.toList) = true := by rw [Hq.out.1, Hq.out.2]; simpa using hR
                have HOk : Hid (OpenOk b acc) := Lib.hid ⟨hN, hR⟩
                clear hR hN hend
                go_wp2
                go_ret2
                unfold RetXOpen
                exact .inl ⟨acc, _, HOk.out, rfl, Ho.out, HB.out⟩
              · have hd : (S1.toList == S2.toList) = false := by rw [Hq.out.1, Hq.out.2]; simpa using hR
                have hno2 : Hid (∀ l, ¬ OpenOk b l) := Lib.hid fun l hl => hR (by rw [(hend.out l hl).1]; exact hl.2)
                clear hR hN
                go_wp2
                go_ret2
                unfold RetXOpen
                rw [HE.out]
                exact .inr ⟨hno2.out, rfl, HB.out⟩
            · have hz : ((buildN acc : Int) != 0) = true := by simp [hN]
              have hno2 : Hid (∀ l, ¬ OpenOk b l) := Lib.hid fun l hl => hN (by rw [(hend.out l hl).1]; exact hl.1)
              clear hN
              go_wp2
              go_ret2
              unfold RetXOpen
              rw [HE.out]
              exact .inr ⟨hno2.out, rfl, HB.out⟩
        · have hno2 : Hid (∀ l, ¬ OpenOk b l) := Lib.hid fun l hl => by cases (hend.out l hl).2
          go_wp2
          go_ret2
          unfold RetXOpen
          rw [HE.out]
          exact .inr ⟨hno2.out, rfl, HB.out⟩
  · have hq : ((e1 : Int) != 0) = true := by simp; omega
    have hno : Hid (∀ l, ¬ OpenOk b l) := Lib.hid fun l hl => h0 (by rw [He1.out, Hop.out l hl])
    have HE : Hid (openE b = e1) := Lib.hid (by rw [openE, if_neg (by rw [← He1.out]; exact h0), He1.out])
    have HB := Lib.hid hb1
    clear h0 ho1 hb1 HO
    go_wp2
    go_ret2
    unfold RetXOpen
    rw [HE.out]
    exact .inr ⟨hno.out, rfl, HB.out⟩
end Go.Proofs.Ytbepbbjeieafhaa.Tb

/-
  What the laws of chapters 7 and 8 share: heavy, cells.
-/



namespace Go.Proofs.Ytbepbbjeieafhaa.Bl
open Go.RowKit L Oct
def HeavyRel (w : World) (l : List Cl) (n i : Value) (wr : World) : Prop := ∃ k : Nat, k ≤ l.length ∧ k ≤ 201 ∧ i = .int .i64 k ∧ n = .int .i64 (weight (l.take k)) ∧ weight (l.take k) ≤ 6000 ∧ Drew w wr
def RetHeavy (w : World) (l : List Cl) (e : Ending) (w' : World) : Prop := ∃ b, e = .returned (.bool b) ∧ (b = false → weight l ≤ 6000 ∧ l.length ≤ 201) ∧ Below w.heap.size w w'
set_option maxRecDepth 100000 in
set_option maxHeartbeats 1600000 in
theorem heavy_any (v : Value) (l : List Cl) (w : World) (h : Sl w 4 v l.length (cls l)) (hs : ∀ c ∈ l, c.key.size ≤ 140737488351232 ∧ c.val.size ≤ 140737488351232) : Calls Try.prog 10 #[v] w (RetHeavy w l) := by
  have hlen := h.run_len Try.underlying22
  have hmx := h.le'
  have Hs := Lib.hid hs
  clear hs
  go_enter Try.func10, Try.ntmps10
  go_wp2
  go_loopw [3, 4] (fun n i wr => HeavyRel w l n i wr) (fun _ i _ => l.length - (intOf i).toNat)
  case atStart => exact ⟨0, Nat.zero_le _, Nat.zero_le _, rfl, rfl, Nat.zero_le _, Drew.refl _⟩
  case round =>
    obtain ⟨k, hk, hk2, rfl, rfl, hw, hd⟩ := hrel
    by_cases hlt : k < l.length
    · obtain ⟨A, c, hA, _, hcells, Hc⟩ := (h.below' hd.below).atCl (P := Try.prog) Try.underlying22 Try.size39 k _ rfl hlt
      have hcs := Hs.out c (by rw [Hc.out, getD_get hlt]; exact List.getElem_mem hlt)
      have hwt := weight_take l k hlt
      rw [← Hc.out] at hwt
      obtain ⟨n, hn⟩ : ∃ n, n = weight (l.take k) := ⟨_, rfl⟩
      rw [← hn] at hw hwt ⊢
      have Hw := Lib.hid hwt
      have c0 := hcells.key
      have c1 := hcells.val
      have h01 : (0 : Int) ≤ (k : Int) := by omega
      have h02 : (k : Int) < (l.length : Int) := by omega
      have a1 : IntKind.i64.wrap ((n : Int) + 1) = (n : Int) + 1 := IntWalk.i64_in _ (by omega)
      have a2 : IntKind.i64.wrap ((n : Int) + 1 + (c.key.size : Int)) = (n : Int) + 1 + (c.key.size : Int) := IntWalk.i64_in _ (by omega)
      have a3 : IntKind.i64.wrap ((n : Int) + 1 + (c.key.size : Int) + (c.val.size : Int)) = (n : Int) + 1 + (c.key.size : Int) + (c.val.size : Int) := IntWalk.i64_in _ (by omega)
      clear hwt hn
      go_wp2_with fail
      go_quiet (fail)
      clear a1 a2 a3
      by_cases h1 : 6000 < n + 1 + c.key.size + c.val.size
      · have g1 : decide ((6000 : Int) < (n : Int) + 1 + (c.key.size : Int) + (c.val.size : Int)) = true := by simp; omega
        go_wp2
        go_ret
        exact ⟨_, rfl, fun h => by simp at h, (hd.drewN _).below⟩
      · have g1 : decide ((6000 : Int) < (n : Int) + 1 + (c.key.size : Int) + (c.val.size : Int)) = false := by simp; omega
        by_cases h2 : 200 < k
        · have g2 : decide ((200 : Int) < (k : Int)) = true := by simp; omega
          go_wp2
          go_ret
          exact ⟨_, rfl, fun h => by simp at h, (hd.drewN _).below⟩
        · have g2 : decide ((200 : Int) < (k : Int)) = false := by simp; omega
          go_wp2
          go_roundw
          case rel => exact ⟨k + 1, by omega, by omega, by go_num, by rw [Hw.out]; go_num, by rw [Hw.out]; omega, hd.drewN _⟩
          case measure => simp [intOf]; omega
    · obtain rfl : k = l.length := by omega
      rw [List.take_length] at hw
      go_wp2
      go_ret
      exact ⟨_, rfl, fun _ => ⟨hw, hk2⟩, hd.below⟩
def CellsRel (w : World) (l : List Cl) (i : Value) (wr : World) : Prop := ∃ k : Nat, k ≤ l.length ∧ i = .int .i64 k ∧ Drew w wr
set_option maxRecDepth 100000 in
set_option maxHeartbeats 1600000 in
theorem cells_same (va vb : Value) (l : List Cl) (w : World) (ha : Sl w 4 va l.length (cls l)) (hb : Sl w 4 vb l.length (cls l)) : Calls Try.prog 19 #[va, vb] w fun e w' => e = .returned (.bool true) ∧ Drew w w' := by
  have hlen := ha.run_len Try.underlying22
  have hlen2 := hb.run_len Try.underlying22
  have hmx := ha.le'
  have hne : ((l.length : Int) != (l.length : Int)) = false := by simp
  go_enter Try.func19, Try.ntmps19
  go_wp2
  go_loopw [5] (fun i wr => CellsRel w l i wr) (fun i _ => l.length - (intOf i).toNat)
  case atStart => exact ⟨0, Nat.zero_le _, rfl, Drew.refl _⟩
  case round =>
    obtain ⟨k, hk, rfl, hd⟩ := hrel
    by_cases hlt : k < l.length
    · obtain ⟨A, c, hA, _, hcells, Hc⟩ := (ha.below' hd.below).atCl (P := Try.prog) Try.underlying22 Try.size39 k _ rfl hlt
      obtain ⟨A', c', hA', _, hcells', Hc'⟩ := (hb.below' hd.below).atCl (P := Try.prog) Try.underlying22 Try.size39 k _ rfl hlt
      obtain rfl : c = c' := by rw [Hc.out, Hc'.out]
      obtain ⟨c0, c1, c2, c3⟩ := hcells
      obtain ⟨d0, d1, d2, d3⟩ := hcells'
      have h01 : (0 : Int) ≤ (k : Int) := by omega
      have h02 : (k : Int) < (l.length : Int) := by omega
      have hq := fun w' : World => run_neC c c w'
      simp only [eqC_self, Cl.agg, Bool.not_true] at hq
      go_wp2_with fail
      go_quiet (fail)
      go_wp2
      go_roundw
      case rel => exact ⟨k + 1, by omega, by go_num, hd.drewN _⟩
      case measure => simp [intOf]; omega
    · go_wp2
      go_ret
      exact ⟨rfl, hd⟩
end Go.Proofs.Ytbepbbjeieafhaa.Bl

/-
  What the laws of chapter 8 share: bytes are one table's only, how long a table's bytes are, known, a nil table.
-/




namespace Go.Proofs.Ytbepbbjeieafhaa.Tb
open Go.RowKit L Oct Bl Fr
theorem follow_to {l : List Cl} (hl : buildN l = 0) : ∀ k, k ≤ (parts l).length → ∃ acc rest, FollowT (payload l) k acc rest
  | 0, _ => ⟨_, _, followT_start.2⟩
  | k + 1, hk => by
    obtain ⟨acc, rest, h⟩ := follow_to hl k (by omega)
    obtain ⟨_, _, _, h4, _⟩ := followT_step h l hl rfl (by omega)
    refine ⟨_, _, followT_more h (fun l0 h0 hp => ?_) h4⟩
    have e1 := followT_start.1 l hl rfl
    have e2 := followT_start.1 l0 h0 hp
    rw [e1] at e2
    simp only [Option.some.injEq, Prod.mk.injEq] at e2
    omega
theorem payload_one {l m : List Cl} (hl : buildN l = 0) (hm : buildN m = 0) (h : payload m = payload l) : m = l := by
  obtain ⟨acc, rest, hf⟩ := follow_to hl (parts l).length (Nat.le_refl _)
  have e1 := followT_start.1 l hl rfl
  have e2 := followT_start.1 m hm h
  rw [e1] at e2
  simp only [Option.some.injEq, Prod.mk.injEq] at e2
  rw [← followT_end hf hl rfl (Nat.le_refl _)]
  exact (followT_end hf hm h (by omega)).symm
theorem open_uniq {b : List UInt8} {l m : List Cl} (hl : OpenOk b l) (hm : OpenOk b m) (hb : b.length ≤ 40000) : m = l := by
  have h1 := open_one hl hb
  have h2 := open_one hm hb
  rw [h1] at h2
  simp only [Prod.mk.injEq, and_true] at h2
  exact payload_one hl.1 hm.1 h2.symm
/-- how long a table's bytes are -/
theorem build_len2 {l : List Cl} (hb : buildN l = 0) (hw : weight l ≤ 6000) (hn : l.length ≤ 201) : (payload l).length ≤ 30000 ∧ (buildR l).length ≤ 30012 ∧ 1 ≤ (buildR l).length := by
  obtain ⟨hl1, hl2, hr⟩ := build_len hb
  have hk : ∀ c ∈ l, c.key.size ≤ 4096 ∧ c.val.size ≤ 16384 := fun c hc => isC_key (riseN_all hr c hc)
  have h1 := bl_le hk hl2 l.length (Nat.le_refl _)
  have hf : (bl l l.length).2.1 < l.length := by
    obtain ⟨j, hj⟩ : ∃ j, l.length = j + 1 := ⟨l.length - 1, by omega⟩
    rw [hj]
    have := bl_from l j; omega
  have h2 := partB_le hk (f := (bl l l.length).2.1) (t := l.length) hf (Nat.le_refl _) hl2
  have h3 := congrArg weight (take_sub (l := l) (f := (bl l l.length).2.1) (t := l.length) (by omega))
  rw [weight_append, List.take_length] at h3
  have hpl := partsU_len l l.length
  have e1 : (enc (parts l).length).length ≤ 9 := enc_le9 (by unfold parts; omega)
  have e2 : (enc l.length).length ≤ 9 := enc_le9 (by omega)
  have hkl : (keys l).length ≤ 201 := Nat.le_trans (keysU_len l l.length) hn
  have e3 : (BloomP.make (Bloom.keysOf (keys l))).length ≤ 300 := by
    rw [BloomP.make_length]
    have : (Bloom.keysOf (keys l)).length = (keys l).length := by simp [Bloom.keysOf]
    rw [this]; unfold BloomP.room; omega
  have e4 : (enc (BloomP.make (Bloom.keysOf (keys l))).length).length ≤ 9 := enc_le9 (by omega)
  have e5 : ((parts l).flatMap (partB l)).length ≤ 2 * weight l + 73 * l.length := by
    rw [parts, partsU, if_neg (by omega), List.flatMap_append, List.length_append, List.flatMap_cons, List.flatMap_nil, List.append_nil]
    omega
  have hp : (payload l).length ≤ 30000 := by
    simp only [payload, bodyU, List.take_length, row, List.length_append]
    omega
  refine ⟨hp, ?_, ?_⟩
  · rw [buildR, if_pos hb, rec_length]; omega
  · rw [buildR, if_pos hb, rec_length]; omega
theorem open_ok {l : List Cl} (h : buildN l = 0) : OpenOk (buildR l) l := ⟨h, rfl⟩
theorem open_yes {w w' : World} {b : List UInt8} {l : List Cl} {e : Ending} (hl : OpenOk b l) (hb : b.length ≤ 40000) (h : RetOpen w b e w') : ∃ tb, e = .returned (.tuple #[.pointer (some ⟨tb, 0, none⟩), .int .i64 0]) ∧ Hold w ((Tab tb l).sep Asrt.emp) w' := by
  rcases h with ⟨m, tb, hm, rfl, h⟩ | ⟨hno, _⟩
  · obtain rfl := open_uniq hl hm hb
    exact ⟨tb, rfl, h⟩
  · exact (hno l hl).elim
theorem _root_.Go.Proofs.Ytbepbbjeieafhaa.L.Hold.onto {W0 w w' : World} {A R : Asrt} (h : Hold W0 R w) (k : Hold w A w') : Hold W0 (A.sep R) w' := by
  obtain ⟨hb, F, hF, hA⟩ := k
  exact h.add hb hA hF
section nil
variable (w : World)
theorem len_nil : Calls Try.prog 21 #[.pointer none] w fun e w' => e = .returned (.int .i64 0) ∧ w = w' := by
  go_enter Try.func21, Try.ntmps21
  go_wp2
  go_ret
  exact ⟨rfl, rfl⟩
theorem blocks8_nil : Calls Try.prog 22 #[.pointer none] w fun e w' => e = .returned (.int .i64 0) ∧ w = w' := by
  go_enter Try.func22, Try.ntmps22
  go_wp2
  go_ret
  exact ⟨rfl, rfl⟩
theorem first8_nil : Calls Try.prog 25 #[.pointer none] w fun e w' => e = .returned (.string ⟨#[]⟩) ∧ w = w' := by
  go_enter Try.func25, Try.ntmps25
  go_wp2
  go_ret
  exact ⟨rfl, rfl⟩
theorem last8_nil : Calls Try.prog 26 #[.pointer none] w fun e w' => e = .returned (.string ⟨#[]⟩) ∧ w = w' := by
  go_enter Try.func26, Try.ntmps26
  go_wp2
  go_ret
  exact ⟨rfl, rfl⟩
theorem scan_nil (a b : ByteArray) : Calls Try.prog 20 #[.pointer none, .string a, .string b] w fun e w' => e = .returned (.slice none 0 0) ∧ w = w' := by
  go_enter Try.func20, Try.ntmps20
  go_wp2
  go_ret
  exact ⟨rfl, rfl⟩
theorem get_nil (a : ByteArray) (q : Int) : Calls Try.prog 17 #[.pointer none, .string a, .int .i64 q] w fun e w' => e = .returned (.tuple #[zeroC, .bool false]) ∧ Below w.heap.size w w' := by
  have H4 := (Hold.start w).addBlk (cs := #[.string ⟨#[]⟩, .string ⟨#[]⟩, .bool false, .int .i64 0]) (t := 39) (b := w.heap.size) rfl
  go_enter Try.func17, Try.ntmps17
  go_upto_region 1 with fail
  have f0 := blk_free H4.blk 0
  have f1 := blk_free H4.blk 1
  have f2 := blk_free H4.blk 2
  have f3 := blk_free H4.blk 3
  have k0 := blk_cell H4.blk 0
  have k1 := blk_cell H4.blk 1
  have k2 := blk_cell H4.blk 2
  have k3 := blk_cell H4.blk 3
  have s0 := blk_same H4.blk 0 (v := .string ⟨#[]⟩) rfl
  have s1 := blk_same H4.blk 1 (v := .string ⟨#[]⟩) rfl
  have s2 := blk_same H4.blk 2 (v := .bool false) rfl
  have s3 := blk_same H4.blk 3 (v := .int .i64 0) rfl
  have HB := Lib.hid H4.old
  clear H4
  go_wp2
  refine bodyPost_ret (v := .tuple #[zeroC, .bool false]) (by simp [results, Try.results17, go_sem, k0, k1, k2, k3, zeroC]) rfl ⟨rfl, HB.out⟩
end nil
def kl8 : List Cl := [⟨⟨#[97]⟩, ⟨#[120]⟩, false, 2⟩, ⟨⟨#[97]⟩, ⟨#[121]⟩, false, 1⟩]
theorem kl8_build : buildN kl8 = 0 := by decide +kernel
theorem kl8_parts : (parts kl8).length = 1 := by decide +kernel
theorem kl8_rises : risesB kl8 = true := by decide +kernel
theorem kl8_weight : weight kl8 ≤ 6000 := by decide +kernel
theorem kl8_seek : seekC kl8 ⟨#[97]⟩ 1 = (⟨⟨#[97]⟩, ⟨#[121]⟩, false, 1⟩, true) := by
  refine seekC_at (k := 1) (by decide) (fun j hj => ?_) (by decide +kernel)
  obtain rfl : j = 0 := by omega
  decide +kernel
set_option maxRecDepth 100000 in
set_option maxHeartbeats 1600000 in
theorem known_any (w : World) : Calls Try.prog 13 #[] w fun e w' => e = .returned (.bool true) ∧ Below w.heap.size w w' := by
  have hs := sl_builtC w kl8 39 (by simp [kl8, maxLen]) (b := w.heap.size) rfl
  have hln := build_len2 kl8_build kl8_weight (by decide)
  go_enter Try.func13, Try.ntmps13
  go_wp2_with fail
  refine (build_any _ kl8 _ hs (fun _ => by omega)).mono ?_
  rintro e w1 ⟨v1, rfl, ho1, hb1⟩
  rw [kl8_build]
  have HK := Lib.hid (open_ok kl8_build)
  obtain ⟨B, hB⟩ : ∃ B, B = buildR kl8 := ⟨_, rfl⟩
  rw [← hB] at ho1 HK hln
  have H1 := Lib.hid (((Hold.start w).keeps (below_one w (.cells (cls kl8).toArray 39))).addRow hb1 ho1)
  have hBl : B.length ≤ 40000 := by omega
  clear hb1 ho1 hs hB hln
  go_wp2_with fail
  refine (open_any v1 B _ H1.out.sl hBl).mono ?_
  rintro e w2 h2
  obtain ⟨tb, rfl, hT⟩ := open_yes HK.out hBl h2
  have H2 := Lib.hid ((Hold.onto H1.out hT).perm (B := (Tab tb kl8).sep (Asrt.emp.sep (((Row _ 1 v1 B.length (u8s B)).sep Asrt.emp)))) (by ac_rfl))
  clear hT h2 H1
  go_wp2_with fail
  refine (get_any H2.out (by decide) kl8_rises ⟨#[97]⟩ (by decide) 1).mono ?_
  rintro e w3 ⟨rfl, hb3⟩
  rw [kl8_seek, Cl.agg]
  have H3 := ((H2.out.keeps hb3).addBlk (cs := #[.string ⟨#[97]⟩, .string ⟨#[121]⟩, .bool false, .int .i64 1]) (t := 39) (b := w3.heap.size) rfl)
  have k1 := blk_cell H3.blk 1
  have hlen := len_any H3.up2
  have hfirst := first8_any H3.up2 (by decide)
  have hblk := blocks8_any H3.up2
  rw [kl8_parts] at hblk
  rw [show (kl8.getD 0 default).key = ⟨#[97]⟩ from rfl] at hfirst
  rw [show kl8.length = 2 from rfl] at hlen
  have HH := Lib.hid H3.old
  clear H2 hb3 H3
  go_wp2_with (first
    | (go_at_call 21; refine hlen.mono ?_; rintro e w4 ⟨rfl, rfl⟩)
    | (go_at_call 25; refine hfirst.mono ?_; rintro e w4 ⟨rfl, rfl⟩)
    | (go_at_call 22; refine hblk.mono ?_; rintro e w4 ⟨rfl, rfl⟩)
    | fail)
  go_ret
  exact ⟨rfl, HH.out⟩
end Go.Proofs.Ytbepbbjeieafhaa.Tb

/-
  Masks and remainders of indexes. Over any program.
-/

namespace Go.Proofs.Ytbepbbjeieafhaa.L
open Go.RowKit
theorem mask30 (z : Int) : ∃ j : Nat, bits .and .i64 z 1073741823 = (j : Int) ∧ j ≤ 1073741823 := by
  refine ⟨(BitVec.ofInt 64 z &&& BitVec.ofInt 64 1073741823).toNat, ?_, ?_⟩
  · show IntKind.i64.wrap ((BitVec.ofInt 64 z &&& BitVec.ofInt 64 1073741823).toNat : Int) = _
    refine IntWalk.i64_in _ ?_
    have : (BitVec.ofInt 64 z &&& BitVec.ofInt 64 1073741823).toNat ≤ (BitVec.ofInt 64 1073741823).toNat := by rw [BitVec.toNat_and]; exact Nat.and_le_right
    have e : (BitVec.ofInt 64 1073741823).toNat = 1073741823 := by decide
    omega
  · have : (BitVec.ofInt 64 z &&& BitVec.ofInt 64 1073741823).toNat ≤ (BitVec.ofInt 64 1073741823).toNat := by rw [BitVec.toNat_and]; exact Nat.and_le_right
    have e : (BitVec.ofInt 64 1073741823).toNat = 1073741823 := by decide
    omega
/-- (at & mask) % n: a place below n -/
theorem place30 (z : Int) (n : Nat) (hn : 0 < n) : ∃ j m : Nat, bits .and .i64 z 1073741823 = (j : Int) ∧ j ≤ 1073741823 ∧ (j : Int) % (n : Int) = (m : Int) ∧ m < n := by
  obtain ⟨j, h1, h2⟩ := mask30 z
  exact ⟨j, j % n, h1, h2, by omega, Nat.mod_lt _ hn⟩
theorem u8_lit {z : Int} (h : (Lit.int .u8 z).wf = true) : ∃ y : UInt8, z = (y.toNat : Int) := ⟨toU8 z, (toU8_wf h).symm⟩
theorem xor_u8 (x y : UInt8) : bits .xor .u8 (x.toNat : Int) (y.toNat : Int) = ((x ^^^ y).toNat : Int) := by
  rw [u8_xor_nat _ _ x.toNat_lt y.toNat_lt, UInt8.toNat_xor]
theorem xor_ne (x y : UInt8) (h : y.toNat ≠ 0) : x ^^^ y ≠ x := by
  intro e
  have h1 : x.toBitVec ^^^ y.toBitVec = x.toBitVec := congrArg UInt8.toBitVec e
  have h2 : x.toBitVec ^^^ (x.toBitVec ^^^ y.toBitVec) = x.toBitVec ^^^ x.toBitVec := by rw [h1]
  rw [← BitVec.xor_assoc, BitVec.xor_self, BitVec.zero_xor] at h2
  apply h
  have := congrArg BitVec.toNat h2
  simpa using this
theorem i64_lit {z : Int} (h : (Lit.int .i64 z).wf = true) : -9223372036854775808 ≤ z ∧ z ≤ 9223372036854775807 := by
  simpa [Lit.wf, IntKind.min, IntKind.max, IntKind.signed, IntKind.bits] using h
end Go.Proofs.Ytbepbbjeieafhaa.L
