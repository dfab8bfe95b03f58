/-
  Part 5 of the texts that the proofs of this seat stand on: contracts of functions and plain lemmas, one text behind the other. Conditions: those that each theorem states.
-/
import Derived.Deep.QuietTactic
import Derived.BigQuiet
import Derived.WalkSmall
import Derived.StillTailTactics
import Derived.WalkLawsBesides
import Derived.Deep.RegionWith
import Derived.Test.YtbepbbjeieafhaaM4
/-
  The reference's Decode of chapter 7: what it answers.
-/



namespace Go.Proofs.Ytbepbbjeieafhaa.Bl
open Go.RowKit L Oct
def XRel (w : World) (b : List UInt8) (br : Nat) (y : Value) (wr : World) : Prop :=
  ∃ ll rest, Hold w ((Xd w br rest false).sep ((Row 39 4 y ll.length (cls ll)).sep Asrt.emp)) wr ∧ Follow b ll rest false ∧ ll.length + rest.length ≤ b.length ∧ (∀ c ∈ ll, c.key.size ≤ ll.length * 100000)
/-- what is taken besides, if the cell is not gone -/
def ValD (d : Nat) (l4 : List UInt8) (b4 : Bool) (V : ByteArray) (l5 : List UInt8) (b5 : Bool) : Prop :=
  (d = 0 ∧ V = ⟨(got [] (decRow l4)).toArray⟩ ∧ l5 = left (decRow l4) ∧ b5 = (b4 || (decRow l4).isNone)) ∨ (d ≠ 0 ∧ V = ⟨#[]⟩ ∧ l5 = l4 ∧ b5 = b4)
theorem xstep_no {b : List UInt8} {ll : List Cl} {rest l4 l5 : List UInt8} {n d : Nat} {b4 b5 : Bool} {V : ByteArray} {A B : Cl} (hF : Follow b ll rest false) (hne : ¬ rest = [])
    (hC : cellD (lastKey ll) rest false = if (lastKey ll).size < n then (default, [], true) else if d = 0 then (A, left (decRow l4), b4 || (decRow l4).isNone) else (B, l4, b4))
    (hV : ValD d l4 b4 V l5 b5) (hdel : delOf rest = d) (hbad : b5 = true ∨ (lastKey ll).size < n ∨ 1 < d) : ∀ l0, ¬ DecOk b l0 := by
  intro l0 h0
  have hk := (follow_key (follow_step hF hne) h0).2
  have hd := follow_del hF hne h0
  rw [hC] at hk
  rcases hbad with h | h | h
  · by_cases hs : (lastKey ll).size < n
    · rw [if_pos hs] at hk; cases hk
    · rw [if_neg hs] at hk
      rcases hV with ⟨hd0, _, _, h5⟩ | ⟨hd0, _, _, h5⟩
      · rw [if_pos hd0, ← h5, h] at hk; cases hk
      · rw [if_neg hd0, ← h5, h] at hk; cases hk
  · rw [if_pos h] at hk; cases hk
  · omega
theorem xstep_yes {ahead : ByteArray} {rest l4 l5 : List UInt8} {n d : Nat} {b4 : Bool} {V K : ByteArray} {q : Int}
    (hC : cellD ahead rest false = if ahead.size < n then (default, [], true) else if d = 0 then (⟨K, ⟨(got [] (decRow l4)).toArray⟩, false, q⟩, left (decRow l4), b4 || (decRow l4).isNone) else (⟨K, ByteArray.empty, true, q⟩, l4, b4))
    (hV : ValD d l4 b4 V l5 false) (hn : ¬ ahead.size < n) (hd : ¬ 1 < d) : cellD ahead rest false = (⟨K, V, (d : Int) == 1, q⟩, l5, false) := by
  rw [hC, if_neg hn]
  rcases hV with ⟨hd0, rfl, rfl, h5⟩ | ⟨hd0, rfl, rfl, rfl⟩
  · rw [if_pos hd0, ← h5, hd0]; rfl
  · obtain rfl : d = 1 := by omega
    rfl
set_option maxRecDepth 1000000 in
set_option maxHeartbeats 3200000 in
theorem xdecode_any (v : Value) (b : List UInt8) (w : World) (h : Sl w 1 v b.length (u8s b)) (hn : b.length ≤ 100000) : Calls Try.prog 52 #[v] w (RetDec w b) := by
  have H1 := addXdOld (Hold.start w) h (b := w.heap.size) rfl
  have H0 := (H1.addNil 39 4).up2
  clear H1
  obtain ⟨ao0, cap0, rfl⟩ := h.shape
  obtain ⟨bx, hbx⟩ : ∃ bx, bx = w.heap.size := ⟨_, rfl⟩
  rw [← hbx] at H0
  go_enter Try.func52, Try.ntmps52
  go_wp2_with fail
  rw [← hbx]
  clear hbx
  go_loopw [5] (fun y wr => XRel w b bx y wr) (fun y _ => b.length - lenOf y)
  case atStart => exact ⟨[], b, H0, follow_start b, by simp, by simp⟩
  case round =>
    clear H0
    obtain ⟨ll, rest, H, HF, hle, hks⟩ := hrel
    obtain ⟨ao, cap, rfl⟩ := H.up2.own.shape
    have Hks := Lib.hid hks
    clear hks
    have hlen := H.up2.sl.run_len Try.underlying22
    obtain ⟨v', hb, _, hsl, _⟩ := xd_open H
    have hlen' := hsl.run_len Try.underlying24
    have k0 := blk_cell hb 0
    have k1 := blk_cell hb 1
    clear hb hsl
    by_cases hne : rest = []
    · subst hne
      have Hsl := H.up2.sl
      have hll : ll.length ≤ 100000 := by simp at hle; omega
      clear hle
      go_wp2_with fail
      refine (xencode_any _ ll _ Hsl hll).mono ?_
      rintro e w3 ⟨v3, rfl, ho3, hb3⟩
      have H3 := H.keeps hb3
      have s3 := ho3.sl
      have hs := h.below' H3.old
      have h11 := riseN_small ll
      have HH := Lib.hid H3.old
      have Ho := Lib.hid H3.drop1.fin.1
      obtain ⟨v'', hb, _, _, _⟩ := xd_open H3
      have m1 := blk_cell hb 1
      clear ho3 hb3 Hsl H H3 hb k0 k1
      by_cases hr : riseN ll = 0
      · have hz : ((riseN ll : Int) != 0) = false := by simp [hr]
        have hR : Hid (encR ll = encL ll) := Lib.hid (by rw [encR, if_pos hr])
        have Hr := Lib.hid hr
        have cv1 := s3.run_string (src := 24) (dst := 9) Try.underlying24 Try.underlying5 Try.underlying9
        have cv2 := hs.run_string (src := 24) (dst := 9) Try.underlying24 Try.underlying5 Try.underlying9
        obtain ⟨S1, hS1⟩ : ∃ S1, S1 = ByteArray.mk (encR ll).toArray := ⟨_, rfl⟩
        obtain ⟨S2, hS2⟩ : ∃ S2, S2 = ByteArray.mk b.toArray := ⟨_, rfl⟩
        rw [← hS1] at cv1
        rw [← hS2] at cv2
        have hq : S1.toList = encR ll ∧ S2.toList = b := by
          rw [hS1, hS2, ByteArray.toList_eq, ByteArray.toList_eq]
          exact ⟨rfl, rfl⟩
        have Hq := Lib.hid hq
        clear hr hS1 hS2 hq
        by_cases he : encR ll = b
        · have hd : (S1.toList == S2.toList) = true := by rw [Hq.out.1, Hq.out.2]; simpa using he
          have hok : Hid (DecOk b ll) := Lib.hid ⟨Hr.out, by rw [← hR.out]; exact he⟩
          clear he HF
          go_wp2
          go_ret2
          exact ⟨HH.out, .inl ⟨ll, _, hok.out, rfl, Ho.out⟩⟩
        · have hd : (S1.toList == S2.toList) = false := by rw [Hq.out.1, Hq.out.2]; simpa using he
          have hno : Hid (∀ l, ¬ DecOk b l) := Lib.hid fun l0 h0 => he (by
            obtain ⟨rfl, _⟩ := follow_end HF h0
            rw [hR.out]; exact h0.2)
          clear he HF
          go_wp2
          go_ret2
          exact ⟨HH.out, .inr ⟨hno.out, rfl⟩⟩
      · have hz : ((riseN ll : Int) != 0) = true := by simp [hr]
        have hno : Hid (∀ l, ¬ DecOk b l) := Lib.hid fun l0 h0 => by
          obtain ⟨rfl, _⟩ := follow_end HF h0
          exact hr h0.1
        clear HF hr
        go_wp2
        go_ret2
        exact ⟨HH.out, .inr ⟨hno.out, rfl⟩⟩
    · have hpos : 0 < rest.length := List.length_pos_iff.2 hne
      have Hne := Lib.hid hne
      have HF3 := Lib.hid HF
      have hrl : rest.length ≤ 100000 := by omega
      clear hne HF
      go_wp2_with fail
      refine (xnum_any H (by omega)).mono ?_
      rintro e w2 ⟨rfl, H2⟩
      have hl1 := left_dec' rest
      obtain ⟨n, hn0⟩ : ∃ n, n = got 0 (dec 0 0 rest) := ⟨_, rfl⟩
      obtain ⟨l1, h1⟩ : ∃ l1, l1 = left (dec 0 0 rest) := ⟨_, rfl⟩
      obtain ⟨b1, g1⟩ : ∃ b1, b1 = (false || (dec 0 0 rest).isNone) := ⟨_, rfl⟩
      rw [← h1, ← g1] at H2
      rw [← hn0]
      rw [← h1] at hl1
      have E1 := Lib.hid (And.intro hn0 (And.intro h1 g1))
      clear hn0 h1 g1 H k0 k1
      go_wp2_with fail
      refine (xbytes_any H2 (by omega)).mono ?_
      rintro e w3 ⟨v3, rfl, H3⟩
      obtain ⟨ao3, cap3, rfl⟩ := H3.own.shape
      have hl2 := left_decRow l1
      have hx2 := got_decRow l1
      obtain ⟨x, hx⟩ : ∃ x, x = got [] (decRow l1) := ⟨_, rfl⟩
      obtain ⟨l2, h2⟩ : ∃ l2, l2 = left (decRow l1) := ⟨_, rfl⟩
      obtain ⟨b2, g2⟩ : ∃ b2, b2 = (b1 || (decRow l1).isNone) := ⟨_, rfl⟩
      rw [← h2, ← g2, ← hx] at H3
      rw [← h2] at hl2
      rw [← hx] at hx2
      rw [← hx]
      have E2 := Lib.hid (And.intro hx (And.intro h2 g2))
      clear hx h2 g2 H2
      go_wp2_with fail
      refine (xnum_any H3.up2 (by omega)).mono ?_
      rintro e w4 ⟨rfl, H4⟩
      have hl3 := left_dec' l2
      obtain ⟨q, hq⟩ : ∃ q, q = got 0 (dec 0 0 l2) := ⟨_, rfl⟩
      obtain ⟨l3, h3⟩ : ∃ l3, l3 = left (dec 0 0 l2) := ⟨_, rfl⟩
      obtain ⟨b3, g3⟩ : ∃ b3, b3 = (b2 || (dec 0 0 l2).isNone) := ⟨_, rfl⟩
      rw [← h3, ← g3] at H4
      rw [← hq]
      rw [← h3] at hl3
      have E3 := Lib.hid (And.intro hq (And.intro h3 g3))
      have H5 := (H4.addBlk (cs := #[.string ⟨#[]⟩, .string ⟨#[]⟩, .bool false, .int .i64 q]) (t := 39) (b := w4.heap.size) rfl).up2
      clear hq h3 g3 H3 H4
      obtain ⟨bc, hbc⟩ : ∃ bc, bc = w4.heap.size := ⟨_, rfl⟩
      rw [← hbc] at H5
      go_wp2_with fail
      rw [← hbc]
      clear hbc
      refine (xnum_any H5 (by omega)).mono ?_
      rintro e w5 ⟨rfl, H6⟩
      have hl4 := left_dec' l3
      obtain ⟨d, hd⟩ : ∃ d, d = got 0 (dec 0 0 l3) := ⟨_, rfl⟩
      obtain ⟨l4, h4⟩ : ∃ l4, l4 = left (dec 0 0 l3) := ⟨_, rfl⟩
      obtain ⟨b4, g4⟩ : ∃ b4, b4 = (b3 || (dec 0 0 l3).isNone) := ⟨_, rfl⟩
      rw [← h4, ← g4] at H6
      rw [← hd]
      rw [← h4] at hl4
      have E4 := Lib.hid (And.intro hd (And.intro h4 g4))
      have H7 := Lib.hid (H6.up2.setBlk 2 (.bool ((d : Int) == 1)))
      have f2 := blk_free H6.up2.blk 2
      have k2 := blk_cell H6.up2.blk 2
      clear hd h4 g4 H5 H6
      go_upto_if 42 with fail
      obtain ⟨w6, hw6⟩ : ∃ w6, w6 = w5.setCell ⟨bc, 2, none⟩ (.bool ((d : Int) == 1)) := ⟨_, rfl⟩
      have H8 := H7.out
      rw [← hw6] at H8 ⊢
      have H8 : Hold w ((Blk bc #[.string ⟨#[]⟩, .string ⟨#[]⟩, .bool ((d : Int) == 1), .int .i64 q] 39).sep _) w6 := H8
      clear hw6 H7 f2 k2
      go_cut [] (fun wc => ∃ (V : ByteArray) (l5 : List UInt8) (b5 : Bool), Hid (ValD d l4 b4 V l5 b5) ∧ Hold w ((Blk bc #[.string ⟨#[]⟩, .string V, .bool ((d : Int) == 1), .int .i64 q] 39).sep ((Xd w bx l5 b5).sep ((Row 5 1 (.slice ao3 x.length cap3) x.length (u8s x)).sep ((Row 39 4 (.slice ao ll.length cap) ll.length (cls ll)).sep Asrt.emp)))) wc)
      case first =>
        by_cases hd0 : d = 0
        · have hz : ((d : Int) == 0) = true := by simpa using hd0
          have Hd0 := Lib.hid hd0
          clear hd0
          go_wp2_with fail
          refine (xbytes_any H8.up2 (by omega)).mono ?_
          rintro e w7 ⟨v7, rfl, H9⟩
          obtain ⟨ao7, cap7, rfl⟩ := H9.own.shape
          have hcv := H9.own.sl.run_string (src := 24) (dst := 9) Try.underlying24 Try.underlying5 Try.underlying9
          have H10 := H9.drop1.up2
          have f1 := blk_free H10.blk 1
          have kk1 := blk_cell H10.blk 1
          have H11 := Lib.hid (H10.setBlk 1 (.string ⟨(got [] (decRow l4)).toArray⟩))
          clear H8 H9 H10
          go_wp2_with fail
          go_meet
          exact ⟨_, _, _, Lib.hid (.inl ⟨Hd0.out, rfl, rfl, rfl⟩), H11.out⟩
        · have hz : ((d : Int) == 0) = false := by simpa using hd0
          have Hd0 := Lib.hid hd0
          have H9 := Lib.hid H8
          clear hd0 H8
          go_wp2_with fail
          go_meet
          exact ⟨_, _, _, Lib.hid (.inr ⟨Hd0.out, rfl, rfl, rfl⟩), H9.out⟩
      case rest =>
        clear H8
        obtain ⟨V, l5, b5, HV, H9⟩ := hcut
        have Hlk := Lib.hid (lastKey_le Hks.out)
        go_upto_if 49 with fail
        go_cut [10] (fun s6 wd => s6 = .string (lastKey ll) ∧ wd = wc)
        case first =>
          by_cases hl0 : ll = []
          · subst hl0
            have hlk : Hid (lastKey [] = ⟨#[]⟩) := Lib.hid rfl
            go_wp2
            go_meet
            exact ⟨by rw [hlk.out], rfl⟩
          · have hlp : 0 < ll.length := List.length_pos_iff.2 hl0
            obtain ⟨A, c, hA, _, hcells, Hc⟩ := H9.up4.sl.atCl (P := Try.prog) Try.underlying22 Try.size39 (ll.length - 1) ((ll.length : Int) - 1) (by omega) (by omega)
            have hlk : Hid (lastKey ll = c.key) := Lib.hid (by rw [lastKey, if_neg hl0, Hc.out])
            have c0 := hcells.key
            clear hl0
            go_wp2
            go_meet
            exact ⟨by rw [hlk.out], rfl⟩
        case rest =>
          obtain ⟨rfl, rfl⟩ := hcut
          have HcD := Lib.hid (cellD_get (ahead := lastKey ll) E1.out.1 E1.out.2.1 E1.out.2.2 E2.out.1 E2.out.2.1 E2.out.2.2 E3.out.1 E3.out.2.1 E3.out.2.2 E4.out.1 E4.out.2.1 E4.out.2.2)
          have Hdel : Hid (delOf rest = d) := Lib.hid (by rw [delOf, ← E1.out.2.1, ← E2.out.2.1, ← E3.out.2.1, ← E4.out.1])
          obtain ⟨v', hb, _, hsl, _⟩ := xd_open H9.up2
          have k1 := blk_cell hb 1
          have hl5 : l5.length ≤ rest.length := by
            rcases HV.out with ⟨_, _, h5, _⟩ | ⟨_, _, h5, _⟩
            · have := left_decRow l4; rw [h5]; omega
            · rw [h5]; omega
          clear hb hsl hl2 hl3 hl4 E1 E2 E3 E4
          cases b5 with
          | true =>
            have hno := Lib.hid (xstep_no HF3.out Hne.out HcD.out HV.out Hdel.out (.inl rfl))
            have HH := Lib.hid H9.old
            clear H9
            go_wp2
            go_ret2
            exact ⟨HH.out, .inr ⟨hno.out, rfl⟩⟩
          | false =>
            by_cases hah : (lastKey ll).size < n
            · have hg : decide (((lastKey ll).size : Int) < (n : Int)) = true := by simpa using hah
              have hg' : decide ((lastKey ll).size < n) = true := by simpa using hah
              have hno := Lib.hid (xstep_no HF3.out Hne.out HcD.out HV.out Hdel.out (.inr (.inl hah)))
              have HH := Lib.hid H9.old
              clear H9 hah
              go_wp2
              go_ret2
              exact ⟨HH.out, .inr ⟨hno.out, rfl⟩⟩
            · have hg : decide (((lastKey ll).size : Int) < (n : Int)) = false := by simpa using hah
              have hg' : decide ((lastKey ll).size < n) = false := by simpa using hah
              by_cases hd1 : 1 < d
              · have hh : decide ((1 : Int) < (d : Int)) = true := by simp; omega
                have hh' : decide (1 < d) = true := by simpa using hd1
                have hno := Lib.hid (xstep_no HF3.out Hne.out HcD.out HV.out Hdel.out (.inr (.inr hd1)))
                have HH := Lib.hid H9.old
                clear H9 hah hd1
                go_wp2
                go_ret2
                exact ⟨HH.out, .inr ⟨hno.out, rfl⟩⟩
              · have hh : decide ((1 : Int) < (d : Int)) = false := by simp; omega
                have hh' : decide (1 < d) = false := by simpa using hd1
                have hD := Lib.hid (xstep_yes HcD.out HV.out hah hd1)
                have hlt := cellD_lt (lastKey ll) rest false Hne.out
                have HF5 := Lib.hid (follow_step HF3.out Hne.out)
                rw [hD.out] at hlt HF5
                have hlk2 := Hlk.out
                have hadd : ((lastKey ll).extract 0 n).size + (ByteArray.mk x.toArray).size ≤ 9223372036854775807 := by
                  have e1 : ((lastKey ll).extract 0 n).size = n := by rw [ByteArray.size_extract]; omega
                  have e2 : (ByteArray.mk x.toArray).size = x.length := by simp [ByteArray.size]
                  omega
                have hks2 : Hid (∀ y : Cl, y ∈ ll ++ [⟨(lastKey ll).extract 0 n ++ ⟨x.toArray⟩, V, (d : Int) == 1, q⟩] → y.key.size ≤ (ll.length + 1) * 100000) := Lib.hid fun y hy => by
                  rcases List.mem_append.1 hy with hy | hy
                  · have := Hks.out y hy; omega
                  · obtain rfl := List.mem_singleton.1 hy
                    have e1 : ((lastKey ll).extract 0 n).size = n := by rw [ByteArray.size_extract]; omega
                    have e2 : (ByteArray.mk x.toArray).size = x.length := by simp [ByteArray.size]
                    show ((lastKey ll).extract 0 n ++ ⟨x.toArray⟩).size ≤ _
                    rw [ByteArray.size_append]
                    omega
                have hn1 : (n : Int) ≤ ((lastKey ll).size : Int) := by omega
                have hn2 : (0 : Int) ≤ (n : Int) := by omega
                have hrun := fun w' : World => run_string_add_sum (P := Try.prog) (w := w') _ _ hadd
                have hcv := H9.up3.own.sl.run_string (src := 24) (dst := 9) Try.underlying24 Try.underlying5 Try.underlying9
                have f0 := blk_free H9.blk 0
                have kk0 := blk_cell H9.blk 0
                have H10 := Lib.hid (H9.setBlk 0 (.string ((lastKey ll).extract 0 n ++ ⟨x.toArray⟩)))
                have hcv' : (convert 24 9 (.slice ao3 x.length cap3)).run Try.prog wc.drew = .ok (.string ⟨x.toArray⟩) wc.drew := (Sl.drew H9.up3.own.sl).run_string (src := 24) (dst := 9) Try.underlying24 Try.underlying5 Try.underlying9
                have E := Lib.hid (H10.out.drew.up3.own.sl.run_string (src := 24) (dst := 9) Try.underlying24 Try.underlying5 Try.underlying9)
                clear hadd hah hd1 H9 hlk2
                go_wp2_with fail
                go_region_held3 (fun w' => (convert 24 9 (.slice ao3 x.length cap3)).run Try.prog w' = .ok (.string ⟨x.toArray⟩) w') (first | exact E.out | exact hcv' | go_keep) (fail)
                obtain ⟨K, hK⟩ : ∃ K, K = (lastKey ll).extract 0 n ++ ⟨x.toArray⟩ := ⟨_, rfl⟩
                obtain ⟨w7, hw7⟩ : ∃ w7, w7 = (wc.setCell ⟨bc, 0, none⟩ (.string ((lastKey ll).extract 0 n ++ ⟨x.toArray⟩))).drew := ⟨_, rfl⟩
                have H11 : Hold w ((Blk bc #[.string K, .string V, .bool ((d : Int) == 1), .int .i64 q] 39).sep ((Xd w bx l5 false).sep ((Row 5 1 (.slice ao3 x.length cap3) x.length (u8s x)).sep ((Row 39 4 (.slice ao ll.length cap) ll.length (cls ll)).sep Asrt.emp)))) w7 := by rw [hw7, hK]; exact H10.out.drew
                rw [← hw7]
                rw [← hK] at HF5 hks2
                clear hrun E H10 hcv hcv' f0 kk0 hn1 hn2 k1 hw7 hK
                have m0 := blk_cell H11.blk 0
                have m1 := blk_cell H11.blk 1
                have m2 := blk_cell H11.blk 2
                have m3 := blk_cell H11.blk 3
                have H12 := Lib.hid (H11.keeps (below_one _ (.cells #[.string K, .string V, .bool ((d : Int) == 1), .int .i64 q] 39))).up4
                clear H11
                go_wp2_with (at_builtin; refine wpList_appC H12.out rfl _ _ rfl rfl rfl (sl_builtC w7 [⟨K, V, (d : Int) == 1, q⟩] 39 (by simp [maxLen]) (b := w7.heap.size) rfl) (by simp only [List.length_singleton]; omega) ?_; intro ao8 n8 cap8 w8 N8 H13)
                have HG := Lib.hid H13.up2.drop1.up3.drop1.up2
                clear H12 H13 m0 m1 m2 m3
                go_roundw
                case rel => exact ⟨ll ++ [⟨K, V, (d : Int) == 1, q⟩], l5, HG.out, HF5.out, by rw [List.length_append, List.length_singleton]; omega, by rw [List.length_append, List.length_singleton]; exact hks2.out⟩
                case measure => simp [lenOf, N8.out]; omega
end Go.Proofs.Ytbepbbjeieafhaa.Bl

/-
  The first cell of a key that is not above a number, plain.
-/

namespace Go.Proofs.Ytbepbbjeieafhaa.Bl
open Go.RowKit L Oct
def hits (key : ByteArray) (q : Int) (c : Cl) : Bool := (c.key.toList == key.toList) && decide (c.seq ≤ q)
/-- the first cell of a key that is not above a number -/
def seekC (l : List Cl) (key : ByteArray) (q : Int) : Cl × Bool := match l.find? (hits key q) with | some c => (c, true) | none => (⟨⟨#[]⟩, ⟨#[]⟩, false, 0⟩, false)
def zeroC : Value := .agg #[.string ⟨#[]⟩, .string ⟨#[]⟩, .bool false, .int .i64 0]
theorem find_at {l : List Cl} {p : Cl → Bool} : ∀ {k : Nat}, k < l.length → (∀ j, j < k → p (l.getD j default) = false) → p (l.getD k default) = true → l.find? p = some (l.getD k default) := by
  induction l with
  | nil => intro k hk; simp at hk
  | cons c r ih =>
    intro k hk h1 h2
    cases k with
    | zero =>
      have h2' : p c = true := by simpa [List.getD] using h2
      rw [List.find?_cons_of_pos h2']; rfl
    | succ k =>
      have h0 := h1 0 (by omega)
      have h0' : ¬ p c = true := by simpa [List.getD] using h0
      rw [List.find?_cons_of_neg h0']
      have := ih (k := k) (by simpa using hk) (fun j hj => by simpa [List.getD] using h1 (j + 1) (by omega)) (by simpa [List.getD] using h2)
      simpa [List.getD] using this
theorem find_none {l : List Cl} {p : Cl → Bool} (h : ∀ j, j < l.length → p (l.getD j default) = false) : l.find? p = none := by
  rw [List.find?_eq_none]
  intro x hx
  obtain ⟨i, hi, rfl⟩ := List.getElem_of_mem hx
  have := h i hi
  rw [getD_get hi] at this
  simp [this]
theorem seekC_at {l : List Cl} {key : ByteArray} {q : Int} {k : Nat} (hk : k < l.length) (h1 : ∀ j, j < k → hits key q (l.getD j default) = false) (h2 : hits key q (l.getD k default) = true) : seekC l key q = (l.getD k default, true) := by
  rw [seekC, find_at hk h1 h2]
theorem seekC_none {l : List Cl} {key : ByteArray} {q : Int} (h : ∀ j, j < l.length → hits key q (l.getD j default) = false) : seekC l key q = (⟨⟨#[]⟩, ⟨#[]⟩, false, 0⟩, false) := by
  rw [seekC, find_none h]
end Go.Proofs.Ytbepbbjeieafhaa.Bl

/-
  The reference's First of chapter 7.
-/

namespace Go.Proofs.Ytbepbbjeieafhaa.Bl
open Go.RowKit L Oct
def FirstRel (w : World) (b6 : Nat) (l : List Cl) (key : ByteArray) (q : Int) (i : Value) (wr : World) : Prop :=
  ∃ k : Nat, k ≤ l.length ∧ i = .int .i64 k ∧ (∀ j, j < k → hits key q (l.getD j default) = false) ∧ Hold w ((Blk b6 #[.string ⟨#[]⟩, .string ⟨#[]⟩, .bool false, .int .i64 0] 39).sep Asrt.emp) wr
def RetFirst (w : World) (l : List Cl) (key : ByteArray) (q : Int) (e : Ending) (w' : World) : Prop := e = .returned (.tuple #[(seekC l key q).1.agg, .bool (seekC l key q).2]) ∧ Below w.heap.size w w'
set_option maxRecDepth 100000 in
set_option maxHeartbeats 1600000 in
theorem first_any (v : Value) (l : List Cl) (key : ByteArray) (q : Int) (w : World) (h : Sl w 4 v l.length (cls l)) : Calls Try.prog 18 #[v, .string key, .int .i64 q] w (RetFirst w l key q) := by
  have H0 := (Hold.start w).addBlk (cs := #[.string ⟨#[]⟩, .string ⟨#[]⟩, .bool false, .int .i64 0]) (t := 39) (b := w.heap.size) rfl
  obtain ⟨b6, hb6⟩ : ∃ b6, b6 = w.heap.size := ⟨_, rfl⟩
  rw [← hb6] at H0
  have hlen := h.run_len Try.underlying22
  have hmx := h.le'
  obtain ⟨ao, cap, rfl⟩ := h.shape
  go_enter Try.func18, Try.ntmps18
  go_wp2
  rw [← hb6]
  clear hb6
  go_loopw [8] (fun i wr => FirstRel w b6 l key q i wr) (fun i _ => l.length - (intOf i).toNat)
  case atStart => exact ⟨0, Nat.zero_le _, rfl, fun j hj => by omega, H0⟩
  case round =>
    clear H0
    obtain ⟨k, hk, rfl, hall, H⟩ := hrel
    have Hall := Lib.hid hall
    clear hall
    by_cases hlt : k < l.length
    · obtain ⟨A, c, hA, _, hcells, Hc⟩ := (h.below' H.old).atCl (P := Try.prog) Try.underlying22 Try.size39 k _ rfl hlt
      obtain ⟨c0, c1, c2, c3⟩ := hcells
      have H3 := Lib.hid H
      cases hhit : hits key q c with
      | true =>
        have hh := hhit
        simp only [hits, Bool.and_eq_true] at hh
        obtain ⟨hh1, hh2⟩ := hh
        have hS : Hid (seekC l key q = (c, true)) := Lib.hid (by rw [seekC_at hlt Hall.out (by rw [← Hc.out]; exact hhit), ← Hc.out])
        clear hhit H
        have H4 := H3.out
        have e0 := blk_cell H4.blk 0
        have e1 := blk_cell H4.blk 1
        have e2 := blk_cell H4.blk 2
        have e3 := blk_cell H4.blk 3
        have f0 := blk_free H4.blk 0
        have f1 := blk_free H4.blk 1
        have f2 := blk_free H4.blk 2
        have f3 := blk_free H4.blk 3
        have HZ := ((((H4.setBlk 0 (.string c.key)).setBlk 1 (.string c.val)).setBlk 2 (.bool c.del)).setBlk 3 (.int .i64 c.seq))
        have HH := Lib.hid HZ.old
        have k0 : _ = some (Value.string c.key) := blk_cell HZ.blk 0
        have k1 : _ = some (Value.string c.val) := blk_cell HZ.blk 1
        have k2 : _ = some (Value.bool c.del) := blk_cell HZ.blk 2
        have k3 : _ = some (Value.int .i64 c.seq) := blk_cell HZ.blk 3
        have KK := Lib.hid (And.intro k0 (And.intro k1 (And.intro k2 k3)))
        clear HZ H4 H3 k0 k1 k2 k3
        go_wp2
        obtain ⟨k0, k1, k2, k3⟩ := KK.out
        refine bodyPost_ret (v := .tuple #[.agg #[.string c.key, .string c.val, .bool c.del, .int .i64 c.seq], .bool true]) (by simp [results, Try.results18, go_sem, k0, k1, k2, k3]) rfl ⟨by rw [hS.out]; rfl, HH.out⟩
      | false =>
        have hN : Hid (∀ j, j < k + 1 → hits key q (l.getD j default) = false) := Lib.hid fun j hj => by
          by_cases e : j = k
          · subst e; rw [← Hc.out]; exact hhit
          · exact Hall.out j (by omega)
        have hh := hhit
        simp only [hits, Bool.and_eq_false_iff] at hh
        clear hhit H
        rcases hh with hh1 | hh1
        · go_wp2
          go_roundw
          case rel => exact ⟨k + 1, by omega, by go_num, hN.out, H3.out⟩
          case measure => simp [intOf]; omega
        · cases hkk : (c.key.toList == key.toList) with
          | true =>
            go_wp2
            go_roundw
            case rel => exact ⟨k + 1, by omega, by go_num, hN.out, H3.out⟩
            case measure => simp [intOf]; omega
          | false =>
            go_wp2
            go_roundw
            case rel => exact ⟨k + 1, by omega, by go_num, hN.out, H3.out⟩
            case measure => simp [intOf]; omega
    · have hS : Hid (seekC l key q = (⟨⟨#[]⟩, ⟨#[]⟩, false, 0⟩, false)) := Lib.hid (seekC_none fun j hj => Hall.out j (by omega))
      have k0 := blk_cell H.blk 0
      have k1 := blk_cell H.blk 1
      have k2 := blk_cell H.blk 2
      have k3 := blk_cell H.blk 3
      have f0 := blk_free H.blk 0
      have f1 := blk_free H.blk 1
      have f2 := blk_free H.blk 2
      have f3 := blk_free H.blk 3
      have s0 := blk_same H.blk 0 (v := .string ⟨#[]⟩) rfl
      have s1 := blk_same H.blk 1 (v := .string ⟨#[]⟩) rfl
      have s2 := blk_same H.blk 2 (v := .bool false) rfl
      have s3 := blk_same H.blk 3 (v := .int .i64 0) rfl
      have HH := Lib.hid H.old
      clear H
      go_wp2
      refine bodyPost_ret (v := .tuple #[zeroC, .bool false]) (by simp [results, Try.results18, go_sem, k0, k1, k2, k3, zeroC]) rfl ⟨by rw [hS.out]; rfl, HH.out⟩
end Go.Proofs.Ytbepbbjeieafhaa.Bl

/-
  Bloom (chapter 6): contracts of Hash, places, bit, May in the program and in the reference.
-/







namespace Go.Proofs.Ytbepbbjeieafhaa.Bloom
open Go.RowKit BloomP L
theorem num_snoc (l : List UInt8) (c : UInt8) : num (l ++ [c]) = hashStep (num l) c := by simp [num]
theorem step_eq (h : UInt32) (c : UInt8) : bits .xor .u32 (h.toNat : Int) (((c.toNat : Int)) % 4294967296) * 16777619 % 4294967296 = ((hashStep h c).toNat : Int) := by
  have hc := c.toNat_lt
  have hh := h.toNat_lt
  rw [Int.emod_eq_of_lt (a := (c.toNat : Int)) (by omega) (by omega), u32_xor_nat _ _ (by omega) (by omega)]
  simp only [hashStep, UInt32.toNat_mul, UInt32.toNat_xor, UInt8.toNat_toUInt32]
  show ((h.toNat ^^^ c.toNat : Nat) : Int) * 16777619 % 4294967296 = (((h.toNat ^^^ c.toNat) * 16777619 % 4294967296 : Nat) : Int)
  omega
set_option maxHeartbeats 400000 in
theorem hash_any (s : ByteArray) (w : World) (hs : s.size ≤ 9223372036854775807) :
    Calls Try.prog 84 #[.string s] w fun e w' => e = .returned (.int .u32 (num s.data.toList).toNat) ∧ w = w' := by
  go_enter Try.func84, Try.ntmps84
  go_wp2
  go_loop [3, 7] (fun h i => ∃ k : Nat, k ≤ s.size ∧ i = .int .i64 k ∧ h = .int .u32 (num (s.data.toList.take k)).toNat) (fun _ i => s.size - (intOf i).toNat)
  case atStart => exact ⟨0, Nat.zero_le _, rfl, rfl⟩
  case round =>
    obtain ⟨k, hk, rfl, rfl⟩ := hrel
    go_wp2
    · have hlt : k < s.size := by assumption
      go_round
      case rel => exact ⟨k + 1, by omega, by go_num, by rw [take_snoc s k hlt, num_snoc, step_eq]⟩
      case measure => simp [intOf]; omega
    · go_ret
      have : ¬ k < s.size := by assumption
      exact ⟨ret_int (by rw [List.take_of_length_le (by simp; omega)]), rfl⟩
set_option maxHeartbeats 400000 in
theorem hash_ref (s : ByteArray) (w : World) (hs : s.size ≤ 9223372036854775807) :
    Calls Try.prog 86 #[.string s] w fun e w' => e = .returned (.int .u32 (num s.data.toList).toNat) ∧ w = w' := by
  go_enter Try.func86, Try.ntmps86
  go_wp2
  go_loop [3, 4] (fun h i => ∃ k : Nat, k ≤ s.size ∧ i = .int .i64 k ∧ h = .int .u32 (num (s.data.toList.take k)).toNat) (fun _ i => s.size - (intOf i).toNat)
  case atStart => exact ⟨0, Nat.zero_le _, rfl, rfl⟩
  case round =>
    obtain ⟨k, hk, rfl, rfl⟩ := hrel
    go_wp2
    · have hlt : k < s.size := by assumption
      go_round
      case rel => exact ⟨k + 1, by omega, by go_num, by rw [take_snoc s k hlt, num_snoc, step_eq]⟩
      case measure => simp [intOf]; omega
    · go_ret
      have : ¬ k < s.size := by assumption
      exact ⟨ret_int (by rw [List.take_of_length_le (by simp; omega)]), rfl⟩
theorem turn_eq (h : UInt32) : bits .or .u32 ((h.toNat : Int) / 131072) ((h.toNat : Int) * 32768 % 4294967296) = ((turn h).toNat : Int) := by
  have hh := h.toNat_lt
  rw [show ((h.toNat : Int) / 131072) = ((h.toNat / 131072 : Nat) : Int) from by omega, show ((h.toNat : Int) * 32768 % 4294967296) = ((h.toNat * 32768 % 4294967296 : Nat) : Int) from by omega,
    u32_or_nat _ _ (by omega) (by omega)]
  simp only [turn, UInt32.toNat_or, UInt32.toNat_shiftRight, UInt32.toNat_shiftLeft]
  show _ = ((h.toNat >>> 17 ||| h.toNat <<< 15 % 4294967296 : Nat) : Int)
  rw [Nat.shiftRight_eq_div_pow, Nat.shiftLeft_eq]
theorem place_eq (l : List UInt8) (n i : Nat) (hi : i < 6) : (((num l).toNat : Int) + (i : Int) * bits .or .u32 (((num l).toNat : Int) / 131072) (((num l).toNat : Int) * 32768 % 4294967296)) % 4294967296 % (n : Int) = (place l n i : Nat) := by
  rw [turn_eq]
  simp only [place, UInt32.toNat_add, UInt32.toNat_mul, UInt32.toNat_ofNat']
  show _ = ((((num l).toNat + i % 4294967296 * (turn (num l)).toNat % 4294967296) % 4294967296 % n : Nat) : Int)
  rw [Nat.mod_eq_of_lt (show i < 4294967296 by omega)]
  simp
theorem place_w (l : List UInt8) (n i : Nat) (hi : i < 6) (hn : 1 ≤ n) (hn2 : n ≤ 9223372036854775807) :
    wrap64 ((((num l).toNat : Int) + (i : Int) * bits .or .u32 (((num l).toNat : Int) / 131072) (((num l).toNat : Int) * 32768 % 4294967296)) % 4294967296 % (n : Int)) = (place l n i : Nat) := by
  have h2 := place_lt l i (show 0 < n by omega)
  rw [place_eq l n i hi]
  exact IntWalk.wrap64_in _ ⟨by omega, by omega⟩
set_option maxHeartbeats 400000 in
theorem places_nat (s : ByteArray) (n : Nat) (w : World) (hs : s.size ≤ 9223372036854775807) (hn : 1 ≤ n) (hn2 : n ≤ 9223372036854775807) :
    Calls Try.prog 61 #[.string s, .int .i64 n] w fun e w' => e = .returned (.agg #[.int .i64 (place s.data.toList n 0), .int .i64 (place s.data.toList n 1), .int .i64 (place s.data.toList n 2), .int .i64 (place s.data.toList n 3), .int .i64 (place s.data.toList n 4), .int .i64 (place s.data.toList n 5)]) ∧ Below w.heap.size w w' := by
  have H0 := place_w s.data.toList n 0 (by omega) hn hn2
  have H1 := place_w s.data.toList n 1 (by omega) hn hn2
  have H2 := place_w s.data.toList n 2 (by omega) hn hn2
  have H3 := place_w s.data.toList n 3 (by omega) hn hn2
  have H4 := place_w s.data.toList n 4 (by omega) hn hn2
  have H5 := place_w s.data.toList n 5 (by omega) hn hn2
  simp only [Int.natCast_zero, Int.zero_mul, Int.add_zero] at H0
  simp only [Int.natCast_one, Int.one_mul] at H1
  have K0 := Lib.hid H0
  have K1 := Lib.hid H1
  have K2 := Lib.hid H2
  have K3 := Lib.hid H3
  have K4 := Lib.hid H4
  have K5 := Lib.hid H5
  clear H0 H1 H2 H3 H4 H5
  go_enter Try.func61, Try.ntmps61
  go_wp2_with (go_at_call 84; refine (hash_any _ _ hs).mono ?_; rintro e w' ⟨rfl, rfl⟩)
  refine wp_loop_rounds 7 ?_
  rw [rounds_succ]
  go_wp2
  rw [rounds_succ]
  go_wp2
  rw [rounds_succ]
  go_wp2
  rw [rounds_succ]
  go_wp2
  rw [rounds_succ]
  go_wp2
  rw [rounds_succ]
  go_wp2
  rw [rounds_succ]
  go_wp2
  rw [K0.out, K1.out]
  refine bodyPost_ret (v := .agg #[.int .i64 (place s.data.toList n 0), .int .i64 (place s.data.toList n 1), .int .i64 (place s.data.toList n 2), .int .i64 (place s.data.toList n 3), .int .i64 (place s.data.toList n 4), .int .i64 (place s.data.toList n 5)]) ?_ rfl ⟨rfl, ?_⟩
  · have k2 := K2.out
    have k3 := K3.out
    have k4 := K4.out
    have k5 := K5.out
    rw [show ((2 : Nat) : Int) = 2 from rfl] at k2
    rw [show ((3 : Nat) : Int) = 3 from rfl] at k3
    rw [show ((4 : Nat) : Int) = 4 from rfl] at k4
    rw [show ((5 : Nat) : Int) = 5 from rfl] at k5
    rw [k2, k3, k4, k5]
    simp [results, Try.results61, go_sem]
  · exact ((Below.refl _ _).alloc (Nat.le_refl _) _).alloc (by simp) _
theorem bit_nat (s : ByteArray) (i n : Nat) (w : World) (hs : s.size ≤ 9223372036854775807) (hn : 1 ≤ n) (hn2 : n ≤ 4294967295) (hi : i < 6) :
    Calls Try.prog 68 #[.string s, .int .i64 i, .int .i64 n] w fun e w' => e = .returned (.int .i64 (place s.data.toList n i)) ∧ w = w' := by
  go_enter Try.func68, Try.ntmps68
  go_wp2_with (go_at_call 86; refine (hash_ref _ _ hs).mono ?_; rintro e w' ⟨rfl, rfl⟩)
  go_ret
  have h1 := place_eq s.data.toList n i hi
  have h2 := place_lt s.data.toList i (show 0 < n by omega)
  refine ⟨ret_int ?_, rfl⟩
  rw [h1]
  exact IntWalk.wrap64_in _ ⟨by omega, by omega⟩
theorem places_any (s : ByteArray) (n : Int) (w : World) (hs : s.size ≤ 9223372036854775807) (hn : 1 ≤ n) (hn2 : n ≤ 9223372036854775807) :
    Calls Try.prog 61 #[.string s, .int .i64 n] w fun e w' => e = .returned (.agg #[.int .i64 (place s.data.toList n.toNat 0), .int .i64 (place s.data.toList n.toNat 1), .int .i64 (place s.data.toList n.toNat 2), .int .i64 (place s.data.toList n.toNat 3), .int .i64 (place s.data.toList n.toNat 4), .int .i64 (place s.data.toList n.toNat 5)]) ∧ Below w.heap.size w w' := by
  obtain ⟨m, rfl⟩ := Int.eq_ofNat_of_zero_le (show 0 ≤ n by omega)
  exact places_nat s m w hs (by omega) (by omega)
theorem bit_any (s : ByteArray) (i : Nat) (n : Int) (w : World) (hs : s.size ≤ 9223372036854775807) (hn : 1 ≤ n) (hn2 : n ≤ 4294967295) (hi : i < 6) :
    Calls Try.prog 68 #[.string s, .int .i64 i, .int .i64 n] w fun e w' => e = .returned (.int .i64 (place s.data.toList n.toNat i)) ∧ w = w' := by
  obtain ⟨m, rfl⟩ := Int.eq_ofNat_of_zero_le (show 0 ≤ n by omega)
  exact bit_nat s i m w hs (by omega) (by omega) hi
theorem run_index6 (p : Nat → Int) : ∀ k : Nat, k < 6 → ∀ (w : World), (Instr.index 97 (.agg #[.int .i64 (p 0), .int .i64 (p 1), .int .i64 (p 2), .int .i64 (p 3), .int .i64 (p 4), .int .i64 (p 5)]) (.int .i64 (k : Int))).run Try.prog w = .ok (.int .i64 (p k)) w
  | 0, _, w => by kernel_rfl
  | 1, _, w => by kernel_rfl
  | 2, _, w => by kernel_rfl
  | 3, _, w => by kernel_rfl
  | 4, _, w => by kernel_rfl
  | 5, _, w => by kernel_rfl
theorem bit_test (l : List UInt8) (p : Nat) : (bits .and .u8 ((l[p / 8]?.getD 0).toNat : Int) ((2 : Int) ^ (p % 8) % 256) == 0) = !(has l p) := by
  have h8 : p % 8 < 8 := Nat.mod_lt _ (by omega)
  have hc := (l[p / 8]?.getD 0).toNat_lt
  rw [mask_int _ h8, u8_and_nat _ _ (by omega) (mask_lt _ h8), ← mask_toNat _ h8, ← UInt8.toNat_and]
  unfold has
  simp only [List.getD]
  rw [Bool.eq_iff_iff]
  simp only [beq_iff_eq, Bool.not_eq_true', bne_eq_false_iff_eq]
  constructor
  · intro h; apply UInt8.toNat_inj.1; simpa using h
  · intro h; rw [h]; rfl
theorem bit_test2 (l : List UInt8) (p : Nat) : (bits .and .u8 (((l[p / 8]?.getD 0).toNat : Int) / (2 : Int) ^ (p % 8)) 1 == 0) = !(has l p) := by
  have h8 : p % 8 < 8 := Nat.mod_lt _ (by omega)
  have hc := (l[p / 8]?.getD 0).toNat_lt
  have e : (((l[p / 8]?.getD 0).toNat : Int) / (2 : Int) ^ (p % 8)) = (((l[p / 8]?.getD 0).toNat / 2 ^ (p % 8) : Nat) : Int) := by simp
  have hd := Nat.div_le_self (l[p / 8]?.getD 0).toNat (2 ^ (p % 8))
  rw [← bit_test, e, mask_int _ h8, u8_and_nat _ _ (by omega) (mask_lt _ h8), show (1 : Int) = ((1 : Nat) : Int) from rfl, u8_and_nat _ _ (by omega) (by omega), Nat.and_one_is_mod]
  have hb : (l[p / 8]?.getD 0).toNat &&& 2 ^ (p % 8) = (l[p / 8]?.getD 0).toNat / 2 ^ (p % 8) % 2 * 2 ^ (p % 8) := nat_bit _ _
  rw [hb]
  have hp : 0 < 2 ^ (p % 8) := Nat.two_pow_pos _
  have h2 : (l[p / 8]?.getD 0).toNat / 2 ^ (p % 8) % 2 = 0 ∨ (l[p / 8]?.getD 0).toNat / 2 ^ (p % 8) % 2 = 1 := by omega
  rcases h2 with h2 | h2
  · rw [h2]; simp
  · rw [h2, Bool.eq_iff_iff]
    simp only [beq_iff_eq]
    generalize 2 ^ (p % 8) = m at hp
    omega
theorem mayTo_false (l key : List UInt8) (k : Nat) (h : k < 6) (hh : has l (place key (8 * l.length) k) = false) : mayTo l key 6 = false := by
  cases e : mayTo l key 6 with
  | false => rfl
  | true => rw [(mayTo_iff l key 6).1 e k h] at hh; cases hh
theorem mayTo_true (l key : List UInt8) (k : Nat) (h : mayTo l key k = true) (hh : has l (place key (8 * l.length) k) = true) : mayTo l key (k + 1) = true := by
  simp [mayTo, h, hh]
set_option maxHeartbeats 400000 in
theorem may_any (v : Value) (n : Nat) (l : List UInt8) (s : ByteArray) (w : World) (hv : Sl w 1 v n (u8s l)) (hn : 1 ≤ n) (hn2 : n ≤ 1152921504606846975) (hs : s.size ≤ 9223372036854775807) :
    Calls Try.prog 53 #[v, .string s] w fun e w' => e = .returned (.bool (mayTo l s.data.toList 6)) ∧ Below w.heap.size w w' := by
  have hlen := hv.run_len Try.underlying24
  have hl : l.length = n := by simpa [u8s] using hv.length
  have Hl := Lib.hid hl
  clear hl
  go_enter Try.func53, Try.ntmps53
  go_wp2_with (go_at_call 61; refine (places_any _ _ _ hs (by omega) (by omega)).mono ?_; rintro e w1 ⟨rfl, hb⟩)
  go_loopw [15] (fun i wr => ∃ k : Nat, k ≤ 6 ∧ i = .int .i64 k ∧ Below w.heap.size w wr ∧ mayTo l s.data.toList k = true) (fun i _ => 6 - (intOf i).toNat)
  case atStart => exact ⟨0, by omega, rfl, hb, rfl⟩
  case round =>
    obtain ⟨k, hk, rfl, hbr, hm⟩ := hrel
    have hidx := run_index6 (fun i => (place s.data.toList ((n : Int) * 8).toNat i : Nat))
    by_cases hlt : k < 6
    · have hidx' := hidx k hlt
      clear hidx
      have hp := place_lt s.data.toList k (show 0 < ((n : Int) * 8).toNat by omega)
      obtain ⟨p, hpe⟩ : ∃ p, p = place s.data.toList ((n : Int) * 8).toNat k := ⟨_, rfl⟩
      simp only [← hpe] at hidx' hp
      have eplace : place s.data.toList ((n : Int) * 8).toNat k = place s.data.toList (8 * l.length) k := by rw [Hl.out]; congr 1; omega
      have Eplace := Lib.hid eplace
      clear eplace
      have HP := Lib.hid hpe
      clear hpe
      obtain ⟨A, hA, hblk, hcell⟩ := run_indexAt_sl (P := Try.prog) (hv.below' hbr) Try.underlying24 Try.size5 .i64 ((p : Int) / 8) (by omega) (by omega)
      have hc := hcell 0 (by omega)
      rw [u8s_get _ _ (by rw [Hl.out]; omega)] at hc
      simp only [add_zero] at hc
      clear hcell
      have h7 := i64_and7 p
      have h7b : (0 : Int) ≤ (p : Int) % 8 := by omega
      have h7c : (p : Int) % 8 < 8 := by omega
      go_wp2
      go_quiet (fail)
      go_wp2
      · go_ret
        have ht : (bits .and .u8 ((l[p / 8]?.getD 0).toNat : Int) ((2 : Int) ^ (p % 8) % 256) == 0) = true := by assumption
        refine ⟨ret_bool ?_, below_drewN hbr _⟩
        rw [bit_test] at ht
        exact (mayTo_false l _ k hlt (by rw [← Eplace.out, ← HP.out]; simpa using ht)).symm
      · have ht : (bits .and .u8 ((l[p / 8]?.getD 0).toNat : Int) ((2 : Int) ^ (p % 8) % 256) == 0) = false := by assumption
        rw [bit_test] at ht
        go_roundw
        case rel => exact ⟨k + 1, by omega, by go_num, below_drewN hbr _, mayTo_true l _ k hm (by rw [← Eplace.out, ← HP.out]; simpa using ht)⟩
        case measure => simp [intOf]; omega
    · clear hidx
      go_wp2
      go_ret
      obtain rfl : k = 6 := by omega
      exact ⟨ret_bool hm.symm, hbr⟩
end Go.Proofs.Ytbepbbjeieafhaa.Bloom

/-
  Bloom (chapter 6): contracts of Make in the program and in the reference.
-/



namespace Go.Proofs.Ytbepbbjeieafhaa.Bloom
open Go.RowKit BloomP L
def keysOf (ss : List ByteArray) : List (List UInt8) := ss.map fun s => s.data.toList
theorem u8s_set (l : List UInt8) (i : Nat) (c : UInt8) : (u8s l).set i (.int .u8 c.toNat) = u8s (l.set i c) := by
  simp [u8s, List.map_set]
theorem setBit_cell (l : List UInt8) (p : Nat) : (u8s l).set (p / 8) (.int .u8 (bits .or .u8 ((l[p / 8]?.getD 0).toNat : Int) ((2 : Int) ^ (p % 8) % 256))) = u8s (setBit l p) := by
  have h8 : p % 8 < 8 := Nat.mod_lt _ (by omega)
  have hc := (l[p / 8]?.getD 0).toNat_lt
  rw [mask_int _ h8, u8_or_nat _ _ (by omega) (mask_lt _ h8), ← mask_toNat _ h8, ← UInt8.toNat_or, u8s_set]
  rfl
theorem setKeys_snoc (m : Nat) (b : List UInt8) (ks : List (List UInt8)) (k : List UInt8) : setKeys m b (ks ++ [k]) = setKey m (setKeys m b ks) k 6 := by simp [setKeys]
theorem keys_take (ss : List ByteArray) (k : Nat) (h : k < ss.length) : (keysOf ss).take (k + 1) = (keysOf ss).take k ++ [(ss.getD k ByteArray.empty).data.toList] := by
  rw [List.take_succ_eq_append_getElem (by simpa [keysOf] using h)]
  simp [keysOf, List.getD, h]
set_option maxRecDepth 100000 in
set_option maxHeartbeats 1600000 in
theorem make_any (v : Value) (n : Nat) (ss : List ByteArray) (w : World) (hv : Sl w 1 v n (strs ss)) (hn : n ≤ 1000000) (hs : ∀ s ∈ ss, s.size ≤ 9223372036854775807) :
    Calls Try.prog 31 #[v] w fun e w' => ∃ v', e = .returned v' ∧ w'.ownsRow w.heap.size 5 1 v' (room n) (u8s (make (keysOf ss))) ∧ Below w.heap.size w w' := by
  have hlen := hv.run_len Try.underlying63
  obtain ⟨i5, hi, hz0, hz1, hz2⟩ := info_parts Try.info5
  have hss : Hid (ss.length = n) := by have := hv.length; show _ = _; simpa [strs] using this
  obtain ⟨m, hmm⟩ : ∃ m, m = room n := ⟨_, rfl⟩
  have hmk : Hid (u8s (make (keysOf ss)) = u8s (setKeys (8 * m) (List.replicate m 0) (keysOf ss))) := by show _ = _; rw [hmm]; unfold make; rw [show (keysOf ss).length = n from by simpa [keysOf] using hss.out]
  have hm8 : 8 ≤ m := by rw [hmm]; exact room_pos n
  have hm9 : m ≤ 1250001 := by rw [hmm]; unfold room; omega
  have hz : Hid ((madeCells (Value.int .u8 0).cells (m * 1)).toList = u8s (List.replicate m 0)) := made_u8 m
  have hmr : Hid (m = room n) := hmm
  by_cases hm : (8 : Int) < (10 * (n : Int) + 7) / 8
  all_goals
    go_enter Try.func31, Try.ntmps31
    go_wp2_with (at_make; refine wpList_make_full _ rfl _ _ 24 rfl w.heap.size 5 i5 (.int .u8 0) 1 Try.underlying24 hi hz0 hz1 .i64 .i64 _ _ m rfl rfl (by rw [hmm]; unfold room; omega) (by rw [hmm]; unfold room; omega) (by rw [hz2]; omega) (by unfold maxLen; omega) (Nat.le_refl _) ?_; intro w1 hown hgrow; clear hmm)
    rw [hz.out] at hown
    have hb1 : Below w.heap.size w w1 := (Below.refl _ _).grown hgrow (Nat.le_refl _) (by simp)
    clear hgrow
    go_loopw [17] (fun i wr => ∃ k : Nat, k ≤ n ∧ i = .int .i64 k ∧ wr.ownsRow w.heap.size 5 1 (.slice (some ⟨w.heap.size, 0, none⟩) m m) m (u8s (setKeys (8 * m) (List.replicate m 0) ((keysOf ss).take k))) ∧ Below w.heap.size w wr) (fun i _ => n - (intOf i).toNat)
    case atStart => exact ⟨0, Nat.zero_le _, rfl, hown, hb1⟩
    case round =>
      obtain ⟨k, hk, rfl, hownr, hbr⟩ := hrel
      by_cases hlt : k < n
      · obtain ⟨s, hse⟩ : ∃ s, s = ss.getD k ByteArray.empty := ⟨_, rfl⟩
        obtain ⟨A, hA, hblk, hcell⟩ := run_indexAt_sl (P := Try.prog) (hv.below' hbr) Try.underlying63 Try.size9 .i64 (k : Int) (by omega) (by omega)
        have hc := hcell 0 (by omega)
        rw [strs_get _ _ (by rw [hss.out]; omega)] at hc
        simp only [add_zero, Int.toNat_natCast, Nat.mul_one, Nat.add_zero] at hc
        rw [← hse] at hc
        have hS := Lib.hid hse
        clear hcell hse
        have hsz : s.size ≤ 9223372036854775807 := by
          rw [hS.out]
          apply hs
          rw [List.getD, List.getElem?_eq_getElem (by rw [hss.out]; omega)]
          simp
        go_wp2_with (go_at_call 61; refine (places_any s _ _ hsz (by omega) (by omega)).mono ?_; rintro e w2 ⟨rfl, hb2⟩)
        have hown2 := own_below hownr hb2
        have hbr2 : Below w.heap.size w w2 := hbr.trans (hb2.mono hbr.size)
        have hS2 : Hid (setKeys (8 * m) (List.replicate m 0) ((keysOf ss).take (k + 1)) = setKey (8 * m) (setKeys (8 * m) (List.replicate m 0) ((keysOf ss).take k)) s.data.toList 6) := by
          show _ = _
          rw [keys_take ss k (by rw [hss.out]; omega), setKeys_snoc, ← hS.out]
        obtain ⟨cur, hcur⟩ : ∃ cur, cur = setKeys (8 * m) (List.replicate m 0) ((keysOf ss).take k) := ⟨_, rfl⟩
        rw [← hcur] at hown2
        have hC := Lib.hid hcur
        have hcl : Hid (cur.length = m) := by show _ = _; rw [hcur, setKeys_length]; simp
        clear hcur hown hownr hbr hb2 hb1
        go_loopw [26] (fun i wr => ∃ j : Nat, j ≤ 6 ∧ i = .int .i64 j ∧ wr.ownsRow w.heap.size 5 1 (.slice (some ⟨w.heap.size, 0, none⟩) m m) m (u8s (setKey (8 * m) cur s.data.toList j)) ∧ Below w.heap.size w wr) (fun i _ => 6 - (intOf i).toNat)
        case atStart => exact ⟨0, Nat.zero_le _, rfl, hown2, hbr2⟩
        case round =>
          obtain ⟨j, hj, rfl, hownj, hbj⟩ := hrel
          by_cases hltj : j < 6
          · have hidx := run_index6 (fun i => (place s.data.toList ((m : Int) * 8).toNat i : Nat)) j hltj
            have hp := place_lt s.data.toList j (show 0 < ((m : Int) * 8).toNat by omega)
            obtain ⟨p, hpe⟩ : ∃ p, p = place s.data.toList ((m : Int) * 8).toNat j := ⟨_, rfl⟩
            simp only [← hpe] at hidx hp
            have eplace : place s.data.toList ((m : Int) * 8).toNat j = place s.data.toList (8 * m) j := by congr 1; omega
            have Eplace := Lib.hid eplace
            have HP := Lib.hid hpe
            clear eplace hpe
            have hjl : Hid ((setKey (8 * m) cur s.data.toList j).length = m) := by show _ = _; rw [setKey_length]; exact hcl.out
            obtain ⟨nw, hnw⟩ : ∃ nw, nw = setKey (8 * m) cur s.data.toList j := ⟨_, rfl⟩
            rw [← hnw] at hownj hjl
            have HN := Lib.hid hnw
            clear hnw
            have hcc : wr.cell? ⟨w.heap.size, p / 8, none⟩ = some (.int .u8 (nw[p / 8]?.getD 0).toNat) := by
              rw [hownj.cellAt (p / 8) (by omega)]
              have : p / 8 < nw.length := by rw [hjl.out]; omega
              simp [u8s, this]
            have hff := hownj.frozenAt (p / 8)
            have h7 := i64_and7 p
            have h7b : (0 : Int) ≤ (p : Int) % 8 := by omega
            have h7c : (p : Int) % 8 < 8 := by omega
            go_wp2
            go_region
            go_wp2
            have hst := hownj.stored (p / 8) (.int .u8 (bits .or .u8 ((nw[p / 8]?.getD 0).toNat : Int) ((2 : Int) ^ (p % 8) % 256)))
            rw [setBit_cell] at hst
            have hkey : setKey (8 * m) cur s.data.toList (j + 1) = setBit nw p := by rw [HN.out, HP.out, Eplace.out]; rfl
            go_roundw
            case rel => exact ⟨j + 1, by omega, by go_num, by rw [hkey]; exact hst.1, (hbj.setCell (Nat.le_refl _) _).drew⟩
            case measure => simp [intOf]; omega
          · go_wp2
            obtain rfl : j = 6 := by omega
            go_roundw
            case rel => exact ⟨k + 1, by omega, by go_num, by rw [hS2.out, ← hC.out]; exact hownj, hbj⟩
            case measure => simp [intOf]; omega
      · go_wp2
        go_ret
        obtain rfl : k = n := by omega
        refine ⟨_, rfl, ?_, hbr⟩
        rw [← hmr.out, hmk.out]
        rwa [List.take_of_length_le (by simp [keysOf, hss.out])] at hownr
set_option maxRecDepth 100000 in
set_option maxHeartbeats 1600000 in
theorem make_ref (v : Value) (n : Nat) (ss : List ByteArray) (w : World) (hv : Sl w 1 v n (strs ss)) (hn : n ≤ 1000000) (hs : ∀ s ∈ ss, s.size ≤ 9223372036854775807) :
    Calls Try.prog 38 #[v] w fun e w' => ∃ v', e = .returned v' ∧ w'.ownsRow w.heap.size 5 1 v' (room n) (u8s (make (keysOf ss))) ∧ Below w.heap.size w w' := by
  have hlen := hv.run_len Try.underlying63
  obtain ⟨i5, hi, hz0, hz1, hz2⟩ := info_parts Try.info5
  have hss : Hid (ss.length = n) := by have := hv.length; show _ = _; simpa [strs] using this
  obtain ⟨m, hmm⟩ : ∃ m, m = room n := ⟨_, rfl⟩
  have hmk : Hid (u8s (make (keysOf ss)) = u8s (setKeys (8 * m) (List.replicate m 0) (keysOf ss))) := by show _ = _; rw [hmm]; unfold make; rw [show (keysOf ss).length = n from by simpa [keysOf] using hss.out]
  have hm8 : 8 ≤ m := by rw [hmm]; exact room_pos n
  have hm9 : m ≤ 1250001 := by rw [hmm]; unfold room; omega
  have hz : Hid ((madeCells (Value.int .u8 0).cells (m * 1)).toList = u8s (List.replicate m 0)) := made_u8 m
  have hmr : Hid (m = room n) := hmm
  by_cases hm : (8 : Int) < (10 * (n : Int) + 7) / 8
  all_goals
    go_enter Try.func38, Try.ntmps38
    go_wp2_with (at_make; refine wpList_make_full _ rfl _ _ 24 rfl w.heap.size 5 i5 (.int .u8 0) 1 Try.underlying24 hi hz0 hz1 .i64 .i64 _ _ m rfl rfl (by rw [hmm]; unfold room; omega) (by rw [hmm]; unfold room; omega) (by rw [hz2]; omega) (by unfold maxLen; omega) (Nat.le_refl _) ?_; intro w1 hown hgrow; clear hmm)
    rw [hz.out] at hown
    have hb1 : Below w.heap.size w w1 := (Below.refl _ _).grown hgrow (Nat.le_refl _) (by simp)
    clear hgrow
    go_loopw [4] (fun i wr => ∃ k : Nat, k ≤ n ∧ i = .int .i64 k ∧ wr.ownsRow w.heap.size 5 1 (.slice (some ⟨w.heap.size, 0, none⟩) m m) m (u8s (setKeys (8 * m) (List.replicate m 0) ((keysOf ss).take k))) ∧ Below w.heap.size w wr) (fun i _ => n - (intOf i).toNat)
    case atStart => exact ⟨0, Nat.zero_le _, rfl, hown, hb1⟩
    case round =>
      obtain ⟨k, hk, rfl, hownr, hbr⟩ := hrel
      by_cases hlt : k < n
      · obtain ⟨s, hse⟩ : ∃ s, s = ss.getD k ByteArray.empty := ⟨_, rfl⟩
        have hS := Lib.hid hse
        clear hse
        have hsz : s.size ≤ 9223372036854775807 := by
          rw [hS.out]
          apply hs
          rw [List.getD, List.getElem?_eq_getElem (by rw [hss.out]; omega)]
          simp
        go_wp2
        have hS2 : Hid (setKeys (8 * m) (List.replicate m 0) ((keysOf ss).take (k + 1)) = setKey (8 * m) (setKeys (8 * m) (List.replicate m 0) ((keysOf ss).take k)) s.data.toList 6) := by
          show _ = _
          rw [keys_take ss k (by rw [hss.out]; omega), setKeys_snoc, ← hS.out]
        obtain ⟨cur, hcur⟩ : ∃ cur, cur = setKeys (8 * m) (List.replicate m 0) ((keysOf ss).take k) := ⟨_, rfl⟩
        rw [← hcur] at hownr
        have hC := Lib.hid hcur
        have hcl : Hid (cur.length = m) := by show _ = _; rw [hcur, setKeys_length]; simp
        clear hcur hown hb1
        go_loopw [5] (fun i wr => ∃ j : Nat, j ≤ 6 ∧ i = .int .i64 j ∧ wr.ownsRow w.heap.size 5 1 (.slice (some ⟨w.heap.size, 0, none⟩) m m) m (u8s (setKey (8 * m) cur s.data.toList j)) ∧ Below w.heap.size w wr) (fun i _ => 6 - (intOf i).toNat)
        case atStart => exact ⟨0, Nat.zero_le _, rfl, hownr, hbr⟩
        case round =>
          obtain ⟨j, hj, rfl, hownj, hbj⟩ := hrel
          by_cases hltj : j < 6
          · obtain ⟨A, hA, hblk, hcell⟩ := run_indexAt_sl (P := Try.prog) (hv.below' hbj) Try.underlying63 Try.size9 .i64 (k : Int) (by omega) (by omega)
            have hc := hcell 0 (by omega)
            rw [strs_get _ _ (by rw [hss.out]; omega)] at hc
            simp only [add_zero, Int.toNat_natCast, Nat.mul_one, Nat.add_zero] at hc
            rw [← hS.out] at hc
            clear hcell
            have hp := place_lt s.data.toList j (show 0 < (8 * (m : Int)).toNat by omega)
            obtain ⟨p, hpe⟩ : ∃ p, p = place s.data.toList (8 * (m : Int)).toNat j := ⟨_, rfl⟩
            simp only [← hpe] at hp
            have eplace : place s.data.toList (8 * (m : Int)).toNat j = place s.data.toList (8 * m) j := by congr 1
            have Eplace := Lib.hid eplace
            have HP := Lib.hid hpe
            clear eplace hpe
            have hjl : Hid ((setKey (8 * m) cur s.data.toList j).length = m) := by show _ = _; rw [setKey_length]; exact hcl.out
            obtain ⟨nw, hnw⟩ : ∃ nw, nw = setKey (8 * m) cur s.data.toList j := ⟨_, rfl⟩
            rw [← hnw] at hownj hjl
            have HN := Lib.hid hnw
            clear hnw
            have hcc : wr.cell? ⟨w.heap.size, p / 8, none⟩ = some (.int .u8 (nw[p / 8]?.getD 0).toNat) := by
              rw [hownj.cellAt (p / 8) (by omega)]
              have : p / 8 < nw.length := by rw [hjl.out]; omega
              simp [u8s, this]
            have hff := hownj.frozenAt (p / 8)
            have h7b : (0 : Int) ≤ (p : Int) % 8 := by omega
            have h7c : (p : Int) % 8 < 8 := by omega
            go_wp2_with fail
            refine (bit_any s j _ _ hsz (by omega) (by omega) hltj).mono ?_
            rintro e w1 ⟨he, rfl⟩
            rw [← HP.out] at he
            subst he
            go_wp2
            have hst := hownj.stored (p / 8) (.int .u8 (bits .or .u8 ((nw[p / 8]?.getD 0).toNat : Int) ((2 : Int) ^ (p % 8) % 256)))
            rw [setBit_cell] at hst
            have hkey : setKey (8 * m) cur s.data.toList (j + 1) = setBit nw p := by rw [HN.out, HP.out, Eplace.out]; rfl
            go_roundw
            case rel => exact ⟨j + 1, by omega, by go_num, by rw [hkey]; exact hst.1, hbj.setCell (Nat.le_refl _) _⟩
            case measure => simp [intOf]; omega
          · go_wp2
            obtain rfl : j = 6 := by omega
            go_roundw
            case rel => exact ⟨k + 1, by omega, by go_num, by rw [hS2.out, ← hC.out]; exact hownj, hbj⟩
            case measure => simp [intOf]; omega
      · go_wp2
        go_ret
        obtain rfl : k = n := by omega
        refine ⟨_, rfl, ?_, hbr⟩
        rw [← hmr.out, hmk.out]
        rwa [List.take_of_length_le (by simp [keysOf, hss.out])] at hownr
end Go.Proofs.Ytbepbbjeieafhaa.Bloom

/-
  The check sum in the program and in the reference; 'same'.
-/


namespace Go.Proofs.Ytbepbbjeieafhaa.Oct
open Go.RowKit L
theorem xor_byte (c : UInt32) (x : UInt8) : bits .xor .u32 (c.toNat : Int) ((x.toNat : Int) % 4294967296) = ((c ^^^ x.toUInt32).toNat : Int) := by
  have hc := c.toNat_lt
  have hx := x.toNat_lt
  rw [Int.emod_eq_of_lt (a := (x.toNat : Int)) (by omega) (by omega), u32_xor_nat _ _ (by omega) (by omega), UInt32.toNat_xor, UInt8.toNat_toUInt32]
theorem xor_poly (c : UInt32) : bits .xor .u32 ((c.toNat : Int) / 2) 3988292384 = (((c >>> 1) ^^^ 3988292384).toNat : Int) := by
  have hc := c.toNat_lt
  rw [show ((c.toNat : Int) / 2) = ((c.toNat / 2 : Nat) : Int) from by omega, show (3988292384 : Int) = ((3988292384 : Nat) : Int) from rfl, u32_xor_nat _ _ (by omega) (by omega), UInt32.toNat_xor, Crc.shr_toNat]
  rfl
theorem xor_max (c : UInt32) : bits .xor .u32 IntKind.u32.max (c.toNat : Int) = ((~~~c).toNat : Int) := by
  have hc := c.toNat_lt
  rw [show IntKind.u32.max = ((4294967295 : Nat) : Int) from rfl, u32_xor_nat _ _ (by omega) (by omega), UInt32.toNat_not]
  congr 1
  have e1 : (4294967295 : Nat) ^^^ c.toNat = (BitVec.allOnes 32 ^^^ c.toBitVec).toNat := by rw [BitVec.toNat_xor]; rfl
  rw [e1, BitVec.allOnes_xor, BitVec.toNat_not]
  rfl
theorem and_one (c : UInt32) : (bits .and .u32 (c.toNat : Int) 1 == 1) = decide (c.toNat % 2 = 1) := by
  have hc := c.toNat_lt
  rw [show (1 : Int) = ((1 : Nat) : Int) from rfl, u32_and_nat _ _ (by omega) (by omega), Nat.and_one_is_mod, Bool.eq_iff_iff]
  simp only [beq_iff_eq, decide_eq_true_eq]
  omega
set_option maxHeartbeats 800000 in
theorem rsum_any (v : Value) (l : List UInt8) (w : World) (hv : Sl w 1 v l.length (u8s l)) :
    Calls Try.prog 70 #[v] w fun e w' => e = .returned (.int .u32 (Crc.sum l).toNat) ∧ w = w' := by
  have hlen := hv.run_len Try.underlying24
  have hmx := hv.le
  unfold maxLen at hmx
  go_enter Try.func70, Try.ntmps70
  go_wp2
  go_loop [3, 4] (fun c i => ∃ k : Nat, k ≤ l.length ∧ i = .int .i64 k ∧ c = .int .u32 (Crc.run 4294967295 (l.take k)).toNat) (fun _ i => l.length - (intOf i).toNat)
  case atStart => exact ⟨0, Nat.zero_le _, rfl, rfl⟩
  case round =>
    obtain ⟨k, hk, rfl, rfl⟩ := hrel
    by_cases hlt : k < l.length
    · obtain ⟨A, hA, hblk, hcell⟩ := run_indexAt_sl (P := Try.prog) hv Try.underlying24 Try.size5 .i64 (k : Int) (by omega) (by omega)
      have hc := hcell 0 (by omega)
      rw [u8s_get _ _ (by omega)] at hc
      simp only [add_zero, Int.toNat_natCast, Nat.mul_one, Nat.add_zero] at hc
      clear hcell
      obtain ⟨x, hx⟩ : ∃ x, x = l.getD k 0 := ⟨_, rfl⟩
      rw [← hx] at hc
      obtain ⟨C, hC⟩ : ∃ C, C = Crc.run 4294967295 (l.take k) := ⟨_, rfl⟩
      rw [← hC]
      have Hx := Lib.hid hx
      have HC := Lib.hid hC
      clear hx hC
      have hxb := xor_byte C x
      obtain ⟨D, hD⟩ : ∃ D, D = C ^^^ x.toUInt32 := ⟨_, rfl⟩
      rw [← hD] at hxb
      have HD := Lib.hid hD
      clear hD
      go_wp2
      go_loop [3, 5] (fun c i => ∃ j : Nat, j ≤ 8 ∧ i = .int .i64 j ∧ c = .int .u32 (Crc.bits8 D j).toNat) (fun _ i => 8 - (intOf i).toNat)
      case atStart => exact ⟨0, Nat.zero_le _, rfl, rfl⟩
      case round =>
        obtain ⟨j, hj, rfl, rfl⟩ := hrel
        obtain ⟨E, hE⟩ : ∃ E, E = Crc.bits8 D j := ⟨_, rfl⟩
        rw [← hE]
        have HE := Lib.hid hE
        clear hE
        have hpoly := xor_poly E
        by_cases hjl : j < 8
        · go_wp2
          · have ht : (bits .and .u32 (E.toNat : Int) 1 == 1) = true := by assumption
            rw [and_one] at ht
            have h1 : E.toNat % 2 = 1 := by simpa using ht
            go_round
            case rel => exact ⟨j + 1, by omega, by go_num, by show _ = Value.int .u32 ((Crc.bit (Crc.bits8 D j)).toNat : Nat); rw [← HE.out, Crc.bit, if_pos h1, UInt32.toNat_xor, UInt32.toNat_shiftRight]; rfl⟩
            case measure => simp [intOf]; omega
          · have ht : (bits .and .u32 (E.toNat : Int) 1 == 1) = false := by assumption
            rw [and_one] at ht
            have h1 : ¬ E.toNat % 2 = 1 := by simpa using ht
            go_round
            case rel => exact ⟨j + 1, by omega, by go_num, by show _ = Value.int .u32 ((Crc.bit (Crc.bits8 D j)).toNat : Nat); rw [← HE.out, Crc.bit, if_neg h1, Crc.shr_toNat]; congr 1⟩
            case measure => simp [intOf]; omega
        · go_wp2
          obtain rfl : j = 8 := by omega
          go_round
          case rel => exact ⟨k + 1, by omega, by go_num, by rw [List.take_succ_eq_append_getElem hlt, Crc.run_snoc, ← HC.out, HE.out, HD.out, Hx.out]; simp [List.getD, hlt, Crc.byte]⟩
          case measure => simp [intOf]; omega
    · go_wp2
      go_ret
      obtain rfl : k = l.length := by omega
      rw [List.take_length]
      exact ⟨ret_int (xor_max _), rfl⟩
theorem sum_bit (c : UInt32) : bits .xor .u32 ((c.toNat : Int) / 2) (bits .and .u32 3988292384 (-bits .and .u32 (c.toNat : Int) 1 % 4294967296)) = ((Crc.bit c).toNat : Int) := by
  have hc := c.toNat_lt
  rw [show (1 : Int) = ((1 : Nat) : Int) from rfl, u32_and_nat c.toNat 1 (by omega) (by omega), Nat.and_one_is_mod]
  unfold Crc.bit
  by_cases h : c.toNat % 2 = 1
  · rw [if_pos h, h, show (-((1 : Nat) : Int) % 4294967296) = ((4294967295 : Nat) : Int) from by decide, show (3988292384 : Int) = ((3988292384 : Nat) : Int) from rfl, u32_and_nat _ _ (by omega) (by omega)]
    rw [show (3988292384 &&& 4294967295 : Nat) = 3988292384 from by decide]
    exact xor_poly c
  · have h0 : c.toNat % 2 = 0 := by omega
    rw [if_neg h, h0, show (-((0 : Nat) : Int) % 4294967296) = ((0 : Nat) : Int) from by decide, show (3988292384 : Int) = ((3988292384 : Nat) : Int) from rfl, u32_and_nat _ _ (by omega) (by omega)]
    rw [show (3988292384 &&& 0 : Nat) = 0 from by decide, show ((c.toNat : Int) / 2) = ((c.toNat / 2 : Nat) : Int) from by omega, u32_xor_nat _ _ (by omega) (by omega), Nat.xor_zero, Crc.shr_toNat]
set_option maxHeartbeats 2000000 in
theorem sum_any {W0 w : World} {R : Asrt} (h : Hold W0 R w) (va : Value) (vs : List Value) (ls : List (List UInt8)) (ha : ReadsRows W0 R va vs (u8ss ls)) :
    Calls Try.prog 65 #[va] w fun e w' => e = .returned (.int .u32 (Crc.sum ls.flatten).toNat) ∧ w = w' := by
  have hll : (u8ss ls).length = ls.length := by simp [u8ss]
  have hsl := ha.outer h
  rw [hll] at hsl
  have hlen := hsl.run_len Try.underlying95
  have hmx := hsl.le
  unfold maxLen at hmx
  have Hsl := Lib.hid hsl
  have hin : ∀ k, k < ls.length → Sl w 1 (vs.getD k undef) (ls.getD k []).length (u8s (ls.getD k [])) := by
    intro k hk
    have := (ha.inner (i := k) (by rw [hll]; exact hk)).at h
    rwa [u8ss_get, u8s_length] at this
  have Hin := Lib.hid hin
  clear ha hsl hll hin
  go_enter Try.func65, Try.ntmps65
  go_wp2
  go_loop [3, 10] (fun c i => ∃ k : Nat, k ≤ ls.length ∧ i = .int .i64 k ∧ c = .int .u32 (Crc.run 4294967295 (ls.take k).flatten).toNat) (fun _ i => ls.length - (intOf i).toNat)
  case atStart => exact ⟨0, Nat.zero_le _, rfl, rfl⟩
  case round =>
    obtain ⟨k, hk, rfl, rfl⟩ := hrel
    by_cases hlt : k < ls.length
    · obtain ⟨A, hA, hblk, hcell⟩ := run_indexAt_sl (P := Try.prog) Hsl.out Try.underlying95 Try.size24 .i64 (k : Int) (by omega) (by omega)
      have hc := hcell 0 (by omega)
      simp only [add_zero, Int.toNat_natCast, Nat.mul_one, Nat.add_zero] at hc
      have hi := Hin.out k hlt
      obtain ⟨l, hl⟩ : ∃ l, l = ls.getD k [] := ⟨_, rfl⟩
      obtain ⟨v, hv⟩ : ∃ v, v = vs.getD k undef := ⟨_, rfl⟩
      rw [← hl, ← hv] at hi
      rw [← hv] at hc
      have hlen2 := hi.run_len Try.underlying24
      have hmx2 := hi.le
      unfold maxLen at hmx2
      obtain ⟨C0, hC0⟩ : ∃ C0, C0 = Crc.run 4294967295 (ls.take k).flatten := ⟨_, rfl⟩
      rw [← hC0]
      have HC0 := Lib.hid hC0
      have Hl := Lib.hid hl
      have Hi := Lib.hid hi
      clear hC0 hl hi hcell hv
      go_wp2
      go_loop [3, 16] (fun c i => ∃ m : Nat, m ≤ l.length ∧ i = .int .i64 m ∧ c = .int .u32 (Crc.run C0 (l.take m)).toNat) (fun _ i => l.length - (intOf i).toNat)
      case atStart => exact ⟨0, Nat.zero_le _, rfl, rfl⟩
      case round =>
        obtain ⟨m, hm, rfl, rfl⟩ := hrel
        by_cases hlm : m < l.length
        · obtain ⟨A2, hA2, hblk2, hcell2⟩ := run_indexAt_sl (P := Try.prog) Hi.out Try.underlying24 Try.size5 .i64 (m : Int) (by omega) (by omega)
          have hc2 := hcell2 0 (by omega)
          rw [u8s_get _ _ (by omega)] at hc2
          simp only [add_zero, Int.toNat_natCast, Nat.mul_one, Nat.add_zero] at hc2
          clear hcell2
          obtain ⟨x, hx⟩ : ∃ x, x = l.getD m 0 := ⟨_, rfl⟩
          rw [← hx] at hc2
          obtain ⟨C, hC⟩ : ∃ C, C = Crc.run C0 (l.take m) := ⟨_, rfl⟩
          rw [← hC]
          have Hx := Lib.hid hx
          have HC := Lib.hid hC
          clear hx hC
          have hxb := xor_byte C x
          obtain ⟨D, hD⟩ : ∃ D, D = C ^^^ x.toUInt32 := ⟨_, rfl⟩
          rw [← hD] at hxb
          have HD := Lib.hid hD
          clear hD
          go_wp2
          go_loop [3, 24] (fun c i => ∃ j : Nat, j ≤ 8 ∧ i = .int .i64 j ∧ c = .int .u32 (Crc.bits8 D j).toNat) (fun _ i => 8 - (intOf i).toNat)
          case atStart => exact ⟨0, Nat.zero_le _, rfl, rfl⟩
          case round =>
            obtain ⟨j, hj, rfl, rfl⟩ := hrel
            obtain ⟨E, hE⟩ : ∃ E, E = Crc.bits8 D j := ⟨_, rfl⟩
            rw [← hE]
            have HE := Lib.hid hE
            clear hE
            by_cases hjl : j < 8
            · go_wp2
              go_round
              case rel => exact ⟨j + 1, by omega, by go_num, by show _ = Value.int .u32 ((Crc.bit (Crc.bits8 D j)).toNat : Nat); rw [← HE.out, ← sum_bit]⟩
              case measure => simp [intOf]; omega
            · go_wp2
              obtain rfl : j = 8 := by omega
              go_round
              case rel => exact ⟨m + 1, by omega, by go_num, by rw [List.take_succ_eq_append_getElem hlm, Crc.run_snoc, ← HC.out, HE.out, HD.out, Hx.out]; simp [List.getD, hlm, Crc.byte]⟩
              case measure => simp [intOf]; omega
        · go_wp2
          obtain rfl : m = l.length := by omega
          go_round
          case rel => exact ⟨k + 1, by omega, by go_num, by rw [List.take_length, List.take_succ_eq_append_getElem hlt, List.flatten_append, Crc.run_append, ← HC0.out, Hl.out]; simp [List.getD, hlt]⟩
          case measure => simp [intOf]; omega
    · go_wp2
      go_ret
      obtain rfl : k = ls.length := by omega
      rw [List.take_length]
      exact ⟨ret_int (xor_max _), rfl⟩
end Go.Proofs.Ytbepbbjeieafhaa.Oct

/-
  octet.Join: all rows, one behind the other, as new memory.
-/



namespace Go.Proofs.Ytbepbbjeieafhaa.Oct
open Go.RowKit L
/-- new bytes, owned; or none at all -/
def OwnB (w : World) (B : Nat) (v : Value) (l : List UInt8) : Prop := Own w B 5 1 v l.length (u8s l) ∨ (l = [] ∧ ∃ a, v = .slice (some a) 0 0)
theorem OwnB.sl {w : World} {B : Nat} {v : Value} {l : List UInt8} (h : OwnB w B v l) : Sl w 1 v l.length (u8s l) := by
  rcases h with h | ⟨rfl, a, rfl⟩
  · exact h.sl
  · exact ⟨by simp [u8s], some a, 0, rfl, Nat.le_refl _, Nat.zero_le _, (fun h => by cases h), (fun a' _ j hj => by simp at hj)⟩
theorem OwnB.own {w : World} {B : Nat} {v : Value} {l : List UInt8} (h : OwnB w B v l) (hl : 0 < l.length) : Own w B 5 1 v l.length (u8s l) := by
  rcases h with h | ⟨rfl, _⟩
  · exact h
  · simp at hl
theorem OwnB.own' {w : World} {B B' : Nat} {v : Value} {l : List UInt8} (h : OwnB w B v l) (hl : 0 < l.length) (hB : B' ≤ B) : Own w B' 5 1 v l.length (u8s l) :=
  (h.own hl).from fun k hk => Nat.le_trans hB ((h.own hl).lt k hk).1
theorem OwnB.below {w w' : World} {B : Nat} {v : Value} {l : List UInt8} (h : OwnB w B v l) (hb : Below w.heap.size w w') : OwnB w' B v l := by
  rcases h with h | h
  · exact .inl (h.below hb)
  · exact .inr h
theorem ownB_of_fresh {B : Nat} {w : World} {v : Value} {l : List UInt8} (h : Lib.FreshBytes B w v l) : OwnB w B v l := by
  obtain ⟨g, cap, zs, rfl, hB, hl, hm, hz, hr, hb, hc, hf⟩ := h
  by_cases h0 : cap = 0
  · subst h0
    have : l = [] := List.eq_nil_of_length_eq_zero (by omega)
    subst this
    exact .inr ⟨rfl, _, rfl⟩
  · refine .inl ⟨by simp [u8s], .inr ⟨g, cap, ?_⟩⟩
    have h1 := hc 0 (by omega)
    unfold World.cell? at h1
    cases ho : w.heap[g]? with
    | none => simp [ho] at h1
    | some o =>
      cases o with
      | cells cur t fz =>
        have hcell : ∀ i, i < cap → cur[i]? = some (.int .u8 (zs.getD i 0)) := by
          intro i hi
          have := hc i hi
          simpa [World.cell?, ho] using this
        have hsz : cap ≤ cur.size := by
          have := hcell (cap - 1) (by omega)
          have := (Array.getElem?_eq_some_iff.1 this).1
          omega
        refine ⟨cur, rfl, hB, ⟨t, fz, ho, fun i hi => ?_⟩, hl, hm, by omega, ?_⟩
        · have := hf i (by omega)
          simpa [World.frozen?, ho] using this
        · have hlz : l.length = (zs.take l.length).length := by rw [List.length_take]; omega
          apply List.ext_getElem
          · simp [u8s]; omega
          · intro i h1 h2
            have hi : i < l.length := by simpa [u8s] using h2
            have hcu := hcell i (by omega)
            rw [List.getElem_take, Array.getElem_toList]
            have e1 : cur[i]'(by omega) = .int .u8 (zs.getD i 0) := by
              rw [Array.getElem?_eq_getElem (by omega)] at hcu
              exact Option.some.inj hcu
            rw [e1]
            have hzi : zs.getD i 0 = (zs.take l.length).getD i 0 := by
              simp [List.getD, hi]
            have hbi : l[i]'hi = ((zs.take l.length).map fun z => UInt8.ofNat z.toNat)[i]'(by rw [List.length_map, ← hlz]; exact hi) := by
              have : ∀ (a b : List UInt8) (e : a = b) (h : i < b.length) , b[i]'h = a[i]'(by rw [e]; exact h) := by intro a b e h; subst e; rfl
              exact this _ _ hb hi
            simp only [u8s, List.getElem_map, hbi]
            have hlt : i < zs.length := by omega
            have hrz := hr (zs[i]) (List.getElem_mem _)
            simp only [List.getElem_take, List.getD, List.getElem?_eq_getElem hlt, Option.getD_some]
            rw [UInt8.toNat_ofNat']
            congr 1
            omega
      | _ => simp [ho] at h1
theorem lens_flatten (ls : List (List UInt8)) : Lib.lens ls = ls.flatten.length := by
  simp [Lib.lens, List.length_flatten]
theorem join_flatten : ∀ (ls : List (List UInt8)), Lib.join ls [] = ls.flatten
  | [] => rfl
  | x :: r => by rw [Lib.join_cons]; simp [Lib.joinTail]
set_option maxHeartbeats 400000 in
theorem join_any {W0 w : World} {R : Asrt} (h : Hold W0 R w) (va : Value) (vs : List Value) (ls : List (List UInt8)) (ha : ReadsRows W0 R va vs (u8ss ls)) (hn : ls.length ≤ 140737488355328) (hlen : ls.flatten.length ≤ 140737488355328) :
    Calls Try.prog 62 #[va] w (RetV fun v' w' => OwnB w' w.heap.size v' ls.flatten ∧ Below w.heap.size w w') := by
  have hll : (u8ss ls).length = ls.length := by simp [u8ss]
  have hsl := ha.outer h
  rw [hll] at hsl
  have hin : ∀ k, k < ls.length → Sl w 1 (vs.getD k undef) (ls.getD k []).length (u8s (ls.getD k [])) := by
    intro k hk
    have := (ha.inner (i := k) (by rw [hll]; exact hk)).at h
    rwa [u8ss_get, u8s_length] at this
  clear ha
  obtain ⟨hvl, ao, cap, rfl, hnc, hcm, hnone, hcell⟩ := hsl
  have hj : Calls Try.prog 85 #[.slice ao ls.length cap, .slice none 0 0] w (RetV fun v' w' => OwnB w' w.heap.size v' ls.flatten ∧ Below w.heap.size w w') := by
    match hls : ls with
    | [] =>
      refine (Try.bytes_Join_none ao cap _ w).mono ?_
      rintro e w' ⟨rfl, rfl⟩
      exact ⟨_, rfl, .inl (Own.lit w [] 5 (Nat.zero_le _)), (Below.refl _ _).alloc (Nat.le_refl _) _⟩
    | [l0] =>
      have h0 := hin 0 (by simp)
      simp only [List.getD_cons_zero] at h0
      cases ao with
      | none => have := hnone rfl; simp at hnc; omega
      | some a =>
        obtain ⟨b, o, sp⟩ := a
        have hc0 := hcell _ rfl 0 (by simp)
        obtain ⟨hl0, ao0, cap0, hv0, hnc0, hcm0, hnone0, hcell0⟩ := h0
        have hsp : sp = none := by
          unfold World.cell? at hc0
          simp only [Addr.add] at hc0
          cases hh : w.heap[b]? with
          | none => simp [hh] at hc0
          | some ob => cases ob <;> simp [hh] at hc0; exact hc0.1
        subst hsp
        rw [hv0] at hc0
        by_cases hl : l0.length = 0
        · have hl0' : l0 = [] := List.eq_nil_of_length_eq_zero hl
          subst hl0'
          refine (Try.bytes_Join_one_empty b o cap ao0 cap0 _ w hc0).mono ?_
          rintro e w' ⟨rfl, rfl⟩
          exact ⟨_, rfl, .inl (Own.nil _ _ _ _), Below.refl _ _⟩
        · cases ao0 with
          | none => have := hnone0 rfl; omega
          | some ad0 =>
            refine (Try.bytes_Join_one b o cap ad0 cap0 l0 _ w hc0 (fun i x hx => ?_) (by omega) (by simpa using hlen)).mono ?_
            · have hi := (List.getElem?_eq_some_iff.1 hx).1
              rw [hcell0 ad0 rfl i (by omega), u8s_get _ _ hi]
              simp [List.getD, hx]
            · rintro e w' ⟨v', rfl, hf, hb⟩
              exact ⟨v', rfl, by simpa using ownB_of_fresh hf, hb⟩
    | l0 :: l1 :: r =>
      cases ao with
      | none => have := hnone rfl; simp at hnc; omega
      | some a =>
        obtain ⟨b, o, sp⟩ := a
        have hc0 := hcell _ rfl 0 (by simp)
        have hsp : sp = none := by
          unfold World.cell? at hc0
          simp only [Addr.add] at hc0
          cases hh : w.heap[b]? with
          | none => simp [hh] at hc0
          | some ob => cases ob <;> simp [hh] at hc0; exact hc0.1
        subst hsp
        rw [← hls] at hlen hn hin hvl hcell hnc ⊢
        refine (Try.bytes_Join_many b o ls.length cap vs ls (.slice none 0 0) [] w rfl (by rw [hls]; simp) ⟨by simpa using hvl, fun i v hv => ?_, fun i v l hv hl => ?_⟩ hnc ⟨none, 0, rfl, fun _ => rfl, (fun a h => by cases h)⟩ hn (by rw [lens_flatten]; simpa using hlen)).mono ?_
        · have hi := (List.getElem?_eq_some_iff.1 hv).1
          rw [hcell _ rfl i (by omega)]
          simp [List.getD, hv]
        · have hi := (List.getElem?_eq_some_iff.1 hl).1
          have := hin i hi
          simp only [List.getD, hv, hl, Option.getD_some] at this
          obtain ⟨hl0, ao0, cap0, hv0, hnc0, hcm0, hnone0, hcell0⟩ := this
          refine ⟨ao0, cap0, hv0, fun e => ?_, fun a ha j x hx => ?_⟩
          · have := hnone0 e
            exact List.eq_nil_of_length_eq_zero (by omega)
          · have hj := (List.getElem?_eq_some_iff.1 hx).1
            rw [hcell0 a ha j (by omega), u8s_get _ _ hj]
            simp [List.getD, hx]
        · rintro e w' ⟨v', rfl, hf, hb⟩
          rw [join_flatten] at hf
          exact ⟨v', rfl, ownB_of_fresh hf, hb⟩
  have HJ := Lib.hid hj
  clear hj hin hvl hcell hnone hcm hnc hll
  go_enter Try.func62, Try.ntmps62
  go_wp2_with (go_at_call 85; refine HJ.out.mono ?_; rintro e w' ⟨v', rfl, hown, hb⟩)
  have Ho := Lib.hid hown
  clear hown
  go_ret
  exact ⟨v', rfl, Ho.out, hb⟩
end Go.Proofs.Ytbepbbjeieafhaa.Oct

/-
  Rows of bytes in one world: literals, appended lists of rows; Join, Sum, same of them.
-/




namespace Go.Proofs.Ytbepbbjeieafhaa.Oct
open Go.RowKit L
theorem join_at {w : World} {va : Value} {ls : List (List UInt8)} (h : SlRows w va ls) (hn : ls.length ≤ 140737488355328) (hlen : ls.flatten.length ≤ 140737488355328) :
    Calls Try.prog 62 #[va] w (RetV fun v' w' => OwnB w' w.heap.size v' ls.flatten ∧ Below w.heap.size w w') := by
  obtain ⟨vs, hvs⟩ := h.reads
  exact join_any (Hold.start w) va vs ls (hvs _) hn hlen
theorem sum_at {w : World} {va : Value} {ls : List (List UInt8)} (h : SlRows w va ls) :
    Calls Try.prog 65 #[va] w fun e w' => e = .returned (.int .u32 (Crc.sum ls.flatten).toNat) ∧ w = w' := by
  obtain ⟨vs, hvs⟩ := h.reads
  exact sum_any (Hold.start w) va vs ls (hvs _)
end Go.Proofs.Ytbepbbjeieafhaa.Oct

/-
  The walks of chapter 2 (frame): four, fromFour, headOf, Encode, Decode, One, Scan.
-/









namespace Go.Proofs.Ytbepbbjeieafhaa.Fr
open Go.RowKit L Oct
theorem byte0 (v k : Nat) : ((v / k : Nat) : Int) % 256 = ((UInt8.ofNat (v / k)).toNat : Int) := by
  rw [ofNat_toNat]; omega
theorem or_add (k x y : Nat) (h : x < 2 ^ k) : x ||| y * 2 ^ k = x + y * 2 ^ k := by
  rw [Nat.or_comm, Nat.add_comm, ← Nat.shiftLeft_eq, Nat.shiftLeft_add_eq_or_of_lt h]
theorem or4 (a b c d : UInt8) : bits .or .u32 (bits .or .u32 (bits .or .u32 (a.toNat : Int) ((b.toNat : Int) * 256)) ((c.toNat : Int) * 65536)) ((d.toNat : Int) * 16777216) = (num4 a b c d : Nat) := by
  have h1 := a.toNat_lt
  have h2 := b.toNat_lt
  have h3 := c.toNat_lt
  have h4 := d.toNat_lt
  rw [show ((b.toNat : Int) * 256) = ((b.toNat * 2 ^ 8 : Nat) : Int) from by omega, show ((c.toNat : Int) * 65536) = ((c.toNat * 2 ^ 16 : Nat) : Int) from by omega, show ((d.toNat : Int) * 16777216) = ((d.toNat * 2 ^ 24 : Nat) : Int) from by omega]
  rw [u32_or_nat _ _ (by omega) (by omega), or_add 8 _ _ (by omega), u32_or_nat _ _ (by omega) (by omega), or_add 16 _ _ (by omega), u32_or_nat _ _ (by omega) (by omega), or_add 24 _ _ (by omega)]
  unfold num4
  omega
set_option maxHeartbeats 400000 in
theorem four_any (v : Nat) (hv : v < 4294967296) (w : World) :
    Calls Try.prog 64 #[.int .u32 (v : Int)] w (RetV fun v' w' => Own w' w.heap.size 5 1 v' 4 (u8s (four v)) ∧ Below w.heap.size w w') := by
  have h0 : (0 : Int) ≤ v := by omega
  have h1 : (v : Int) < 4294967296 := by omega
  go_enter Try.func64, Try.ntmps64
  have hcs : Hid (([.int .u8 ((v : Int) % 256), .int .u8 ((v : Int) / 256 % 256), .int .u8 ((v : Int) / 65536 % 256), .int .u8 ((v : Int) / 16777216)] : List Value) = u8s (four v)) := by
    refine Lib.hid ?_
    have e1 : ((UInt8.ofNat v).toNat : Int) = (v : Int) % 256 := by rw [ofNat_toNat]; omega
    have e2 : ((UInt8.ofNat (v / 256)).toNat : Int) = (v : Int) / 256 % 256 := by rw [ofNat_toNat]; omega
    have e3 : ((UInt8.ofNat (v / 65536)).toNat : Int) = (v : Int) / 65536 % 256 := by rw [ofNat_toNat]; omega
    have e4 : ((UInt8.ofNat (v / 16777216)).toNat : Int) = (v : Int) / 16777216 := by rw [ofNat_toNat]; omega
    simp only [four, u8s, List.map_cons, List.map_nil, e1, e2, e3, e4]
  have Hv := Lib.hid hv
  clear hv
  go_wp2
  go_ret
  refine ⟨_, rfl, ?_, (Below.refl _ _).alloc (Nat.le_refl _) _⟩
  have := Own.lit w (u8s (four v)) 5 (by simp [u8s, four, maxLen])
  rw [← hcs.out] at this ⊢
  exact this
set_option maxHeartbeats 400000 in
theorem fromFour_any (v : Value) (l : List UInt8) (n : Nat) (w : World) (hn : 4 ≤ l.length) (hl : n = l.length) (hsl : Sl w 1 v n (u8s l)) :
    Calls Try.prog 87 #[v] w fun e w' => e = .returned (.int .u32 (from4 l)) ∧ Below w.heap.size w w' := by
  subst hl
  obtain ⟨A0, x0, hA0, _, hc0, X0, hx0⟩ := hsl.at8' (P := Try.prog) Try.underlying24 Try.size5 0 0 rfl (by omega)
  obtain ⟨A1, x1, hA1, _, hc1, X1, hx1⟩ := hsl.at8' (P := Try.prog) Try.underlying24 Try.size5 1 1 rfl (by omega)
  obtain ⟨A2, x2, hA2, _, hc2, X2, hx2⟩ := hsl.at8' (P := Try.prog) Try.underlying24 Try.size5 2 2 rfl (by omega)
  obtain ⟨A3, x3, hA3, _, hc3, X3, hx3⟩ := hsl.at8' (P := Try.prog) Try.underlying24 Try.size5 3 3 rfl (by omega)
  clear hsl
  go_enter Try.func87, Try.ntmps87
  go_wp2
  go_quiet (fail)
  go_wp2
  go_ret
  refine ⟨ret_int ?_, below_drewN (Below.refl _ _) _⟩
  rw [or4, X0.out, X1.out, X2.out, X3.out]
  rfl
/-- a value and an error -/
def RetE (R : Value → World → Prop) (z : Int) (e : Ending) (w' : World) : Prop := ∃ v, e = .returned (.tuple #[v, .int .i64 z]) ∧ R v w'
set_option maxHeartbeats 800000 in
theorem headOf_any (n : Nat) (hn : n < 4294967296) (w : World) :
    Calls Try.prog 63 #[.int .u32 (n : Int)] w (RetV fun v' w' => Own w' w.heap.size 5 1 v' 8 (u8s (head n)) ∧ Below w.heap.size w w') := by
  have Hn := Lib.hid hn
  go_enter Try.func63, Try.ntmps63
  go_wp2_with fail
  refine (four_any n hn w).mono ?_
  rintro e w1 ⟨v1, rfl, ho1, hb1⟩
  obtain ⟨p1, c1, rfl⟩ := ho1.shape
  clear hn
  go_wp2_with fail
  refine (four_any n Hn.out w1).mono ?_
  rintro e w2 ⟨v2, rfl, ho2, hb2⟩
  obtain ⟨p2, c2, rfl⟩ := ho2.shape
  have s1 := ho1.sl.below' hb2
  have hb2 := hb1.trans (hb2.mono hb1.size)
  go_wp2_with fail
  refine (sum_at (rowsLit1 24 (l1 := four n) ho2.sl rfl)).mono ?_
  rintro e w3 ⟨he, hw⟩
  rw [show [four n].flatten = four n from by simp] at he
  subst he
  have hb3 : Below w.heap.size w w3 := by rw [← hw]; exact hb2.alloc hb2.size _
  have s1 : Sl w3 1 (.slice p1 4 c1) 4 (u8s (four n)) := by rw [← hw]; exact sl_alloc s1 _
  clear hw hb1 hb2 ho1 ho2
  have hcl := crc_lt (four n)
  go_wp2_with fail
  refine (four_any (crc (four n)) hcl w3).mono ?_
  rintro e w4 ⟨v4, rfl, ho4, hb4⟩
  obtain ⟨p4, c4, rfl⟩ := ho4.shape
  have s1 := s1.below' hb4
  have hb4 := hb3.trans (hb4.mono hb3.size)
  clear hcl
  go_wp2_with fail
  refine (join_at (rowsLit2 24 (l1 := four n) (l2 := four (crc (four n))) s1 ho4.sl rfl) (by simp) (by simp [four])).mono ?_
  rintro e w5 ⟨v5, rfl, ho5, hb5⟩
  rw [show [four n, four (crc (four n))].flatten = head n from by simp [head]] at ho5
  have hb5 : Hid (Below w.heap.size w w5) := Lib.hid ((hb4.alloc hb4.size _).trans (hb5.mono (hb4.alloc hb4.size _).size))
  have Ho : Hid (Own w5 w.heap.size 5 1 v5 8 (u8s (head n))) := Lib.hid (ho5.own' (by rw [head_length]; decide) (hb4.alloc hb4.size _).size)
  clear ho5 hb4 hb3 ho4 s1
  go_wp2
  go_ret
  exact ⟨v5, rfl, Ho.out, hb5.out⟩
set_option maxRecDepth 100000 in
set_option maxHeartbeats 1600000 in
theorem encode_any (va : Value) (ls : List (List UInt8)) (w : World) (h : SlRows w va ls) (hn : ls.length ≤ 100000000000000) (hl : ls.flatten.length ≤ 1048576) :
    Calls Try.prog 33 #[va] w (RetE (fun v' w' => Own w' w.heap.size 5 1 v' (rec_ ls.flatten).length (u8s (rec_ ls.flatten)) ∧ Below w.heap.size w w') 0) := by
  have hlen := h.run_len Try.underlying95
  obtain ⟨F, hF⟩ : ∃ F, F = ls.flatten := ⟨_, rfl⟩
  rw [← hF] at hl ⊢
  have hle := flatten_take_le ls
  rw [← hF] at hle
  have HF := Lib.hid hF
  have Hle := Lib.hid hle
  clear hF hle
  go_enter Try.func33, Try.ntmps33
  go_wp2
  go_loop [4, 10] (fun n i => ∃ k m : Nat, k ≤ ls.length ∧ i = .int .i64 k ∧ n = .int .i64 m ∧ Hid (m = (ls.take k).flatten.length) ∧ m ≤ 1048576) (fun _ i => ls.length - (intOf i).toNat)
  case atStart => exact ⟨0, 0, Nat.zero_le _, rfl, rfl, Lib.hid (by simp), by omega⟩
  case round =>
    obtain ⟨k, m, hk, rfl, rfl, Hm, hm⟩ := hrel
    by_cases hlt : k < ls.length
    · obtain ⟨A, u, l, hA, hblk, hc, Hl, hul⟩ := h.at (P := Try.prog) Try.underlying95 Try.size24 k hlt
      have hlen2 := hul.run_len Try.underlying24
      have hst := heavy_step hlt
      rw [← Hl.out, ← Hm.out] at hst
      have hle := Hle.out (k + 1)
      have hml : m + l.length ≤ 1048576 := by omega
      have Hst := Lib.hid hst
      clear hul hst hle
      go_wp2
      go_round
      case rel => exact ⟨k + 1, m + l.length, by omega, by go_num, by go_num, Lib.hid Hst.out.symm, hml⟩
      case measure => simp [intOf]; omega
    · obtain rfl : k = ls.length := by omega
      rw [List.take_length, ← HF.out] at Hm
      have hmF := Hm.out
      subst hmF
      go_wp2_with fail
      refine (headOf_any F.length (by omega) w).mono ?_
      rintro e w1 ⟨v1, rfl, ho1, hb1⟩
      obtain ⟨p1, c1, rfl⟩ := ho1.shape
      have h := h.below' hb1
      go_wp2_with fail
      refine (join_at h (by omega) (by rw [← HF.out]; omega)).mono ?_
      rintro e w2 ⟨v2, rfl, ho2, hb2⟩
      rw [← HF.out] at ho2
      obtain ⟨p2, c2, rfl⟩ := ho2.sl.shape
      have s1 := ho1.sl.below' hb2
      have hb2 := hb1.trans (hb2.mono hb1.size)
      go_wp2_with fail
      refine (join_at (rowsLit2 24 (l1 := head F.length) (l2 := F) s1 ho2.sl rfl) (by simp) (by simp [head_length]; omega)).mono ?_
      rintro e w3 ⟨v3, rfl, ho3, hb3⟩
      obtain ⟨B, hB⟩ : ∃ B, B = head F.length ++ F := ⟨_, rfl⟩
      rw [show [head F.length, F].flatten = B from by rw [hB]; simp] at ho3
      have hBl : B.length = 8 + F.length := by rw [hB, List.length_append, head_length]
      obtain ⟨p3, c3, rfl⟩ := ho3.sl.shape
      have hb3 := (hb2.alloc hb2.size _).trans (hb3.mono (hb2.alloc hb2.size _).size)
      have s3 := ho3.sl
      have HB := Lib.hid hB
      have HBl := Lib.hid hBl
      clear ho1 ho2 s1 hb1 hb2 hB h ho3 hBl
      go_wp2_with fail
      refine (sum_at (rowsLit1 24 s3 rfl)).mono ?_
      rintro e w4 ⟨he, hw⟩
      rw [show [B].flatten = B from by simp] at he
      subst he
      have hb4 : Below w.heap.size w w4 := by rw [← hw]; exact hb3.alloc hb3.size _
      have s4 : Sl w4 1 (.slice p3 B.length c3) B.length (u8s B) := by rw [← hw]; exact sl_alloc s3 _
      have hcl := crc_lt B
      clear hw hb3 s3
      go_wp2_with fail
      refine (four_any (crc B) hcl w4).mono ?_
      rintro e w5 ⟨v5, rfl, ho5, hb5⟩
      obtain ⟨p5, c5, rfl⟩ := ho5.shape
      have s5 := s4.below' hb5
      have hb5 := hb4.trans (hb5.mono hb4.size)
      clear hcl
      go_wp2_with fail
      refine (join_at (rowsLit2 24 (l1 := B) (l2 := four (crc B)) s5 ho5.sl rfl) (by simp) (by have := HBl.out; simp [four_length]; omega)).mono ?_
      rintro e w6 ⟨v6, rfl, ho6, hb6⟩
      rw [show [B, four (crc B)].flatten = rec_ F from by rw [HB.out]; simp [rec_]] at ho6
      have Hb6 : Hid (Below w.heap.size w w6) := Lib.hid ((hb5.alloc hb5.size _).trans (hb6.mono (hb5.alloc hb5.size _).size))
      have Ho : Hid (Own w6 w.heap.size 5 1 v6 (rec_ F).length (u8s (rec_ F))) := Lib.hid (ho6.own' (by rw [rec_length]; omega) (hb5.alloc hb5.size _).size)
      clear ho6 hb5 hb4 hb6 s4 s5 ho5
      go_wp2
      go_ret2
      exact ⟨v6, rfl, Ho.out, Hb6.out⟩
end Go.Proofs.Ytbepbbjeieafhaa.Fr
