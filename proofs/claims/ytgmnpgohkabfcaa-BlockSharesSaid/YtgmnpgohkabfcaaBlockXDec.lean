/-
  The reference's Decode of chapter 7: what it answers.
-/
import Derived.Test.YtgmnpgohkabfcaaBlockDec
import Derived.Test.YtgmnpgohkabfcaaBlockXEnc
import Derived.Test.YtgmnpgohkabfcaaOctetRefRd
namespace Go.Proofs.Ytgmnpgohkabfcaa.Bl
open Go.RowKit L Oct
def XRel (w : World) (b : List UInt8) (br : Nat) (y : Value) (wr : World) : Prop :=
  ∃ ll rest, Hold w ((Xd w br rest false).sep ((Row 36 4 y ll.length (cls ll)).sep Asrt.emp)) wr ∧ Follow b ll rest false ∧ ll.length + rest.length ≤ b.length ∧ (∀ c ∈ ll, c.key.size ≤ ll.length * 100000)
/-- what is taken besides, if the cell is not gone -/
def ValD (d : Nat) (l4 : List UInt8) (b4 : Bool) (V : ByteArray) (l5 : List UInt8) (b5 : Bool) : Prop :=
  (d = 0 ∧ V = ⟨(got [] (decRow l4)).toArray⟩ ∧ l5 = left (decRow l4) ∧ b5 = (b4 || (decRow l4).isNone)) ∨ (d ≠ 0 ∧ V = ⟨#[]⟩ ∧ l5 = l4 ∧ b5 = b4)
theorem xstep_no {b : List UInt8} {ll : List Cl} {rest l4 l5 : List UInt8} {n d : Nat} {b4 b5 : Bool} {V : ByteArray} {A B : Cl} (hF : Follow b ll rest false) (hne : ¬ rest = [])
    (hC : cellD (lastKey ll) rest false = if (lastKey ll).size < n then (default, [], true) else if d = 0 then (A, left (decRow l4), b4 || (decRow l4).isNone) else (B, l4, b4))
    (hV : ValD d l4 b4 V l5 b5) (hdel : delOf rest = d) (hbad : b5 = true ∨ (lastKey ll).size < n ∨ 1 < d) : ∀ l0, ¬ DecOk b l0 := by
  intro l0 h0
  have hk := (follow_key (follow_step hF hne) h0).2
  have hd := follow_del hF hne h0
  rw [hC] at hk
  rcases hbad with h | h | h
  · by_cases hs : (lastKey ll).size < n
    · rw [if_pos hs] at hk; cases hk
    · rw [if_neg hs] at hk
      rcases hV with ⟨hd0, _, _, h5⟩ | ⟨hd0, _, _, h5⟩
      · rw [if_pos hd0, ← h5, h] at hk; cases hk
      · rw [if_neg hd0, ← h5, h] at hk; cases hk
  · rw [if_pos h] at hk; cases hk
  · omega
theorem xstep_yes {ahead : ByteArray} {rest l4 l5 : List UInt8} {n d : Nat} {b4 : Bool} {V K : ByteArray} {q : Int}
    (hC : cellD ahead rest false = if ahead.size < n then (default, [], true) else if d = 0 then (⟨K, ⟨(got [] (decRow l4)).toArray⟩, false, q⟩, left (decRow l4), b4 || (decRow l4).isNone) else (⟨K, ByteArray.empty, true, q⟩, l4, b4))
    (hV : ValD d l4 b4 V l5 false) (hn : ¬ ahead.size < n) (hd : ¬ 1 < d) : cellD ahead rest false = (⟨K, V, (d : Int) == 1, q⟩, l5, false) := by
  rw [hC, if_neg hn]
  rcases hV with ⟨hd0, rfl, rfl, h5⟩ | ⟨hd0, rfl, rfl, rfl⟩
  · rw [if_pos hd0, ← h5, hd0]; rfl
  · obtain rfl : d = 1 := by omega
    rfl
set_option maxRecDepth 1000000 in
set_option maxHeartbeats 3200000 in
theorem xdecode_any (v : Value) (b : List UInt8) (w : World) (h : Sl w 1 v b.length (u8s b)) (hn : b.length ≤ 100000) : Calls Try.prog 15 #[v] w (RetDec w b) := by
  have H1 := addXdOld (Hold.start w) h (b := w.heap.size) rfl
  have H0 := (H1.addNil 36 4).up2
  clear H1
  obtain ⟨ao0, cap0, rfl⟩ := h.shape
  obtain ⟨bx, hbx⟩ : ∃ bx, bx = w.heap.size := ⟨_, rfl⟩
  rw [← hbx] at H0
  go_enter Try.func15, Try.ntmps15
  go_wp2_with fail
  rw [← hbx]
  clear hbx
  go_loopw [5] (fun y wr => XRel w b bx y wr) (fun y _ => b.length - lenOf y)
  case atStart => exact ⟨[], b, H0, follow_start b, by simp, by simp⟩
  case round =>
    clear H0
    obtain ⟨ll, rest, H, HF, hle, hks⟩ := hrel
    obtain ⟨ao, cap, rfl⟩ := H.up2.own.shape
    have Hks := Lib.hid hks
    clear hks
    have hlen := H.up2.sl.run_len Try.underlying22
    obtain ⟨v', hb, _, hsl, _⟩ := xd_open H
    have hlen' := hsl.run_len Try.underlying24
    have k0 := blk_cell hb 0
    have k1 := blk_cell hb 1
    clear hb hsl
    by_cases hne : rest = []
    · subst hne
      have Hsl := H.up2.sl
      have hll : ll.length ≤ 100000 := by simp at hle; omega
      clear hle
      go_wp2_with fail
      refine (xencode_any _ ll _ Hsl hll).mono ?_
      rintro e w3 ⟨v3, rfl, ho3, hb3⟩
      have H3 := H.keeps hb3
      have s3 := ho3.sl
      have hs := h.below' H3.old
      have h11 := riseN_small ll
      have HH := Lib.hid H3.old
      have Ho := Lib.hid H3.drop1.fin.1
      obtain ⟨v'', hb, _, _, _⟩ := xd_open H3
      have m1 := blk_cell hb 1
      clear ho3 hb3 Hsl H H3 hb k0 k1
      by_cases hr : riseN ll = 0
      · have hz : ((riseN ll : Int) != 0) = false := by simp [hr]
        have hR : Hid (encR ll = encL ll) := Lib.hid (by rw [encR, if_pos hr])
        have Hr := Lib.hid hr
        have cv1 := s3.run_string (src := 24) (dst := 9) Try.underlying24 Try.underlying5 Try.underlying9
        have cv2 := hs.run_string (src := 24) (dst := 9) Try.underlying24 Try.underlying5 Try.underlying9
        obtain ⟨S1, hS1⟩ : ∃ S1, S1 = ByteArray.mk (encR ll).toArray := ⟨_, rfl⟩
        obtain ⟨S2, hS2⟩ : ∃ S2, S2 = ByteArray.mk b.toArray := ⟨_, rfl⟩
        rw [← hS1] at cv1
        rw [← hS2] at cv2
        have hq : S1.toList = encR ll ∧ S2.toList = b := by
          rw [hS1, hS2, ByteArray.toList_eq, ByteArray.toList_eq]
          exact ⟨rfl, rfl⟩
        have Hq := Lib.hid hq
        clear hr hS1 hS2 hq
        by_cases he : encR ll = b
        · have hd : (S1.toList == S2.toList) = true := by rw [Hq.out.1, Hq.out.2]; simpa using he
          have hok : Hid (DecOk b ll) := Lib.hid ⟨Hr.out, by rw [← hR.out]; exact he⟩
          clear he HF
          go_wp2
          go_ret2
          exact ⟨HH.out, .inl ⟨ll, _, hok.out, rfl, Ho.out⟩⟩
        · have hd : (S1.toList == S2.toList) = false := by rw [Hq.out.1, Hq.out.2]; simpa using he
          have hno : Hid (∀ l, ¬ DecOk b l) := Lib.hid fun l0 h0 => he (by
            obtain ⟨rfl, _⟩ := follow_end HF h0
            rw [hR.out]; exact h0.2)
          clear he HF
          go_wp2
          go_ret2
          exact ⟨HH.out, .inr ⟨hno.out, rfl⟩⟩
      · have hz : ((riseN ll : Int) != 0) = true := by simp [hr]
        have hno : Hid (∀ l, ¬ DecOk b l) := Lib.hid fun l0 h0 => by
          obtain ⟨rfl, _⟩ := follow_end HF h0
          exact hr h0.1
        clear HF hr
        go_wp2
        go_ret2
        exact ⟨HH.out, .inr ⟨hno.out, rfl⟩⟩
    · have hpos : 0 < rest.length := List.length_pos_iff.2 hne
      have Hne := Lib.hid hne
      have HF3 := Lib.hid HF
      have hrl : rest.length ≤ 100000 := by omega
      clear hne HF
      go_wp2_with fail
      refine (xnum_any H (by omega)).mono ?_
      rintro e w2 ⟨rfl, H2⟩
      have hl1 := left_dec' rest
      obtain ⟨n, hn0⟩ : ∃ n, n = got 0 (dec 0 0 rest) := ⟨_, rfl⟩
      obtain ⟨l1, h1⟩ : ∃ l1, l1 = left (dec 0 0 rest) := ⟨_, rfl⟩
      obtain ⟨b1, g1⟩ : ∃ b1, b1 = (false || (dec 0 0 rest).isNone) := ⟨_, rfl⟩
      rw [← h1, ← g1] at H2
      rw [← hn0]
      rw [← h1] at hl1
      have E1 := Lib.hid (And.intro hn0 (And.intro h1 g1))
      clear hn0 h1 g1 H k0 k1
      go_wp2_with fail
      refine (xbytes_any H2 (by omega)).mono ?_
      rintro e w3 ⟨v3, rfl, H3⟩
      obtain ⟨ao3, cap3, rfl⟩ := H3.own.shape
      have hl2 := left_decRow l1
      have hx2 := got_decRow l1
      obtain ⟨x, hx⟩ : ∃ x, x = got [] (decRow l1) := ⟨_, rfl⟩
      obtain ⟨l2, h2⟩ : ∃ l2, l2 = left (decRow l1) := ⟨_, rfl⟩
      obtain ⟨b2, g2⟩ : ∃ b2, b2 = (b1 || (decRow l1).isNone) := ⟨_, rfl⟩
      rw [← h2, ← g2, ← hx] at H3
      rw [← h2] at hl2
      rw [← hx] at hx2
      rw [← hx]
      have E2 := Lib.hid (And.intro hx (And.intro h2 g2))
      clear hx h2 g2 H2
      go_wp2_with fail
      refine (xnum_any H3.up2 (by omega)).mono ?_
      rintro e w4 ⟨rfl, H4⟩
      have hl3 := left_dec' l2
      obtain ⟨q, hq⟩ : ∃ q, q = got 0 (dec 0 0 l2) := ⟨_, rfl⟩
      obtain ⟨l3, h3⟩ : ∃ l3, l3 = left (dec 0 0 l2) := ⟨_, rfl⟩
      obtain ⟨b3, g3⟩ : ∃ b3, b3 = (b2 || (dec 0 0 l2).isNone) := ⟨_, rfl⟩
      rw [← h3, ← g3] at H4
      rw [← hq]
      rw [← h3] at hl3
      have E3 := Lib.hid (And.intro hq (And.intro h3 g3))
      have H5 := (H4.addBlk (cs := #[.string ⟨#[]⟩, .string ⟨#[]⟩, .bool false, .int .i64 q]) (t := 36) (b := w4.heap.size) rfl).up2
      clear hq h3 g3 H3 H4
      obtain ⟨bc, hbc⟩ : ∃ bc, bc = w4.heap.size := ⟨_, rfl⟩
      rw [← hbc] at H5
      go_wp2_with fail
      rw [← hbc]
      clear hbc
      refine (xnum_any H5 (by omega)).mono ?_
      rintro e w5 ⟨rfl, H6⟩
      have hl4 := left_dec' l3
      obtain ⟨d, hd⟩ : ∃ d, d = got 0 (dec 0 0 l3) := ⟨_, rfl⟩
      obtain ⟨l4, h4⟩ : ∃ l4, l4 = left (dec 0 0 l3) := ⟨_, rfl⟩
      obtain ⟨b4, g4⟩ : ∃ b4, b4 = (b3 || (dec 0 0 l3).isNone) := ⟨_, rfl⟩
      rw [← h4, ← g4] at H6
      rw [← hd]
      rw [← h4] at hl4
      have E4 := Lib.hid (And.intro hd (And.intro h4 g4))
      have H7 := Lib.hid (H6.up2.setBlk 2 (.bool ((d : Int) == 1)))
      have f2 := blk_free H6.up2.blk 2
      have k2 := blk_cell H6.up2.blk 2
      clear hd h4 g4 H5 H6
      go_upto_if 42 with fail
      obtain ⟨w6, hw6⟩ : ∃ w6, w6 = w5.setCell ⟨bc, 2, none⟩ (.bool ((d : Int) == 1)) := ⟨_, rfl⟩
      have H8 := H7.out
      rw [← hw6] at H8 ⊢
      have H8 : Hold w ((Blk bc #[.string ⟨#[]⟩, .string ⟨#[]⟩, .bool ((d : Int) == 1), .int .i64 q] 36).sep _) w6 := H8
      clear hw6 H7 f2 k2
      go_cut [] (fun wc => ∃ (V : ByteArray) (l5 : List UInt8) (b5 : Bool), Hid (ValD d l4 b4 V l5 b5) ∧ Hold w ((Blk bc #[.string ⟨#[]⟩, .string V, .bool ((d : Int) == 1), .int .i64 q] 36).sep ((Xd w bx l5 b5).sep ((Row 5 1 (.slice ao3 x.length cap3) x.length (u8s x)).sep ((Row 36 4 (.slice ao ll.length cap) ll.length (cls ll)).sep Asrt.emp)))) wc)
      case first =>
        by_cases hd0 : d = 0
        · have hz : ((d : Int) == 0) = true := by simpa using hd0
          have Hd0 := Lib.hid hd0
          clear hd0
          go_wp2_with fail
          refine (xbytes_any H8.up2 (by omega)).mono ?_
          rintro e w7 ⟨v7, rfl, H9⟩
          obtain ⟨ao7, cap7, rfl⟩ := H9.own.shape
          have hcv := H9.own.sl.run_string (src := 24) (dst := 9) Try.underlying24 Try.underlying5 Try.underlying9
          have H10 := H9.drop1.up2
          have f1 := blk_free H10.blk 1
          have kk1 := blk_cell H10.blk 1
          have H11 := Lib.hid (H10.setBlk 1 (.string ⟨(got [] (decRow l4)).toArray⟩))
          clear H8 H9 H10
          go_wp2_with fail
          go_meet
          exact ⟨_, _, _, Lib.hid (.inl ⟨Hd0.out, rfl, rfl, rfl⟩), H11.out⟩
        · have hz : ((d : Int) == 0) = false := by simpa using hd0
          have Hd0 := Lib.hid hd0
          have H9 := Lib.hid H8
          clear hd0 H8
          go_wp2_with fail
          go_meet
          exact ⟨_, _, _, Lib.hid (.inr ⟨Hd0.out, rfl, rfl, rfl⟩), H9.out⟩
      case rest =>
        clear H8
        obtain ⟨V, l5, b5, HV, H9⟩ := hcut
        have Hlk := Lib.hid (lastKey_le Hks.out)
        go_upto_if 49 with fail
        go_cut [10] (fun s6 wd => s6 = .string (lastKey ll) ∧ wd = wc)
        case first =>
          by_cases hl0 : ll = []
          · subst hl0
            have hlk : Hid (lastKey [] = ⟨#[]⟩) := Lib.hid rfl
            go_wp2
            go_meet
            exact ⟨by rw [hlk.out], rfl⟩
          · have hlp : 0 < ll.length := List.length_pos_iff.2 hl0
            obtain ⟨A, c, hA, _, hcells, Hc⟩ := H9.up4.sl.atCl (P := Try.prog) Try.underlying22 Try.size36 (ll.length - 1) ((ll.length : Int) - 1) (by omega) (by omega)
            have hlk : Hid (lastKey ll = c.key) := Lib.hid (by rw [lastKey, if_neg hl0, Hc.out])
            have c0 := hcells.key
            clear hl0
            go_wp2
            go_meet
            exact ⟨by rw [hlk.out], rfl⟩
        case rest =>
          obtain ⟨rfl, rfl⟩ := hcut
          have HcD := Lib.hid (cellD_get (ahead := lastKey ll) E1.out.1 E1.out.2.1 E1.out.2.2 E2.out.1 E2.out.2.1 E2.out.2.2 E3.out.1 E3.out.2.1 E3.out.2.2 E4.out.1 E4.out.2.1 E4.out.2.2)
          have Hdel : Hid (delOf rest = d) := Lib.hid (by rw [delOf, ← E1.out.2.1, ← E2.out.2.1, ← E3.out.2.1, ← E4.out.1])
          obtain ⟨v', hb, _, hsl, _⟩ := xd_open H9.up2
          have k1 := blk_cell hb 1
          have hl5 : l5.length ≤ rest.length := by
            rcases HV.out with ⟨_, _, h5, _⟩ | ⟨_, _, h5, _⟩
            · have := left_decRow l4; rw [h5]; omega
            · rw [h5]; omega
          clear hb hsl hl2 hl3 hl4 E1 E2 E3 E4
          cases b5 with
          | true =>
            have hno := Lib.hid (xstep_no HF3.out Hne.out HcD.out HV.out Hdel.out (.inl rfl))
            have HH := Lib.hid H9.old
            clear H9
            go_wp2
            go_ret2
            exact ⟨HH.out, .inr ⟨hno.out, rfl⟩⟩
          | false =>
            by_cases hah : (lastKey ll).size < n
            · have hg : decide (((lastKey ll).size : Int) < (n : Int)) = true := by simpa using hah
              have hg' : decide ((lastKey ll).size < n) = true := by simpa using hah
              have hno := Lib.hid (xstep_no HF3.out Hne.out HcD.out HV.out Hdel.out (.inr (.inl hah)))
              have HH := Lib.hid H9.old
              clear H9 hah
              go_wp2
              go_ret2
              exact ⟨HH.out, .inr ⟨hno.out, rfl⟩⟩
            · have hg : decide (((lastKey ll).size : Int) < (n : Int)) = false := by simpa using hah
              have hg' : decide ((lastKey ll).size < n) = false := by simpa using hah
              by_cases hd1 : 1 < d
              · have hh : decide ((1 : Int) < (d : Int)) = true := by simp; omega
                have hh' : decide (1 < d) = true := by simpa using hd1
                have hno := Lib.hid (xstep_no HF3.out Hne.out HcD.out HV.out Hdel.out (.inr (.inr hd1)))
                have HH := Lib.hid H9.old
                clear H9 hah hd1
                go_wp2
                go_ret2
                exact ⟨HH.out, .inr ⟨hno.out, rfl⟩⟩
              · have hh : decide ((1 : Int) < (d : Int)) = false := by simp; omega
                have hh' : decide (1 < d) = false := by simpa using hd1
                have hD := Lib.hid (xstep_yes HcD.out HV.out hah hd1)
                have hlt := cellD_lt (lastKey ll) rest false Hne.out
                have HF5 := Lib.hid (follow_step HF3.out Hne.out)
                rw [hD.out] at hlt HF5
                have hlk2 := Hlk.out
                have hadd : ((lastKey ll).extract 0 n).size + (ByteArray.mk x.toArray).size ≤ 9223372036854775807 := by
                  have e1 : ((lastKey ll).extract 0 n).size = n := by rw [ByteArray.size_extract]; omega
                  have e2 : (ByteArray.mk x.toArray).size = x.length := by simp [ByteArray.size]
                  omega
                have hks2 : Hid (∀ y : Cl, y ∈ ll ++ [⟨(lastKey ll).extract 0 n ++ ⟨x.toArray⟩, V, (d : Int) == 1, q⟩] → y.key.size ≤ (ll.length + 1) * 100000) := Lib.hid fun y hy => by
                  rcases List.mem_append.1 hy with hy | hy
                  · have := Hks.out y hy; omega
                  · obtain rfl := List.mem_singleton.1 hy
                    have e1 : ((lastKey ll).extract 0 n).size = n := by rw [ByteArray.size_extract]; omega
                    have e2 : (ByteArray.mk x.toArray).size = x.length := by simp [ByteArray.size]
                    show ((lastKey ll).extract 0 n ++ ⟨x.toArray⟩).size ≤ _
                    rw [ByteArray.size_append]
                    omega
                have hn1 : (n : Int) ≤ ((lastKey ll).size : Int) := by omega
                have hn2 : (0 : Int) ≤ (n : Int) := by omega
                have hrun := fun w' : World => run_string_add_sum (P := Try.prog) (w := w') _ _ hadd
                have hcv := H9.up3.own.sl.run_string (src := 24) (dst := 9) Try.underlying24 Try.underlying5 Try.underlying9
                have f0 := blk_free H9.blk 0
                have kk0 := blk_cell H9.blk 0
                have H10 := Lib.hid (H9.setBlk 0 (.string ((lastKey ll).extract 0 n ++ ⟨x.toArray⟩)))
                have hcv' : (convert 24 9 (.slice ao3 x.length cap3)).run Try.prog wc.drew = .ok (.string ⟨x.toArray⟩) wc.drew := (Sl.drew H9.up3.own.sl).run_string (src := 24) (dst := 9) Try.underlying24 Try.underlying5 Try.underlying9
                have E := Lib.hid (H10.out.drew.up3.own.sl.run_string (src := 24) (dst := 9) Try.underlying24 Try.underlying5 Try.underlying9)
                clear hadd hah hd1 H9 hlk2
                go_wp2_with fail
                go_region_held3 (fun w' => (convert 24 9 (.slice ao3 x.length cap3)).run Try.prog w' = .ok (.string ⟨x.toArray⟩) w') (first | exact E.out | exact hcv' | go_keep) (fail)
                obtain ⟨K, hK⟩ : ∃ K, K = (lastKey ll).extract 0 n ++ ⟨x.toArray⟩ := ⟨_, rfl⟩
                obtain ⟨w7, hw7⟩ : ∃ w7, w7 = (wc.setCell ⟨bc, 0, none⟩ (.string ((lastKey ll).extract 0 n ++ ⟨x.toArray⟩))).drew := ⟨_, rfl⟩
                have H11 : Hold w ((Blk bc #[.string K, .string V, .bool ((d : Int) == 1), .int .i64 q] 36).sep ((Xd w bx l5 false).sep ((Row 5 1 (.slice ao3 x.length cap3) x.length (u8s x)).sep ((Row 36 4 (.slice ao ll.length cap) ll.length (cls ll)).sep Asrt.emp)))) w7 := by rw [hw7, hK]; exact H10.out.drew
                rw [← hw7]
                rw [← hK] at HF5 hks2
                clear hrun E H10 hcv hcv' f0 kk0 hn1 hn2 k1 hw7 hK
                have m0 := blk_cell H11.blk 0
                have m1 := blk_cell H11.blk 1
                have m2 := blk_cell H11.blk 2
                have m3 := blk_cell H11.blk 3
                have H12 := Lib.hid (H11.keeps (below_one _ (.cells #[.string K, .string V, .bool ((d : Int) == 1), .int .i64 q] 36))).up4
                clear H11
                go_wp2_with (at_builtin; refine wpList_appC H12.out rfl _ _ rfl rfl rfl (sl_builtC w7 [⟨K, V, (d : Int) == 1, q⟩] 36 (by simp [maxLen]) (b := w7.heap.size) rfl) (by simp only [List.length_singleton]; omega) ?_; intro ao8 n8 cap8 w8 N8 H13)
                have HG := Lib.hid H13.up2.drop1.up3.drop1.up2
                clear H12 H13 m0 m1 m2 m3
                go_roundw
                case rel => exact ⟨ll ++ [⟨K, V, (d : Int) == 1, q⟩], l5, HG.out, HF5.out, by rw [List.length_append, List.length_singleton]; omega, by rw [List.length_append, List.length_singleton]; exact hks2.out⟩
                case measure => simp [lenOf, N8.out]; omega
end Go.Proofs.Ytgmnpgohkabfcaa.Bl
