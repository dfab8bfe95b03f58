/-
  Decode of chapter 7: what it answers.
-/
import Derived.Test.YtgmnpgohkabfcaaBlockCell
import Derived.Test.YtgmnpgohkabfcaaCellSl
import Derived.Test.YtgmnpgohkabfcaaEqual
namespace Go.Proofs.Ytgmnpgohkabfcaa.Bl
open Go.RowKit L Oct
/-- what Decode hands back: the cells of which these are the bytes; or, if there are none such, an error -/
def RetDec (w : World) (b : List UInt8) (e : Ending) (w' : World) : Prop :=
  Below w.heap.size w w' ∧ ((∃ l v, DecOk b l ∧ e = .returned (.tuple #[v, .int .i64 0]) ∧ Own w' w.heap.size 36 4 v l.length (cls l)) ∨ ((∀ l, ¬ DecOk b l) ∧ e = .returned (.tuple #[.slice none 0 0, .int .i64 3])))
def DecRel (w : World) (b : List UInt8) (br : Nat) (y : Value) (wr : World) : Prop :=
  ∃ ll rest bad, Hold w ((Rd br rest bad).sep ((Row 36 4 y ll.length (cls ll)).sep Asrt.emp)) wr ∧ Follow b ll rest bad ∧ ll.length + rest.length ≤ b.length ∧ (∀ c ∈ ll, c.key.size ≤ 4096)
theorem lastKey_le {ll : List Cl} {m : Nat} (h : ∀ c ∈ ll, c.key.size ≤ m) : (lastKey ll).size ≤ m := by
  unfold lastKey
  split
  · simp
  · rename_i hne
    have hp := List.length_pos_iff.2 hne
    refine h _ ?_
    rw [getD_get (by omega)]
    exact List.getElem_mem _
set_option maxRecDepth 100000 in
set_option maxHeartbeats 1600000 in
theorem decode_any (v : Value) (b : List UInt8) (w : World) (h : Sl w 1 v b.length (u8s b)) (hn : b.length ≤ 100000) : Calls Try.prog 14 #[v] w (RetDec w b) := by
  go_enter Try.func14, Try.ntmps14
  go_wp2_with fail
  refine (newReader_any (Hold.start w) v b h (by omega)).mono ?_
  rintro e w1 ⟨p, rfl, br, rfl, H1⟩
  have H0 := (H1.addNil 36 4).up2
  clear H1
  go_wp2
  go_loopw [5] (fun y wr => DecRel w b br y wr) (fun y _ => b.length - lenOf y)
  case atStart => exact ⟨[], b, false, H0, follow_start b, by simp, by simp⟩
  case round =>
    clear H0
    obtain ⟨ll, rest, bad, H, HF, hle, hks⟩ := hrel
    obtain ⟨ao, cap, rfl⟩ := H.up2.own.shape
    have hlen := H.up2.sl.run_len Try.underlying22
    go_wp2_with fail
    refine (left_any H).mono ?_
    rintro e w2 ⟨rfl, rfl⟩
    by_cases hne : rest = []
    · subst hne
      have Hsl := H.up2.sl
      have hll : ll.length ≤ 100000 := by simp at hle; omega
      go_wp2_with fail
      refine (encode_any _ ll _ Hsl hll).mono ?_
      rintro e w3 ⟨v3, rfl, ho3, hb3⟩
      have H3 := H.keeps hb3
      have s3 := ho3.sl
      have h11 := riseN_small ll
      clear ho3 hb3 Hsl H
      go_wp2_with fail
      refine (whole_any H3).mono ?_
      rintro e w4 ⟨rfl, rfl⟩
      have hs := h.below' H3.old
      have HH := Lib.hid H3.old
      have Ho := Lib.hid H3.drop1.fin.1
      clear H3
      cases bad with
      | true =>
        have hno : Hid (∀ l, ¬ DecOk b l) := Lib.hid fun l0 h0 => by cases (follow_end HF h0).2
        clear HF
        go_wp2
        go_ret2
        exact ⟨HH.out, .inr ⟨hno.out, rfl⟩⟩
      | false =>
        by_cases hr : riseN ll = 0
        · have hz : ((riseN ll : Int) != 0) = false := by simp [hr]
          have hR : Hid (encR ll = encL ll) := Lib.hid (by rw [encR, if_pos hr])
          have Hr := Lib.hid hr
          clear hr
          go_wp2_with fail
          refine (equal_any v3 v (encR ll) b _ s3 hs).mono ?_
          rintro e w4 ⟨rfl, rfl⟩
          by_cases he : encR ll = b
          · have hd : decide (encR ll = b) = true := by simpa using he
            have hok : Hid (DecOk b ll) := Lib.hid ⟨Hr.out, by rw [← hR.out]; exact he⟩
            clear he HF
            go_wp2
            go_ret2
            exact ⟨HH.out, .inl ⟨ll, _, hok.out, rfl, Ho.out⟩⟩
          · have hd : decide (encR ll = b) = false := by simpa using he
            have hno : Hid (∀ l, ¬ DecOk b l) := Lib.hid fun l0 h0 => he (by
              obtain ⟨rfl, _⟩ := follow_end HF h0
              rw [hR.out]; exact h0.2)
            clear he HF
            go_wp2
            go_ret2
            exact ⟨HH.out, .inr ⟨hno.out, rfl⟩⟩
        · have hz : ((riseN ll : Int) != 0) = true := by simp [hr]
          have hno : Hid (∀ l, ¬ DecOk b l) := Lib.hid fun l0 h0 => by
            obtain ⟨rfl, _⟩ := follow_end HF h0
            exact hr h0.1
          clear HF hr
          go_wp2
          go_ret2
          exact ⟨HH.out, .inr ⟨hno.out, rfl⟩⟩
    · have hpos : 0 < rest.length := List.length_pos_iff.2 hne
      have hlk := lastKey_le hks
      go_upto_if 17 with fail
      go_cut [6] (fun s6 wc => s6 = .string (lastKey ll) ∧ wc = wr)
      case first =>
        by_cases hl0 : ll = []
        · subst hl0
          have hlk : Hid (lastKey [] = ⟨#[]⟩) := Lib.hid rfl
          go_wp2
          go_meet
          exact ⟨by rw [hlk.out], rfl⟩
        · have hlp : 0 < ll.length := List.length_pos_iff.2 hl0
          obtain ⟨A, c, hA, _, hcells, Hc⟩ := H.up2.sl.atCl (P := Try.prog) Try.underlying22 Try.size36 (ll.length - 1) ((ll.length : Int) - 1) (by omega) (by omega)
          have hlk : Hid (lastKey ll = c.key) := Lib.hid (by rw [lastKey, if_neg hl0, Hc.out])
          have c0 := hcells.key
          clear hl0
          go_wp2
          go_meet
          exact ⟨by rw [hlk.out], rfl⟩
      case rest =>
        obtain ⟨rfl, rfl⟩ := hcut
        have hlt := cellD_lt (lastKey ll) rest bad hne
        have HF2 := follow_step HF hne
        have Hne := Lib.hid hne
        clear hne HF
        go_wp2_with fail
        refine (cell_any H (lastKey ll) (by omega) (by omega)).mono ?_
        rintro e w3 ⟨rfl, H3⟩
        obtain ⟨c, hc⟩ : ∃ c, c = (cellD (lastKey ll) rest bad).1 := ⟨_, rfl⟩
        obtain ⟨r', hr'⟩ : ∃ r', r' = (cellD (lastKey ll) rest bad).2.1 := ⟨_, rfl⟩
        obtain ⟨b', hb'⟩ : ∃ b', b' = (cellD (lastKey ll) rest bad).2.2 := ⟨_, rfl⟩
        rw [← hr', ← hb'] at H3
        rw [← hc, ← hr', ← hb'] at HF2
        rw [← hr'] at hlt
        rw [← hc]
        clear hc hr' hb' H
        rw [Cl.agg]
        have H4 := H3.addBlk (cs := #[.string c.key, .string c.val, .bool c.del, .int .i64 c.seq]) (t := 36) (b := w3.heap.size) rfl
        have HF3 := Lib.hid HF2
        by_cases hbig : 4096 < c.key.size
        · have hg : decide ((4096 : Int) < (c.key.size : Int)) = true := by simp; omega
          have HH := Lib.hid H4.old
          have hno : Hid (∀ l, ¬ DecOk b l) := Lib.hid fun l0 h0 => by
            have := isC_key (follow_key HF3.out h0).1
            omega
          clear HF2 H3 H4
          go_wp2
          go_ret2
          exact ⟨HH.out, .inr ⟨hno.out, rfl⟩⟩
        · have hg : decide ((4096 : Int) < (c.key.size : Int)) = false := by simp; omega
          have H5 := Lib.hid H4
          clear HF2 H3 H4
          have H6 := Lib.hid (H5.out.keeps (below_one _ (.cells #[.string c.key, .string c.val, .bool c.del, .int .i64 c.seq] 36))).up3
          clear H5
          go_wp2_with (at_builtin; refine wpList_appC H6.out rfl _ _ rfl rfl rfl (sl_builtC (w3.alloc (.cells #[.string c.key, .string c.val, .bool c.del, .int .i64 c.seq] 36)) [c] 36 (by simp [maxLen]) (b := w3.heap.size + 1) (by simp)) (by simp only [List.length_singleton]; omega) ?_; intro ao7 n7 cap7 w7 N7 H7)
          have HG := Lib.hid H7.up2.drop1.up2
          have hks2 : Hid (∀ x ∈ ll ++ [c], x.key.size ≤ 4096) := Lib.hid fun x hx => by
            rcases List.mem_append.1 hx with hx | hx
            · exact hks x hx
            · obtain rfl := List.mem_singleton.1 hx
              omega
          clear H6 H7
          go_roundw
          case rel => exact ⟨ll ++ [c], r', b', HG.out, HF3.out, by rw [List.length_append, List.length_singleton]; omega, hks2.out⟩
          case measure => simp [lenOf, N7.out]; omega
end Go.Proofs.Ytgmnpgohkabfcaa.Bl
