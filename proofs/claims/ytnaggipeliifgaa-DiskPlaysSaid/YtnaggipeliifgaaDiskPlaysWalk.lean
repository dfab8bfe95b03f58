/-
  DiskPlays: of every script each answer and all files, behind each step, crashes and burnt fuses too.
-/
import Derived.Test.YtnaggipeliifgaaF9
import Derived.Test.YtnaggipeliifgaaDiskKnown
import Derived.Test.YtnaggipeliifgaaDCopy
import Derived.Test.YtnaggipeliifgaaRefCopy
namespace Go.Proofs.Ytnaggipeliifgaa.diskPlays
open Go.RowKit L Oct Dsk
def sSp : ByteArray := ⟨#[115, 112, 111, 105, 108, 116]⟩
def PlayRel (W0 : World) (l : List Stp) (s5 s7 s9 : Value) (wr : World) : Prop := ∃ (k b b2 : Nat) (d : D) (r : RD), s5 = .pointer (some ⟨b, 0, none⟩) ∧ s7 = .pointer (some ⟨b2, 0, none⟩) ∧ s9 = .int .i64 k ∧ k ≤ l.length ∧ k ≤ 120 ∧
  Like d r ∧ DInv d k ∧ Hold W0 ((DiskA b d).sep ((RefA b2 r).sep Asrt.emp)) wr
set_option maxRecDepth 1000000 in
set_option maxHeartbeats 3200000 in
theorem walk {w : World} (a0 : Int) (_w0 : (Lit.int .i64 a0).wf = true) (v1 : Value) (l1 : List Stp) (h1 : Sl w 5 v1 l1.length (stps l1)) (_b1 : l1.length ≤ 140737488351232) (i1 : ∀ c ∈ l1, StpIn w c) :
    Calls Try.prog 8 #[.int .i64 a0, v1] w fun e w' => e = .returned (.bool true) ∧ Below w.heap.size w w' := by
  have kc := fun (w : World) (C : Array Value) (n c : Nat) => Lib.run_convert_bytes_const (P := Try.prog) w 23 5 C n c Try.underlying23 Try.underlying5
  have hlen := h1.run_len Try.underlying44
  have HS := Lib.hid h1
  have Hi := Lib.hid i1
  clear h1 i1
  go_enter Try.func8, Try.ntmps8
  go_wp2_with fail
  refine (heavyS_any _ l1 w HS.out Hi.out).mono ?_
  rintro e w1 ⟨bh, rfl, hsz, hb1⟩
  have HB1 := Lib.hid hb1
  have HZ := Lib.hid hsz
  clear hb1 hsz
  cases bh with
  | true =>
    go_wp2_with fail
    refine (known_any _).mono ?_
    rintro e w2 ⟨rfl, hb2⟩
    have HF := Lib.hid (HB1.out.trans (hb2.mono HB1.out.size))
    clear hb2
    go_wp2
    go_ret
    exact ⟨rfl, HF.out⟩
  | false =>
    by_cases hr : a0 < 0 ∨ 1073741824 < a0
    · have Hr := Lib.hid hr
      clear hr
      go_wp2_with fail
      refine (new_no _ a0 Hr.out).mono ?_
      rintro e w2 ⟨rfl, rfl⟩
      go_wp2_with fail
      refine (xnew_no _ a0 Hr.out).mono ?_
      rintro e w2 ⟨rfl, rfl⟩
      go_wp2_with fail
      refine (known_any _).mono ?_
      rintro e w2 ⟨rfl, hb2⟩
      have HF := Lib.hid (HB1.out.trans (hb2.mono HB1.out.size))
      clear hb2
      go_wp2
      go_ret
      exact ⟨rfl, HF.out⟩
    · obtain ⟨rm, hrm⟩ : ∃ rm : Nat, a0 = rm := ⟨a0.toNat, by omega⟩
      subst hrm
      have Hrm : Hid (rm ≤ 1073741824) := Lib.hid (by omega)
      clear hr
      go_wp2_with fail
      refine (new_ok ((Hold.start w).keeps HB1.out) rm Hrm.out).mono ?_
      rintro e w2 ⟨_, rfl, b, rfl, h2⟩
      unfold ptr
      go_wp2_with fail
      refine (xnew_ok h2 rm Hrm.out).mono ?_
      rintro e w3 ⟨_, rfl, b2, rfl, h3⟩
      unfold ptr
      have hP : PlayRel w l1 (.pointer (some ⟨b, 0, none⟩)) (.pointer (some ⟨b2, 0, none⟩)) (.int .i64 0) w3 := by
        refine ⟨0, b, b2, ⟨rm, [], false, 0⟩, ⟨rm, [], -1⟩, rfl, rfl, rfl, Nat.zero_le _, Nat.zero_le _, ⟨rfl, .nil, .nil, rfl⟩, ⟨⟨Hrm.out, Nat.zero_le _, Nat.zero_le _, fun f hf => by cases hf⟩, Nat.le_refl _, (fun f hf => by cases hf), .nil⟩, h3.up2⟩
      have HP := Lib.hid hP
      clear h2 h3 hP HB1
      go_wp2_with fail
      go_loopw [5, 7, 9] (fun s5 s7 s9 wr => PlayRel w l1 s5 s7 s9 wr) (fun _ _ s9 _ => 120 - (intOf s9).toNat)
      case atStart => exact HP.out
      case round =>
        clear HP
        obtain ⟨k, b, b2, d, r, rfl, rfl, rfl, hk, hk2, hl, hi, H⟩ := hrel
        have HL := Lib.hid hl
        have HI := Lib.hid hi
        have HH := Lib.hid H
        clear hl hi H
        by_cases hgo : k < l1.length ∧ k < 120
        · obtain ⟨hlt, h120⟩ := hgo
          have g1 : decide ((k : Int) < 120) = true := by simp; omega
          obtain ⟨A, c, hA, hcells, Hc⟩ := (HS.out.below' HH.out.old).atS k hlt
          have hin := Hi.out c (by rw [Hc.out]; simp [List.getD, hlt])
          have Hin := Lib.hid hin
          have hz : szS c ≤ 8000 := by rw [Hc.out]; exact HZ.out (by first | rfl | trivial) k hlt h120
          have Hz : Hid (c.b.length ≤ 100000000) := Lib.hid (by unfold szS at hz; omega)
          obtain ⟨c0, c1, c2, c3, c4⟩ := hcells
          clear hin hz hk2
          by_cases h8 : c.kind = 8
          · rw [h8] at c0
            clear h8 c1 c2 c3 c4 Hin Hz
            go_wp2_with fail
            refine (copy_any HH.out (fun f hf => (HI.out.fit f hf).2)).mono ?_
            rintro e w4 ⟨_, rfl, b3, fs3, rfl, hp3, h4⟩
            have H4 : Hid (Hold w ((RefA b2 r).sep ((DiskA b3 ⟨d.room, fs3, false, 0⟩).sep ((DiskA b d).sep Asrt.emp))) w4) := Lib.hid (h4.perm (by ac_rfl))
            have HL4 : Hid (Like ⟨d.room, fs3, false, 0⟩ { r with left := -1 }) := Lib.hid ⟨HL.out.room, hp3.trans HL.out.perm, HL.out.srt, rfl⟩
            have HI4 := Lib.hid (HI.out.copy hp3)
            have HIo := Lib.hid (HI.out.append sSp [120])
            have HRl : Hid (r.fs.length ≤ 4096) := Lib.hid (by rw [← HL.out.perm.length_eq]; have := HI.out.len; omega)
            have HRf : Hid (∀ f ∈ r.fs, f.data.length ≤ 1073741824) := Lib.hid fun f hf => (HL.out.fitr HI.out f hf).2
            have HOd := Lib.hid HI.out.ok
            clear h4 hp3 HH HL HI
            unfold ptr
            go_wp2_with fail
            refine (xcopy_any H4.out HRl.out HRf.out).mono ?_
            rintro e w5 ⟨_, rfl, b4, rfl, h5⟩
            have H5 : Hold w ((DiskA b d).sep ((DiskA b3 ⟨d.room, fs3, false, 0⟩).sep ((RefA b4 { r with left := -1 }).sep Asrt.emp))) w5 := h5.perm (by ac_rfl)
            have h6 := (H5.addConst (u8s [120]) 5 1 (by simp [u8s, maxLen]) rfl).up2
            unfold ptr
            clear h5 H4
            go_wp2_with fail
            refine (append_lit h6 (bk := w5.heap.size + 1) (by simp) HOd.out sSp (.slice (some ⟨w5.heap.size, 0, none⟩) 1 1) [120] Reads.ro (by decide)).mono ?_
            rintro e w6 ⟨rfl, h7⟩
            have H7 := Lib.hid h7
            clear H5 h6 h7
            go_wp2_with fail
            refine (crash_any H7.out 0 (by decide) (fun f hf => by have := HIo.out.fit f hf; omega)).mono ?_
            rintro e w7 ⟨rfl, h8⟩
            have HF := Lib.hid h8.drop1.drop1
            clear H7 h8
            go_wp2
            go_roundw
            case rel => exact ⟨k + 1, b3, b4, _, _, rfl, rfl, by go_num, by omega, by omega, HL4.out, HI4.out.le (by omega), HF.out⟩
            case measure => simp [intOf]; omega
          · have g8 : (c.kind == 8) = false := by rw [beq_eq_false_iff_ne]; exact h8
            clear h8
            go_wp2_with fail
            refine (does_any HH.out HL.out HI.out (by omega) c Hin.out Hz.out).mono ?_
            rintro e w4 ⟨rfl, d', r', hl', hi', h4⟩
            have HL' := Lib.hid hl'
            have HI' := Lib.hid hi'
            have H4 := Lib.hid h4
            clear HH HL HI hl' hi' h4 g8 c0 c1 c2 c3 c4
            go_wp2_with fail
            refine (stood_any H4.out HL'.out HI'.out.ok (Nat.le_trans HI'.out.len (by omega)) (fun f hf => Nat.le_trans (HI'.out.names f hf) (by omega))).mono ?_
            rintro e w5 ⟨rfl, h5⟩
            have H5 := Lib.hid h5
            clear h5 H4
            go_wp2
            go_roundw
            case rel => exact ⟨k + 1, b, b2, _, _, rfl, rfl, by go_num, by omega, by omega, HL'.out, HI'.out, H5.out⟩
            case measure => simp [intOf]; omega
        · have HO := Lib.hid HH.out.old
          clear HH HL HI
          by_cases hlt : k < l1.length
          · have g1 : decide ((k : Int) < 120) = false := by simp; omega
            clear hgo hk2
            go_wp2_with fail
            refine (known_any _).mono ?_
            rintro e w4 ⟨rfl, hb4⟩
            have HF := Lib.hid (HO.out.trans (hb4.mono HO.out.size))
            clear hb4
            go_wp2
            go_ret
            exact ⟨rfl, HF.out⟩
          · clear hgo hk2
            go_wp2_with fail
            refine (known_any _).mono ?_
            rintro e w4 ⟨rfl, hb4⟩
            have HF := Lib.hid (HO.out.trans (hb4.mono HO.out.size))
            clear hb4
            go_wp2
            go_ret
            exact ⟨rfl, HF.out⟩
end Go.Proofs.Ytnaggipeliifgaa.diskPlays
