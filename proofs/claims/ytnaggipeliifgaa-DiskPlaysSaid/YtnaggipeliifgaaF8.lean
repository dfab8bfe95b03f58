/-
  Texts that the proofs of this seat stand on, one behind the other: contracts of functions and plain lemmas. Conditions: those that each theorem states.
-/
import Derived.Test.YtnaggipeliifgaaInvPure
import Derived.Test.YtnaggipeliifgaaRefTrunc
import Derived.Test.YtnaggipeliifgaaDiskTrunc
import Derived.Test.YtnaggipeliifgaaRefLike
import Derived.Test.YtnaggipeliifgaaF5
import Derived.Test.YtnaggipeliifgaaDiskSmall
/-
  Truncate, in both disks of chapter 3, plain.
-/



namespace Go.Proofs.Ytnaggipeliifgaa.Dsk
open Go.RowKit L Oct
section
variable {d : D} {r : RD} {n m : Nat}
theorem like_truncate (h : Like d r) (s : ByteArray) (n : Int) : (d.truncate s n).2 = (r.truncate s n).2 ∧ Like (d.truncate s n).1 (r.truncate s n).1 := by
  have hm := h.may [s]
  have hg := h.get s
  unfold D.truncate RD.truncate
  rw [hm, hg]
  cases ha : isAt r.fs s with
  | false =>
    simp only [Bool.false_eq_true, if_false]
    split
    · exact ⟨rfl, h⟩
    · exact ⟨rfl, h⟩
  | true =>
    simp only [if_true]
    split
    · split
      · exact ⟨rfl, h⟩
      · refine ⟨rfl, (h.fs ?_ ?_).done⟩
        · rw [truncF, ← upd_set h.srt ha fun f => cutAF f n.toNat]
          exact upd_perm h.perm s _
        · exact srt_names h.srt (set_names (isAt_lt ha) rfl)
    · exact ⟨rfl, h⟩
theorem DInv.truncate (h : DInv d n) (s : ByteArray) (k : Int) : DInv (d.truncate s k).1 n := by
  unfold D.truncate
  split
  · split
    · exact h
    · split
      · exact h
      · refine h.put (h.fsOk.upd s _ (fun _ => rfl) (fun f => ?_) fun f hf => ?_)
        · show (f.data.take _).length ≤ _
          rw [List.length_take]; omega
        · show min f.lasts _ ≤ (f.data.take _).length
          rw [List.length_take]; omega
  · exact h
end
end Go.Proofs.Ytnaggipeliifgaa.Dsk

/-
  'stood' of the laws of chapter 3: two disks that are alike have the same files.
-/




namespace Go.Proofs.Ytnaggipeliifgaa.Dsk
open Go.RowKit L Oct
section
variable {W0 w : World} {R : Asrt} {b b2 : Nat} {d : D} {r : RD}
theorem cell_next3 {w w' : World} {p : Addr} {v : Value} (hb : Below w.heap.size w w') (h : w.cell? p = some v) : w'.cell? p = some v := (hb.cell (World.block_lt_of_cell? w _ h)).trans h
def StRel (W0 : World) (R : Asrt) (b b2 : Nat) (d : D) (r : RD) (v1 : Value) (wr : World) : Prop := Hold W0 ((Row 9 1 v1 (nms r.fs).length (strs (nms r.fs))).sep ((DiskA b d).sep ((RefA b2 r).sep R))) wr
theorem nms_get {fs : List AF} {k : Nat} (hk : k < fs.length) : (nms fs).getD k ByteArray.empty = (fs.getD k default).name := by
  simp [nms, List.getD, hk]
theorem read_at {fs : List AF} (h : Srt fs) {k : Nat} (hk : k < fs.length) : isAt fs (fs.getD k default).name = true ∧ fs.getD (spotN fs (fs.getD k default).name) default = fs.getD k default := by
  have hg := srt_get h (fs.getD k default).name
  rw [getF_mem (srt_nd h) (by simp [List.getD, hk])] at hg
  cases ha : isAt fs (fs.getD k default).name with
  | false => rw [ha] at hg; simp at hg
  | true =>
    rw [ha, if_pos rfl] at hg
    exact ⟨rfl, (Option.some.inj hg).symm⟩
set_option maxRecDepth 100000 in
set_option maxHeartbeats 3200000 in
theorem stood_any (H : Hold W0 ((DiskA b d).sep ((RefA b2 r).sep R)) w) (hl : Like d r) (hok : d.Ok) (hn : d.fs.length ≤ 4096) (hs : ∀ f ∈ d.fs, f.name.size ≤ 140737488355328) :
    Calls Try.prog 28 #[ptr b, ptr b2] w fun e w' => e = .returned (.bool true) ∧ Hold W0 ((DiskA b d).sep ((RefA b2 r).sep R)) w' := by
  have hn2 : r.fs.length ≤ 4096 := by rw [← hl.perm.length_eq]; exact hn
  have hud : d.used ≤ 1073741824 := Nat.le_trans hok.used hok.room
  have hur : used r.fs ≤ 1073741824 := by rw [← hl.used]; exact hud
  have hnm := names_like hl
  have hlen1 : d.fs.length = (nms r.fs).length := by rw [nms, List.length_map, hl.perm.length_eq]
  have hue : d.used = used r.fs := hl.used
  have HLk := Lib.hid hl
  have Hs := Lib.hid hs
  have HH := Lib.hid H
  have Hue := Lib.hid hue
  have Hlen1 := Lib.hid hlen1
  have Hnm := Lib.hid hnm
  clear hl hs H hue hlen1 hnm hok
  show Calls Try.prog 28 #[.pointer (some ⟨b, 0, none⟩), .pointer (some ⟨b2, 0, none⟩)] w _
  go_enter Try.func28, Try.ntmps28
  go_wp2_with fail
  refine (xlist_any HH.out.up2 hn2).mono ?_
  rintro e w1 ⟨v1, rfl, ho1, hb1⟩
  have H1 := Lib.hid (HH.out.addRow hb1 ho1)
  clear ho1 hb1 HH
  go_wp2_with fail
  refine (list_any H1.out.up2 hn Hs.out).mono ?_
  rintro e w2 ⟨v2, rfl, h2⟩
  rw [Hnm.out, Hlen1.out] at h2
  have H2 := Lib.hid h2
  clear h2 H1
  go_wp2_with fail
  refine (texts_any v2 v1 (nms r.fs) (nms r.fs) _ H2.out.sl H2.out.up3.sl).mono ?_
  rintro e w3 ⟨rfl, hb3⟩
  have H3 := Lib.hid (H2.out.keeps hb3).drop1
  have ht : decide (nms r.fs = nms r.fs) = true := by simp
  rw [ht]
  clear hb3 H2 ht
  go_wp2_with fail
  refine (used_any H3.out (by omega)).mono ?_
  rintro e w4 ⟨rfl, h4⟩
  have H4 := Lib.hid h4
  clear h4 H3
  go_wp2_with fail
  refine (xused_any H4.out.up3 (by omega)).mono ?_
  rintro e w5 ⟨rfl, rfl⟩
  rw [Hue.out]
  have hq : (((used r.fs : Nat) : Int) != ((used r.fs : Nat) : Int)) = false := by simp
  have H5 : Hid (StRel W0 R b b2 d r v1 w4) := Lib.hid H4.out.up2
  have hlenv := H4.out.up2.sl.run_len Try.underlying38
  clear H4
  go_wp2_with fail
  go_loopw [6] (fun i wr => ∃ k : Nat, i = .int .i64 k ∧ k ≤ (nms r.fs).length ∧ StRel W0 R b b2 d r v1 wr) (fun i _ => (nms r.fs).length - (intOf i).toNat)
  case atStart => exact ⟨0, rfl, Nat.zero_le _, H5.out⟩
  case round =>
    clear H5 hq
    obtain ⟨k, rfl, hk, hR⟩ := hrel
    unfold StRel at hR
    by_cases hlt : k < (nms r.fs).length
    · obtain ⟨A, u, hA, _, c0, Hu⟩ := hR.sl.at1 (P := Try.prog) Try.underlying38 Try.size9 k hlt
      rw [Hu.out, strs_get _ k hlt] at c0
      have hkl : k < r.fs.length := by simpa [nms] using hlt
      rw [nms_get hkl] at c0
      obtain ⟨f, hf⟩ : ∃ f, f = r.fs.getD k default := ⟨_, rfl⟩
      obtain ⟨ha, hg⟩ := read_at HLk.out.srt hkl
      rw [← hf] at ha hg c0
      have hgd : getF d.fs f.name = some f := by rw [HLk.out.get, ha, if_pos rfl, hg]
      have hfl : f.data.length ≤ 1073741824 := by
        have := used_get hkl
        rw [← hf] at this; omega
      have hrd : r.read f.name = some f.data := by rw [RD.read, ha, if_pos rfl, hg]
      obtain ⟨s, hs⟩ : ∃ s, s = f.name := ⟨_, rfl⟩
      rw [← hs] at c0 hgd hrd
      have Hgd := Lib.hid hgd
      have Hrd := Lib.hid hrd
      have HR := Lib.hid hR
      have hcell := fun (w' : World) (hb : Below wr.heap.size wr w') => cell_next3 hb c0
      have Hcell := Lib.hid hcell
      clear hf ha hg hgd hrd hs hR hcell Hu
      go_wp2_with fail
      refine (read_yes HR.out.up2 s Hgd.out (by omega)).mono ?_
      rintro e w6 ⟨v6, rfl, ho6, hb6⟩
      have H6 := Lib.hid (HR.out.addRow hb6 ho6)
      have c6 := Hcell.out w6 hb6
      clear ho6 hb6 HR Hcell c0
      go_wp2_with fail
      refine (xread_any H6.out.up4 (by omega) s).mono ?_
      intro e w7 h7
      rw [Hrd.out] at h7
      rcases h7 with ⟨h7, _⟩ | ⟨x, v7, hx, rfl, ho7, hb7⟩
      · cases h7
      obtain rfl : f.data = x := by simpa using hx
      have H7 := Lib.hid (H6.out.addRow hb7 ho7)
      clear ho7 hb7 H6 c6 hx
      go_wp2_with fail
      refine (same_any v6 v7 f.data f.data _ H7.out.up2.sl H7.out.sl).mono ?_
      rintro e w8 ⟨rfl, hb8⟩
      have H8 : Hid (StRel W0 R b b2 d r v1 w8) := Lib.hid (H7.out.keeps hb8).drop1.drop1
      have ht : decide (f.data = f.data) = true := by simp
      rw [ht]
      clear hb8 H7 ht
      go_wp2
      go_roundw
      case rel => exact ⟨k + 1, by go_num, by omega, H8.out⟩
      case measure => simp [intOf]; omega
    · have HF := Lib.hid hR.drop1
      clear hR
      go_wp2
      go_ret
      exact ⟨rfl, HF.out⟩
end
end Go.Proofs.Ytnaggipeliifgaa.Dsk
