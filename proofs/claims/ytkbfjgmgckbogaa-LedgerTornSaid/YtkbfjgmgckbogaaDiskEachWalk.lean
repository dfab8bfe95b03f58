/-
  each of chapter 3, with Sync's and with Remove's closure. (Written by wip/tools/each_gen.py.)
-/
import Derived.Test.YtkbfjgmgckbogaaF6
namespace Go.Proofs.Ytkbfjgmgckbogaa.Dsk
open Go.RowKit L Oct
def EachRel (W0 : World) (R : Asrt) (b : Nat) (does : ByteArray → List AF → List AF) (d : D) (names : List ByteArray) (i : Value) (wr : World) : Prop :=
  ∃ (k : Nat) (d' : D), k ≤ names.length ∧ i = .int .i64 k ∧ eachF does d' (names.drop k) = eachF does d names ∧ d'.left ≤ 9223372036854775807 ∧ Hold W0 ((DiskA b d').sep R) wr
theorem each_step {does : ByteArray → List AF → List AF} {d : D} {names : List ByteArray} {k : Nat} (hk : k < names.length) :
    (d.may [names.getD k ByteArray.empty] ≠ 0 → eachF does d (names.drop k) = (d, d.may [names.getD k ByteArray.empty])) ∧
    (d.may [names.getD k ByteArray.empty] = 0 → (getF d.fs (names.getD k ByteArray.empty) = none → eachF does d (names.drop k) = (d, 7)) ∧
      (∀ f, getF d.fs (names.getD k ByteArray.empty) = some f → eachF does d (names.drop k) = eachF does { d with fs := does (names.getD k ByteArray.empty) d.fs }.done (names.drop (k + 1)))) := by
  have e : names.getD k ByteArray.empty = names[k] := by simp [List.getD, hk]
  rw [e, List.drop_eq_getElem_cons hk]
  refine ⟨fun h => by rw [eachF, if_neg h], fun h => ⟨fun hn => by rw [eachF, if_pos h, hn], fun f hf => by rw [eachF, if_pos h, hf]⟩⟩
set_option maxRecDepth 100000 in
set_option maxHeartbeats 1600000 in
theorem each_sync {W0 w : World} {R : Asrt} {b : Nat} {d : D} (H : Hold W0 ((DiskA b d).sep (R)) w) (hd : d.left ≤ 9223372036854775807) (v : Value) (names : List ByteArray) (hv : Reads W0 R 1 v names.length (strs names)) :
    Calls Try.prog 53 #[ptr b, v, .func (.func 54) #[] #[]] w fun e w' => e = .returned (.int .i64 (eachF syncF d names).2) ∧ Hold W0 ((DiskA b (eachF syncF d names).1).sep (R)) w' := by
  have hsl := fun (w' : World) (d' : D) (h : Hold W0 ((DiskA b d').sep (R)) w') => hv.at h.drop1
  have hlen := (hsl w d H).run_len Try.underlying50
  have hmx := (hsl w d H).le'
  have HSL := Lib.hid hsl
  have HH := Lib.hid H
  have Hd := Lib.hid hd
  clear H hd hsl hv
  show Calls Try.prog 53 #[.pointer (some ⟨b, 0, none⟩), v, .func (.func 54) #[] #[]] w _
  go_enter Try.func53, Try.ntmps53
  go_wp2
  go_loopw [15] (fun i wr => EachRel W0 (R) b syncF d names i wr) (fun i _ => names.length - (intOf i).toNat)
  case atStart => exact ⟨0, d, Nat.zero_le _, rfl, by simp, Hd.out, HH.out⟩
  case round =>
    obtain ⟨k, d', hk, rfl, heq, hd', hH⟩ := hrel
    have Heq := Lib.hid heq
    have Hd' := Lib.hid hd'
    have HW := Lib.hid hH
    clear heq hd' hH
    by_cases hlt : k < names.length
    · obtain ⟨A, u, hA, hblk, hc, Hu⟩ := (HSL.out wr d' HW.out).at1 (P := Try.prog) Try.underlying50 Try.size9 k hlt
      rw [Hu.out, strs_get names k hlt] at hc
      have hst := Lib.hid (each_step (does := syncF) (d := d') hlt)
      obtain ⟨s, hs⟩ : ∃ s, s = names.getD k ByteArray.empty := ⟨_, rfl⟩
      rw [← hs] at hc hst
      clear hs hblk Hu
      have HA : Hid (Hold W0 ((DiskA b d').sep (R)) (wr.alloc (.cells #[.string s] 9))) := Lib.hid (HW.out.keeps ((Below.refl _ _).alloc (Nat.le_refl _) _))
      by_cases hm : d'.may [s] = 0
      · have HM := Lib.hid hm
        obtain ⟨mb, l, hl, H1⟩ := disk_open HA.out
        have Hl := Lib.hid hl
        have HO : Hid (Hold W0 (OpenA b mb d' l (R)) (wr.alloc (.cells #[.string s] 9))) := Lib.hid H1
        have k1 := blk_cell H1.blk 1
        have hlk0 := run_lookD (disk_mapAt H1) s
        clear hl H1 hm
        cases hx : l.find? (fun x => decide (x.f.name = s)) with
        | none =>
          rw [hx] at hlk0
          have hlk : (Instr.lookup 51 (.map (some mb)) (.string s) false).run Try.prog (wr.alloc (.cells #[.string s] 9)) = .ok (.pointer none) (wr.alloc (.cells #[.string s] 9)) := hlk0
          have hres := Lib.hid ((hst.out.2 HM.out).1 (by rw [← Hl.out, get_map, hx]; rfl))
          clear hx hlk0
          go_wp2_with (go_at_call 36; refine (may_any HA.out _ [s] (sl_built wr [.string s] 9 (by unfold maxLen; simp))).mono ?_; rintro e w2 ⟨rfl, rfl⟩; rw [HM.out])
          go_ret
          rw [← Heq.out, hres.out]
          exact ⟨rfl, HA.out⟩
        | some x =>
          rw [hx] at hlk0
          have hlk : (Instr.lookup 51 (.map (some mb)) (.string s) false).run Try.prog (wr.alloc (.cells #[.string s] 9)) = .ok (.pointer (some ⟨x.blk, 0, none⟩)) (wr.alloc (.cells #[.string s] 9)) := hlk0
          have hres := Lib.hid ((hst.out.2 HM.out).2 x.f (by rw [← Hl.out, get_map, hx]; rfl))
          have Hx := Lib.hid hx
          have hlf := may_left HM.out
          clear hx hlk0
          go_wp2_with (first
            | (go_at_call 36; refine (may_any HA.out _ [s] (sl_built wr [.string s] 9 (by unfold maxLen; simp))).mono ?_; rintro e w2 ⟨rfl, rfl⟩; rw [HM.out])
            | (go_at_call 54; refine (sync_one Hl.out Hx.out HO.out).mono ?_; rintro e w3 ⟨rfl, h3⟩; have H3 := Lib.hid h3; clear h3)
            | (go_at_call 37; refine (done_any (W0 := W0) (R := R) (b := b) (d := { d' with fs := syncF s d'.fs }) H3.out hlf.out Hd'.out).mono ?_; rintro e w4 ⟨rfl, h4⟩; have H4 := Lib.hid h4; clear h4))
          go_roundw
          case rel => exact ⟨k + 1, _, by omega, by go_num, by rw [← Heq.out, hres.out], each_left Hd'.out _, H4.out⟩
          case measure => simp [intOf]; omega
      · have hres := Lib.hid (hst.out.1 hm)
        obtain ⟨m, hmm⟩ : ∃ m : Nat, m = d'.may [s] := ⟨_, rfl⟩
        have hm0 : ((m : Int) == 0) = false := by rw [beq_eq_false_iff_ne]; omega
        rw [← hmm] at hres
        have Hm := Lib.hid hmm
        clear hmm hm
        go_wp2_with (go_at_call 36; refine (may_any HA.out _ [s] (sl_built wr [.string s] 9 (by unfold maxLen; simp))).mono ?_; rintro e w2 ⟨rfl, rfl⟩; rw [← Hm.out])
        go_ret
        rw [← Heq.out, hres.out]
        exact ⟨rfl, HA.out⟩
    · have hend : Hid (eachF syncF d names = (d', 0)) := Lib.hid (by rw [← Heq.out, List.drop_eq_nil_of_le (by omega)]; rfl)
      go_wp2
      go_ret
      rw [hend.out]
      exact ⟨rfl, HW.out⟩
set_option maxRecDepth 100000 in
set_option maxHeartbeats 1600000 in
theorem each_remove {W0 w : World} {R : Asrt} {b bx : Nat} {d : D} (H : Hold W0 ((DiskA b d).sep ((Blk bx #[ptr b] 24).sep R)) w) (hd : d.left ≤ 9223372036854775807) (v : Value) (names : List ByteArray) (hv : Reads W0 R 1 v names.length (strs names)) :
    Calls Try.prog 53 #[ptr b, v, .func (.func 64) #[] #[.pointer (some ⟨bx, 0, none⟩)]] w fun e w' => e = .returned (.int .i64 (eachF removeF d names).2) ∧ Hold W0 ((DiskA b (eachF removeF d names).1).sep ((Blk bx #[ptr b] 24).sep R)) w' := by
  have hsl := fun (w' : World) (d' : D) (h : Hold W0 ((DiskA b d').sep ((Blk bx #[ptr b] 24).sep R)) w') => hv.at h.drop1.drop1
  have hlen := (hsl w d H).run_len Try.underlying50
  have hmx := (hsl w d H).le'
  have HSL := Lib.hid hsl
  have HH := Lib.hid H
  have Hd := Lib.hid hd
  clear H hd hsl hv
  show Calls Try.prog 53 #[.pointer (some ⟨b, 0, none⟩), v, .func (.func 64) #[] #[.pointer (some ⟨bx, 0, none⟩)]] w _
  go_enter Try.func53, Try.ntmps53
  go_wp2
  go_loopw [15] (fun i wr => EachRel W0 ((Blk bx #[ptr b] 24).sep R) b removeF d names i wr) (fun i _ => names.length - (intOf i).toNat)
  case atStart => exact ⟨0, d, Nat.zero_le _, rfl, by simp, Hd.out, HH.out⟩
  case round =>
    obtain ⟨k, d', hk, rfl, heq, hd', hH⟩ := hrel
    have Heq := Lib.hid heq
    have Hd' := Lib.hid hd'
    have HW := Lib.hid hH
    clear heq hd' hH
    by_cases hlt : k < names.length
    · obtain ⟨A, u, hA, hblk, hc, Hu⟩ := (HSL.out wr d' HW.out).at1 (P := Try.prog) Try.underlying50 Try.size9 k hlt
      rw [Hu.out, strs_get names k hlt] at hc
      have hst := Lib.hid (each_step (does := removeF) (d := d') hlt)
      obtain ⟨s, hs⟩ : ∃ s, s = names.getD k ByteArray.empty := ⟨_, rfl⟩
      rw [← hs] at hc hst
      clear hs hblk Hu
      have HA : Hid (Hold W0 ((DiskA b d').sep ((Blk bx #[ptr b] 24).sep R)) (wr.alloc (.cells #[.string s] 9))) := Lib.hid (HW.out.keeps ((Below.refl _ _).alloc (Nat.le_refl _) _))
      by_cases hm : d'.may [s] = 0
      · have HM := Lib.hid hm
        obtain ⟨mb, l, hl, H1⟩ := disk_open HA.out
        have Hl := Lib.hid hl
        have HO : Hid (Hold W0 (OpenA b mb d' l ((Blk bx #[ptr b] 24).sep R)) (wr.alloc (.cells #[.string s] 9))) := Lib.hid H1
        have k1 := blk_cell H1.blk 1
        have hlk0 := run_lookD (disk_mapAt H1) s
        clear hl H1 hm
        cases hx : l.find? (fun x => decide (x.f.name = s)) with
        | none =>
          rw [hx] at hlk0
          have hlk : (Instr.lookup 51 (.map (some mb)) (.string s) false).run Try.prog (wr.alloc (.cells #[.string s] 9)) = .ok (.pointer none) (wr.alloc (.cells #[.string s] 9)) := hlk0
          have hres := Lib.hid ((hst.out.2 HM.out).1 (by rw [← Hl.out, get_map, hx]; rfl))
          clear hx hlk0
          go_wp2_with (go_at_call 36; refine (may_any HA.out _ [s] (sl_built wr [.string s] 9 (by unfold maxLen; simp))).mono ?_; rintro e w2 ⟨rfl, rfl⟩; rw [HM.out])
          go_ret
          rw [← Heq.out, hres.out]
          exact ⟨rfl, HA.out⟩
        | some x =>
          rw [hx] at hlk0
          have hlk : (Instr.lookup 51 (.map (some mb)) (.string s) false).run Try.prog (wr.alloc (.cells #[.string s] 9)) = .ok (.pointer (some ⟨x.blk, 0, none⟩)) (wr.alloc (.cells #[.string s] 9)) := hlk0
          have hres := Lib.hid ((hst.out.2 HM.out).2 x.f (by rw [← Hl.out, get_map, hx]; rfl))
          have Hx := Lib.hid hx
          have hlf := may_left HM.out
          clear hx hlk0
          go_wp2_with (first
            | (go_at_call 36; refine (may_any HA.out _ [s] (sl_built wr [.string s] 9 (by unfold maxLen; simp))).mono ?_; rintro e w2 ⟨rfl, rfl⟩; rw [HM.out])
            | (go_at_call 64; refine (remove_one Hl.out Hx.out HO.out).mono ?_; rintro e w3 ⟨rfl, h3⟩; have H3 := Lib.hid h3; clear h3)
            | (go_at_call 37; refine (done_any (W0 := W0) (R := (Blk bx #[ptr b] 24).sep R) (b := b) (d := { d' with fs := removeF s d'.fs }) H3.out hlf.out Hd'.out).mono ?_; rintro e w4 ⟨rfl, h4⟩; have H4 := Lib.hid h4; clear h4))
          go_roundw
          case rel => exact ⟨k + 1, _, by omega, by go_num, by rw [← Heq.out, hres.out], each_left Hd'.out _, H4.out⟩
          case measure => simp [intOf]; omega
      · have hres := Lib.hid (hst.out.1 hm)
        obtain ⟨m, hmm⟩ : ∃ m : Nat, m = d'.may [s] := ⟨_, rfl⟩
        have hm0 : ((m : Int) == 0) = false := by rw [beq_eq_false_iff_ne]; omega
        rw [← hmm] at hres
        have Hm := Lib.hid hmm
        clear hmm hm
        go_wp2_with (go_at_call 36; refine (may_any HA.out _ [s] (sl_built wr [.string s] 9 (by unfold maxLen; simp))).mono ?_; rintro e w2 ⟨rfl, rfl⟩; rw [← Hm.out])
        go_ret
        rw [← Heq.out, hres.out]
        exact ⟨rfl, HA.out⟩
    · have hend : Hid (eachF removeF d names = (d', 0)) := Lib.hid (by rw [← Heq.out, List.drop_eq_nil_of_le (by omega)]; rfl)
      go_wp2
      go_ret
      rw [hend.out]
      exact ⟨rfl, HW.out⟩
end Go.Proofs.Ytkbfjgmgckbogaa.Dsk
