/-
  remove, Remove of the reference's disk (chapter 3).
-/
import Derived.Test.YtkbfjgmgckbogaaGreatRefPut
namespace Go.Proofs.YtkbfjgmgckbogaaGreat.Dsk
open Go.RowKit L Oct
section
variable {W0 w : World} {R : Asrt} {b : Nat} {r : RD} {v : Value} {l : List (AF × Value)}
def rgone (fs : List AF) (s : ByteArray) : List AF := if isAt fs s then fs.take (spotN fs s) ++ fs.drop (spotN fs s + 1) else fs
/-- the reference's disk, where some bytes are kept besides -/
def SubB (l L : List (AF × Value)) : Prop := ∀ p ∈ l, ∃ q ∈ L, p.2 = q.2 ∧ p.1.data = q.1.data
def RefL (b : Nat) (r : RD) (L : List (AF × Value)) : Asrt := ExA fun y : Value × { l : List (AF × Value) // l.map Prod.fst = r.fs ∧ SubB l L } =>
  (Blk b #[.int .i64 r.room, y.1, .int .i64 r.left] 43).sep ((Row 56 3 y.1 y.2.1.length (rcl y.2.1)).sep (InB L))
theorem refL_open {L : List (AF × Value)} (h : Hold W0 ((RefL b r L).sep R) w) : ∃ v l, l.map Prod.fst = r.fs ∧ SubB l L ∧
    Hold W0 ((Blk b #[.int .i64 r.room, v, .int .i64 r.left] 43).sep ((Row 56 3 v l.length (rcl l)).sep ((InB L).sep R))) w := by
  obtain ⟨⟨v, l, hl⟩, h⟩ := h.unex
  exact ⟨v, l, hl.1, hl.2, h.perm (by ac_rfl)⟩
theorem refL_shut {v : Value} {l L : List (AF × Value)} (hl : l.map Prod.fst = r.fs) (hs : SubB l L) (h : Hold W0 ((Blk b #[.int .i64 r.room, v, .int .i64 r.left] 43).sep ((Row 56 3 v l.length (rcl l)).sep ((InB L).sep R))) w) : Hold W0 ((RefL b r L).sep R) w :=
  Hold.toex (f := fun y : Value × { l : List (AF × Value) // l.map Prod.fst = r.fs ∧ SubB l L } => (Blk b #[.int .i64 r.room, y.1, .int .i64 r.left] 43).sep ((Row 56 3 y.1 y.2.1.length (rcl y.2.1)).sep (InB L))) (v, ⟨l, hl, hs⟩) (h.perm (by ac_rfl))
theorem refL_ref {L : List (AF × Value)} (h : Hold W0 ((RefL b r L).sep R) w) : Hold W0 ((RefA b r).sep R) w := by
  obtain ⟨v, l, hl, hs, H⟩ := refL_open h
  exact ref_shut hl ((inB_sub H.up3 hs).perm (by ac_rfl))
theorem ref_refL (h : Hold W0 ((RefA b r).sep R) w) : ∃ L, L.map Prod.fst = r.fs ∧ Hold W0 ((RefL b r L).sep R) w := by
  obtain ⟨v, l, hl, H⟩ := ref_open h
  exact ⟨l, hl, refL_shut hl (fun p hp => ⟨p, hp, rfl, rfl⟩) H⟩
theorem sub_slc {l L : List (AF × Value)} (hs : SubB l L) (h : SlcV L) : SlcV l := fun p hp => by
  obtain ⟨q, hq, e, _⟩ := hs p hp
  rw [e]; exact h q hq
theorem gone_put {ao : Option Addr} {cap k n : Nat} {v0 : Value} {fs1 : List AF} {L : List (AF × Value)} (hs : SubB l L) (hf : fs1 = (l.take k ++ l.drop (k + 1)).map Prod.fst)
    (H : Hold W0 ((Row 56 3 (.slice ao n cap) n (rcl (l.take k ++ l.drop (k + 1)))).sep ((Blk b #[.int .i64 r.room, v0, .int .i64 r.left] 43).sep ((Row 56 3 v0 l.length (rcl l)).sep ((InB L).sep R)))) w) (hn : n = k + (l.length - (k + 1))) (hk : k < l.length) :
    Hold W0 ((RefL b { r with fs := fs1 } L).sep R) (w.setCell ⟨b, 1, none⟩ (.slice ao n cap)) := by
  have h1 := H.up2.setB 1 (.slice ao n cap)
  have h2 := h1.up3.drop1
  refine refL_shut (r := { r with fs := fs1 }) (v := .slice ao n cap) (l := l.take k ++ l.drop (k + 1)) hf.symm (fun p hp => ?_) ?_
  · rcases List.mem_append.1 hp with hp | hp
    · exact hs p (List.mem_of_mem_take hp)
    · exact hs p (List.mem_of_mem_drop hp)
  · rw [show (l.take k ++ l.drop (k + 1)).length = n from by simp; omega]
    exact h2.perm (by ac_rfl)
set_option maxRecDepth 100000 in
set_option maxHeartbeats 3200000 in
theorem xremove_L {L : List (AF × Value)} (H : Hold W0 ((RefL b r L).sep R) w) (hl4 : r.fs.length ≤ 4096) (s : ByteArray) :
    Calls Tryz.prog 65 #[ptr b, .string s] w fun e w' => e = .returned (.tuple #[]) ∧ Hold W0 ((RefL b { r with fs := rgone r.fs s } L).sep R) w' := by
  have HA := Lib.hid H
  have hspot := xspot_any (refL_ref HA.out) s
  cases hi : isAt r.fs s with
  | false =>
    have hres : Hid (rgone r.fs s = r.fs) := Lib.hid (by rw [rgone, hi]; rfl)
    rw [hi] at hspot
    have Hsp := Lib.hid hspot
    clear hspot H hi
    show Calls Tryz.prog 65 #[.pointer (some ⟨b, 0, none⟩), .string s] w _
    go_enter Tryz.func65, Tryz.ntmps65
    go_wp2_with (go_at_call 15; refine Hsp.out.mono ?_; rintro e w3 ⟨rfl, n, rfl⟩)
    go_end0
    rw [hres.out]
    exact ⟨rfl, HA.out.keeps (below_drewN (Below.refl _ _) n)⟩
  | true =>
    obtain ⟨k, hk⟩ : ∃ k, k = spotN r.fs s := ⟨_, rfl⟩
    have hkl := isAt_lt hi
    rw [← hk] at hkl
    obtain ⟨fs1, hfs1⟩ : ∃ fs1, fs1 = rgone r.fs s := ⟨_, rfl⟩
    have hres : Hid (fs1 = r.fs.take k ++ r.fs.drop (k + 1)) := Lib.hid (by rw [hfs1, rgone, hi, if_pos rfl, hk])
    rw [hi, ← hk] at hspot
    have Hsp := Lib.hid hspot
    have Hfs1 := Lib.hid hfs1
    clear hspot H hi hk hfs1
    show Calls Tryz.prog 65 #[.pointer (some ⟨b, 0, none⟩), .string s] w _
    go_enter Tryz.func65, Tryz.ntmps65
    go_wp2_with fail
    refine Hsp.out.mono ?_
    rintro e w3 ⟨rfl, n, rfl⟩
    obtain ⟨w3, hw3⟩ : ∃ w3, w3 = w.drewN n := ⟨_, rfl⟩
    have H3 := HA.out.keeps (below_drewN (Below.refl _ _) n)
    rw [← hw3] at H3 ⊢
    clear hw3
    go_upto_if 12 with fail
    obtain ⟨v0, l, hl, hsub, H1⟩ := refL_open H3.drew
    have hll : l.length = r.fs.length := by rw [← hl]; simp
    have hkl2 : k < l.length := by omega
    have hmx : l.length ≤ 4096 := by omega
    have hf : fs1 = (l.take k ++ l.drop (k + 1)).map Prod.fst := by rw [hres.out, List.map_append, List.map_take, List.map_drop, hl]
    have Hf := Lib.hid hf
    have e1 : w3.drew.cell? ⟨b, 1, none⟩ = some v0 := blk_cell H1.blk 1
    have hE : Own (w3.drew.alloc (.cells #[] 56)) w3.drew.heap.size 56 3 (.slice (some ⟨w3.drew.heap.size, 0, none⟩) 0 0) 0 [] := own_litF w3.drew [] 56 (Nat.zero_le _)
    have H4 := H1.addRow (below_one3 w3.drew (.cells #[] 56)) hE
    have hone := Lib.hid (rcl_one l (sub_slc hsub (inB_slc H4.up4)))
    have Hsub := Lib.hid hsub
    obtain ⟨va, hra, hsa, _⟩ := run_slice_sl (P := Tryz.prog) H4.up3.sl Tryz.underlying41 Tryz.size56 none (some (.int .i64 (k : Int))) 0 k (.inl ⟨rfl, rfl⟩) (.inr ⟨.i64, rfl⟩) (by omega) (by omega)
    rw [Nat.sub_zero, Nat.zero_mul, List.drop_zero, rcl_take l k (by omega)] at hsa
    obtain ⟨vb, hrb, _, _⟩ := run_slice_sl (P := Tryz.prog) H4.up3.sl Tryz.underlying41 Tryz.size56 (some (.int .i64 ((k + 1 : Nat) : Int))) none (k + 1) l.length (.inr ⟨.i64, rfl⟩) (.inl ⟨rfl, rfl⟩) (by omega) (by omega)
    have hwr : IntKind.i64.wrap ((k : Int) + 1) = (k : Int) + 1 := IntWalk.i64_in _ (by omega)
    have e2 : (w3.drew.alloc (.cells #[] 56)).cell? ⟨b, 1, none⟩ = some v0 := blk_cell H4.up2.blk 1
    have e4 : (w3.alloc (.cells #[] 56)).drew.cell? ⟨b, 1, none⟩ = some v0 := e2
    have hvb : ∀ w', Sl w' 3 v0 l.length (rcl l) → Sl w' 3 vb (l.length - (k + 1)) (rcl (l.drop (k + 1))) := fun w' h => by
      obtain ⟨vb', hrb', hsb', _⟩ := run_slice_sl (P := Tryz.prog) h Tryz.underlying41 Tryz.size56 (some (.int .i64 ((k + 1 : Nat) : Int))) none (k + 1) l.length (.inr ⟨.i64, rfl⟩) (.inl ⟨rfl, rfl⟩) (by omega) (by omega)
      have e : vb' = vb := by have := (hrb' w').symm.trans (hrb w'); simpa using this
      rw [e, rcl_drop l (k + 1) (by omega), List.take_of_length_le (by rw [rcl_length, List.length_drop]; omega)] at hsb'
      exact hsb'
    have Hvb := Lib.hid hvb
    have H4' := Lib.hid H4
    have hrb' : ∀ w' : World, (Instr.slice 41 v0 (some (.int .i64 ((k : Int) + 1))) none none).run Tryz.prog w' = .ok vb w' := hrb
    clear H1 hE H4 hl hll hf H3 hvb hrb hsub
    go_wp2_with fail
    go_region_law
      (first
        | (refine step_app elF H4'.out ?_ (.tmp 14) (.tmp 20) ?_ ?_ ?_ hsa (fun u hu => hone.out u (by rw [← List.take_append_drop (k * 3) (rcl l), rcl_take l k (by omega)]; exact List.mem_append_left _ hu)) (by omega) (by omega) ?_; (any_goals rfl); intro v5 ys w5 Y5 H5; rw [Y5.out, List.nil_append, Nat.zero_add] at H5; have e5 : w5.cell? ⟨b, 1, none⟩ = some v0 := blk_cell H5.up2.blk 1; have hsb := Hvb.out w5 H5.up3.sl; have H5' := Lib.hid H5; clear H5)
        | (refine step_app elF H5'.out ?_ (.tmp 21) (.tmp 28) ?_ ?_ ?_ hsb (fun u hu => hone.out u (by rw [← List.take_append_drop ((k + 1) * 3) (rcl l), rcl_drop l (k + 1) (by omega)]; exact List.mem_append_right _ hu)) (by omega) (by omega) ?_; (any_goals rfl); intro v7 ys7 w7 Y7 H7; rw [Y7.out, ← rcl_append] at H7; obtain ⟨ao7, cap7, rfl⟩ := H7.own.shape; have e7 : w7.cell? ⟨b, 1, none⟩ = some v0 := blk_cell H7.up2.blk 1; have f7 := blk_free H7.up2.blk 1; have HF := Lib.hid (gone_put Hsub.out Hf.out H7 rfl hkl2); clear H7)
        | fail)
    all_goals
      go_wp2
      go_end0
      rw [← Hfs1.out]
      exact ⟨rfl, HF.out⟩
theorem xremove_any (H : Hold W0 ((RefA b r).sep R) w) (hl4 : r.fs.length ≤ 4096) (s : ByteArray) :
    Calls Tryz.prog 65 #[ptr b, .string s] w fun e w' => e = .returned (.tuple #[]) ∧ Hold W0 ((RefA b { r with fs := rgone r.fs s }).sep R) w' := by
  obtain ⟨L, _, hL⟩ := ref_refL H
  exact (xremove_L hL hl4 s).mono fun e w' h => ⟨h.1, refL_ref h.2⟩
def RD.remove (r : RD) (s : ByteArray) : RD × Nat :=
  if r.may [s] = 0 then if isAt r.fs s then ({ r with fs := rgone r.fs s }.did, 0) else (r, 7) else (r, r.may [s])
set_option maxHeartbeats 1600000 in
theorem xRemove_any (H : Hold W0 ((RefA b r).sep R) w) (hok : r.Ok) (s : ByteArray) : Calls Tryz.prog 31 #[ptr b, .string s] w (RetX W0 R b (r.remove s)) := by
  have HA := Lib.hid (H.keeps ((Below.refl w.heap.size w).alloc (Nat.le_refl _) (.cells #[.string s] 9)))
  obtain ⟨w1, hw1⟩ : ∃ w1, w1 = w.alloc (.cells #[.string s] 9) := ⟨_, rfl⟩
  have hmay := xmay_any HA.out (.slice (some ⟨w.heap.size, 0, none⟩) 1 1) [s] (sl_built w [.string s] 9 (by unfold maxLen; simp))
  rw [← hw1] at HA hmay
  have hspot := xspot_any HA.out s
  obtain ⟨⟨hl1, hl2⟩, _, hl4⟩ := hok
  by_cases hm : r.may [s] = 0
  · have HM := Lib.hid hm
    cases hi : isAt r.fs s with
    | false =>
      have hres : Hid (r.remove s = (r, 7)) := Lib.hid (by rw [RD.remove, if_pos hm, hi]; rfl)
      rw [hi] at hspot
      have Hsp := Lib.hid hspot
      have Hmy := Lib.hid hmay
      clear hmay hspot hm H hi
      show Calls Tryz.prog 31 #[.pointer (some ⟨b, 0, none⟩), .string s] w _
      go_enter Tryz.func31, Tryz.ntmps31
      go_wp2_with fail
      rw [← hw1]
      refine Hmy.out.mono ?_
      rintro e w2 ⟨rfl, rfl⟩
      rw [HM.out]
      clear hw1
      go_wp2_with (go_at_call 15; refine Hsp.out.mono ?_; rintro e w3 ⟨rfl, n, rfl⟩)
      go_ret
      rw [hres.out]
      exact ⟨rfl, HA.out.keeps (below_drewN (Below.refl _ _) n)⟩
    | true =>
      have hres : Hid (r.remove s = ({ r with fs := rgone r.fs s }.did, 0)) := Lib.hid (by rw [RD.remove, if_pos hm, hi, if_pos rfl])
      rw [hi] at hspot
      have Hsp := Lib.hid hspot
      have Hmy := Lib.hid hmay
      clear hmay hspot hm H hi
      show Calls Tryz.prog 31 #[.pointer (some ⟨b, 0, none⟩), .string s] w _
      go_enter Tryz.func31, Tryz.ntmps31
      go_wp2_with fail
      rw [← hw1]
      refine Hmy.out.mono ?_
      rintro e w2 ⟨rfl, rfl⟩
      rw [HM.out]
      clear hw1
      go_wp2_with fail
      refine Hsp.out.mono ?_
      rintro e w3 ⟨rfl, n, rfl⟩
      obtain ⟨w3, hw3⟩ : ∃ w3, w3 = w1.drewN n := ⟨_, rfl⟩
      have H3 := Lib.hid (HA.out.keeps (below_drewN (Below.refl _ _) n))
      rw [← hw3] at H3 ⊢
      clear hw3
      go_wp2_with fail
      refine (xremove_any H3.out hl4 s).mono ?_
      rintro e w4 ⟨rfl, h4⟩
      have H4 := Lib.hid h4
      clear h4
      go_wp2_with fail
      refine (xdid_any H4.out ⟨hl1, hl2⟩).mono ?_
      rintro e w5 ⟨rfl, h5⟩
      have H5 := Lib.hid h5
      clear h5
      go_wp2
      go_ret
      rw [hres.out]
      exact ⟨rfl, H5.out⟩
  · have HM := Lib.hid hm
    obtain ⟨m, hmm⟩ : ∃ m : Nat, m = r.may [s] := ⟨_, rfl⟩
    have hres : Hid (r.remove s = (r, m)) := Lib.hid (by rw [RD.remove, if_neg hm, hmm])
    have hne : ((m : Int) != 0) = true := by simp; omega
    rw [← hmm] at hmay
    have Hmy := Lib.hid hmay
    clear hmay hspot hm H hmm HM
    show Calls Tryz.prog 31 #[.pointer (some ⟨b, 0, none⟩), .string s] w _
    go_enter Tryz.func31, Tryz.ntmps31
    go_wp2_with fail
    rw [← hw1]
    refine Hmy.out.mono ?_
    rintro e w2 ⟨rfl, rfl⟩
    clear hw1
    go_wp2
    go_ret
    rw [hres.out]
    exact ⟨rfl, HA.out⟩
end
end Go.Proofs.YtkbfjgmgckbogaaGreat.Dsk
