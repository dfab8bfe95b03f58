/-
  Copy of the reference's disk (chapter 3).
-/
import Derived.Test.YtnaggipeliifgaaF6
namespace Go.Proofs.Ytnaggipeliifgaa.Dsk
open Go.RowKit L Oct
section
variable {W0 w : World} {R : Asrt} {b : Nat} {r : RD} {v : Value} {l : List (AF × Value)}
/-- one file more, behind -/
theorem copy_put {ao : Option Addr} {cap n b2 : Nat} {r2 : RD} {v2 v7 : Value} {l2 : List (AF × Value)} {f : AF} {m : Nat} (hl2 : l2.map Prod.fst = r2.fs)
    (H : Hold W0 ((Row 77 3 (.slice ao n cap) n (rcl (l2 ++ [(f, v7)]))).sep ((Blk b2 #[.int .i64 r2.room, v2, .int .i64 r2.left] 75).sep ((InB l2).sep ((Row 5 1 v7 m (u8s f.data)).sep R)))) w) (hn : n = l2.length + 1) (hm : m = f.data.length) :
    Hold W0 ((RefA b2 { r2 with fs := r2.fs ++ [f] }).sep R) (w.setCell ⟨b2, 1, none⟩ (.slice ao n cap)) := by
  have h1 := H.up2.setB 1 (.slice ao n cap)
  have h2 : Hold W0 ((Row 5 1 v7 m (u8s f.data)).sep ((InB l2).sep ((Row 77 3 (.slice ao n cap) n (rcl (l2 ++ [(f, v7)]))).sep ((Blk b2 #[.int .i64 r2.room, .slice ao n cap, .int .i64 r2.left] 75).sep R)))) _ := h1.perm (by ac_rfl)
  have h3 := inB_sub (m := l2 ++ [(f, v7)]) (inB_join h2 hm) fun p hp => ⟨p, by
    rcases List.mem_append.1 hp with hp | hp
    · exact List.mem_cons_of_mem _ hp
    · obtain rfl := List.mem_singleton.1 hp
      exact List.mem_cons_self .., rfl, rfl⟩
  refine ref_shut (r := { r2 with fs := r2.fs ++ [f] }) (v := .slice ao n cap) (l := l2 ++ [(f, v7)]) (by rw [List.map_append, hl2]; rfl) ?_
  rw [show (l2 ++ [(f, v7)]).length = n from by simp; omega]
  exact h3.perm (by ac_rfl)
def OldA (b : Nat) (r : RD) (v : Value) (l : List (AF × Value)) : Asrt := (Blk b #[.int .i64 r.room, v, .int .i64 r.left] 75).sep ((Row 77 3 v l.length (rcl l)).sep (InB l))
def XYRel (W0 : World) (R : Asrt) (b b2 : Nat) (r : RD) (v : Value) (l : List (AF × Value)) (i : Nat) (wr : World) : Prop := Hold W0 ((RefA b2 ⟨r.room, r.fs.take i, -1⟩).sep ((OldA b r v l).sep R)) wr
theorem old_open {A : Asrt} (h : Hold W0 (A.sep ((OldA b r v l).sep R)) w) : Hold W0 ((Blk b #[.int .i64 r.room, v, .int .i64 r.left] 75).sep ((Row 77 3 v l.length (rcl l)).sep ((InB l).sep (A.sep R)))) w := h.perm (by unfold OldA; ac_rfl)
set_option maxRecDepth 100000 in
set_option maxHeartbeats 3200000 in
theorem xcopy_any (H : Hold W0 ((RefA b r).sep R) w) (hl4 : r.fs.length ≤ 4096) (hla : ∀ f ∈ r.fs, f.data.length ≤ 1073741824) :
    Calls Try.prog 26 #[ptr b] w (RetV fun v' w' => ∃ b2, v' = ptr b2 ∧ Hold W0 ((RefA b2 { r with left := -1 }).sep R) w') := by
  obtain ⟨v, l, hl, H1⟩ := ref_open H
  have k0 := blk_cell H1.blk 0
  have hll : l.length = r.fs.length := by rw [← hl]; simp
  have H2 : Hold W0 ((OldA b r v l).sep R) w := H1.perm (by unfold OldA; ac_rfl)
  have H3 := ((inB_nil H2).addNil 77 3).addBlk (cs := #[.int .i64 r.room, .slice none 0 0, .int .i64 (-1)]) (t := 75) (b := w.heap.size) rfl
  have H4 := Lib.hid (ref_shut (r := ⟨r.room, [], -1⟩) (l := []) rfl H3)
  have HL := Lib.hid hl
  have Hla := Lib.hid hla
  have HLL := Lib.hid hll
  have hmx : l.length ≤ 4096 := by omega
  clear H H1 H2 H3 hl hla hll
  show Calls Try.prog 26 #[.pointer (some ⟨b, 0, none⟩)] w _
  go_enter Try.func26, Try.ntmps26
  go_upto_region 2 with fail
  obtain ⟨b2, hb2⟩ : ∃ b2, b2 = w.heap.size := ⟨_, rfl⟩
  obtain ⟨w1, hw1⟩ : ∃ w1, w1 = w.alloc (.cells #[.int .i64 r.room, .slice none 0 0, .int .i64 (-1)] 75) := ⟨_, rfl⟩
  rw [← hb2, ← hw1] at H4
  rw [← hb2, ← hw1]
  clear hb2 hw1 k0
  go_wp2_with fail
  go_loopw [4] (fun i wr => ∃ j : Nat, i = .int .i64 j ∧ j ≤ l.length ∧ XYRel W0 R b b2 r v l j wr) (fun i _ => l.length - (intOf i).toNat)
  case atStart => exact ⟨0, rfl, Nat.zero_le _, H4.out⟩
  case round =>
    clear H4
    obtain ⟨i, rfl, hi, hR⟩ := hrel
    unfold XYRel at hR
    have HO := old_open hR
    have k1 := blk_cell HO.blk 1
    have hlen := HO.up2.sl.run_len Try.underlying73
    by_cases hlt : i < l.length
    · obtain ⟨g, p, hA, ⟨c0, c1, c2⟩, _, _, _, Hp⟩ := file_at HO.up2 i hlt
      have hpl : p ∈ l := by rw [Hp.out]; simp [List.getD, hlt]
      have hpf : p.1 = r.fs.getD i default := by rw [Hp.out]; exact fst_get HL.out i hlt
      have hN := Hla.out p.1 (by rw [hpf]; have : i < r.fs.length := by rw [← HLL.out]; exact hlt
                                 simp [List.getD, this])
      have hshape : ∃ ao n cap, p.2 = .slice ao n cap := by
        obtain ⟨_, ao, cap, e2, _⟩ := HO.up3.inB p hpl
        exact ⟨ao, _, cap, e2⟩
      obtain ⟨pa, pn, pc, hpv⟩ := hshape
      rw [hpv] at c1
      have Hpv := Lib.hid hpv
      have Hpl := Lib.hid hpl
      have Hpf := Lib.hid hpf
      have H5 := Lib.hid (hR.addBlk (cs := #[.string p.1.name, .slice pa pn pc, .int .i64 p.1.lasts]) (t := 77) (b := wr.heap.size) rfl)
      clear HO hpl hpf hpv hR
      go_upto_region 6 with fail
      obtain ⟨b5, hb5⟩ : ∃ b5, b5 = wr.heap.size := ⟨_, rfl⟩
      obtain ⟨w5, hw5⟩ : ∃ w5, w5 = wr.alloc (.cells #[.string p.1.name, .slice pa pn pc, .int .i64 p.1.lasts] 77) := ⟨_, rfl⟩
      rw [← hb5, ← hw5] at H5
      rw [← hb5, ← hw5]
      clear hb5 hw5 c0 c1 c2 k1 hA hlen
      have H6 := H5.out.addEmpty 5
      have kb1 := blk_cell H6.up2.blk 1
      have H6o : Hold W0 ((Blk b #[.int .i64 r.room, v, .int .i64 r.left] 75).sep ((Row 77 3 v l.length (rcl l)).sep ((InB l).sep _))) _ := H6.up4.perm (by unfold OldA; rw [sep_assoc, sep_assoc])
      have sA := H6o.up3.inB p Hpl.out
      rw [Hpv.out] at sA
      have H6' := Lib.hid H6
      clear H6 H6o
      go_wp2_with (first
        | (at_builtin; refine wpList_app (sx := .tmp 28) el8 H6'.out rfl _ rfl rfl rfl sA (u8s_one _) (by omega) (by omega) ?_; intro v7 ys7 w7 Y7 H7; rw [Y7.out, List.nil_append, Nat.zero_add] at H7; obtain ⟨ao7, cap7, rfl⟩ := H7.own.shape; have k7 := blk_cell H7.up2.blk 1; have f7 := blk_free H7.up2.blk 1; have H8 := Lib.hid (H7.up2.setB 1 (.slice ao7 p.1.data.length cap7)); clear H7 H6' sA kb1)
        | fail)
      obtain ⟨w8, hw8⟩ : ∃ w8, w8 = w7.setCell ⟨b5, 1, none⟩ (.slice ao7 p.1.data.length cap7) := ⟨_, rfl⟩
      rw [← hw8] at H8 ⊢
      clear hw8 k7 f7
      have H8' : Hold W0 ((Blk b5 #[.string p.1.name, .slice ao7 p.1.data.length cap7, .int .i64 p.1.lasts] 77).sep ((Row 5 1 (.slice ao7 p.1.data.length cap7) p.1.data.length (u8s p.1.data)).sep ((RefA b2 ⟨r.room, r.fs.take i, -1⟩).sep ((OldA b r v l).sep R)))) w8 := H8.out
      obtain ⟨v2, l2, hl2, H9⟩ := ref_open H8'.up3.drew
      have hl2 : l2.map Prod.fst = r.fs.take i := hl2
      have hl2n : l2.length = i := by
        have : (l2.map Prod.fst).length = i := by rw [hl2, List.length_take, ← HLL.out]; omega
        simpa using this
      have hl2le : l2.length ≤ 4096 := by omega
      clear hl2n
      have e1 : w8.drew.cell? ⟨b2, 1, none⟩ = some v2 := blk_cell H9.blk 1
      have e50 : w8.drew.cell? ⟨b5, 0, none⟩ = some (.string p.1.name) := blk_cell H9.up4.blk 0
      have e51 : w8.drew.cell? ⟨b5, 1, none⟩ = some (.slice ao7 p.1.data.length cap7) := blk_cell H9.up4.blk 1
      have e52 : w8.drew.cell? ⟨b5, 2, none⟩ = some (.int .i64 p.1.lasts) := blk_cell H9.up4.blk 2
      have H10 := H9.up2.keeps (below_one3 w8.drew (.cells #[.string p.1.name, .slice ao7 p.1.data.length cap7, .int .i64 p.1.lasts] 77))
      have g1 : (w8.alloc (.cells #[.string p.1.name, .slice ao7 p.1.data.length cap7, .int .i64 p.1.lasts] 77)).drew.cell? ⟨b2, 1, none⟩ = some v2 := blk_cell H10.up2.blk 1
      have hsl : Sl (w8.drew.alloc (.cells #[.string p.1.name, .slice ao7 p.1.data.length cap7, .int .i64 p.1.lasts] 77)) 3 (.slice (some ⟨w8.drew.heap.size, 0, none⟩) 1 1) 1 (rcl [(p.1, .slice ao7 p.1.data.length cap7)]) := (own_litF w8.drew [(p.1, .slice ao7 p.1.data.length cap7)] 77 (by simp [maxLen])).sl
      have hone : ∀ u ∈ rcl [(p.1, Value.slice ao7 p.1.data.length cap7)], u.oneCell' = true := rcl_one _ fun z hz => by
        obtain rfl := List.mem_singleton.1 hz
        rfl
      have Hone := Lib.hid hone
      have Hsl := Lib.hid hsl
      have HL2 := Lib.hid hl2
      have H10' := Lib.hid H10
      have Htk : Hid (r.fs.take i ++ [p.1] = r.fs.take (i + 1)) := Lib.hid (by
        have : i < r.fs.length := by rw [← HLL.out]; exact hlt
        rw [List.take_succ_eq_append_getElem this, Hpf.out]
        simp [List.getD, this])
      clear H8 H8' H9 H10 hsl hl2 hone
      go_region_law
        (first
          | (refine step_app elF H10'.out ?_ (.tmp 37) (.tmp 39) ?_ ?_ ?_ Hsl.out Hone.out (by omega) (by omega) ?_; (any_goals rfl); intro v9 ys9 w9 Y9 H11; rw [Y9.out, ← rcl_append] at H11; obtain ⟨ao9, cap9, rfl⟩ := H11.own.shape; have d9 : w9.cell? ⟨b2, 1, none⟩ = some v2 := blk_cell H11.up2.blk 1; have f9 := blk_free H11.up2.blk 1; have HF := Lib.hid (copy_put (ao := ao9) (cap := cap9) (n := l2.length + 1) (b2 := b2) (v2 := v2) (v7 := .slice ao7 p.1.data.length cap7) (m := p.1.data.length) (r2 := ⟨r.room, r.fs.take i, -1⟩) (f := p.1) (R := (Blk b5 #[.string p.1.name, .slice ao7 p.1.data.length cap7, .int .i64 p.1.lasts] 77).sep ((OldA b r v l).sep R)) HL2.out (H11.perm (by ac_rfl)) rfl rfl); clear H11 H10')
          | fail)
      all_goals
        have HC : Hid (XYRel W0 R b b2 r v l (i + 1) (w9.setCell ⟨b2, 1, none⟩ (.slice ao9 (l2.length + 1) cap9))) := Lib.hid (by
          unfold XYRel
          rw [← Htk.out]
          exact HF.out.up2.drop1)
        clear HF
        go_wp2
        go_roundw
        case rel => exact ⟨i + 1, by go_num, by omega, HC.out⟩
        case measure => simp [intOf]; omega
    · obtain rfl : i = l.length := by omega
      rw [HLL.out, List.take_length] at hR
      have HF := Lib.hid (hR.up2.drop1)
      clear HO hR
      go_wp2
      go_ret
      exact ⟨_, rfl, b2, rfl, HF.out⟩
end
end Go.Proofs.Ytnaggipeliifgaa.Dsk
