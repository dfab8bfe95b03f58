/-
  Truncate and Rename of chapter 3.
-/
import Derived.Test.YtkbfjgmgckbogaaDiskAppend
import Derived.Test.YtkbfjgmgckbogaaF2
namespace Go.Proofs.Ytkbfjgmgckbogaa.Dsk
open Go.RowKit L Oct
def truncF (s : ByteArray) (n : Nat) (fs : List AF) : List AF := updF fs s fun f => { f with data := f.data.take n, lasts := min f.lasts n }
def D.truncate (d : D) (s : ByteArray) (n : Int) : D × Nat :=
  if d.may [s] = 0 then match getF d.fs s with
    | none => (d, 7)
    | some f => if n < 0 ∨ (f.data.length : Int) < n then (d, 1) else ({ d with fs := truncF s n.toNat d.fs }.done, 0)
  else (d, d.may [s])
theorem tr_u8s (l : List UInt8) (n : Nat) : (u8s l).take n = u8s (l.take n) := by simp [u8s]
theorem tr_left {d : D} (h : d.left ≤ 9223372036854775807) (fs : List AF) : ({ d with fs := fs } : D).left ≤ 9223372036854775807 := h
set_option maxRecDepth 100000 in
set_option maxHeartbeats 1600000 in
theorem truncate_any {W0 w : World} {R : Asrt} {b : Nat} {d : D} (H : Hold W0 ((DiskA b d).sep R) w) (hd : d.left ≤ 9223372036854775807) (hlen : ∀ f ∈ d.fs, f.data.length ≤ 4611686018427387904 ∧ f.lasts ≤ 4611686018427387904) (s : ByteArray) (n : Int) :
    Calls Try.prog 20 #[ptr b, .string s, .int .i64 n] w (RetApp W0 R b (d.truncate s n)) := by
  have HA : Hid (Hold W0 ((DiskA b d).sep R) (w.alloc (.cells #[.string s] 9))) := Lib.hid (H.keeps ((Below.refl _ _).alloc (Nat.le_refl _) _))
  have Hd := Lib.hid hd
  have Hln := Lib.hid hlen
  clear H hd hlen
  by_cases hm : d.may [s] = 0
  · have HM := Lib.hid hm
    have hlf := may_left hm
    obtain ⟨mb, l, hl, H1⟩ := disk_open HA.out
    have Hl := Lib.hid hl
    have HO := Lib.hid H1
    have k1 := blk_cell H1.blk 1
    have hlk0 := run_lookD (disk_mapAt H1) s
    have hnn := H1.up2.map.nodup
    rw [ents_names] at hnn
    clear hl H1 hm
    cases hx : l.find? (fun x => decide (x.f.name = s)) with
    | none =>
      rw [hx] at hlk0
      have hlk : (Instr.lookup 51 (.map (some mb)) (.string s) false).run Try.prog (w.alloc (.cells #[.string s] 9)) = .ok (.pointer none) (w.alloc (.cells #[.string s] 9)) := hlk0
      have hres : Hid (d.truncate s n = (d, 7)) := Lib.hid (by rw [D.truncate, if_pos HM.out, ← Hl.out, get_map, hx]; rfl)
      clear hx hlk0 hnn
      show Calls Try.prog 20 #[.pointer (some ⟨b, 0, none⟩), .string s, .int .i64 n] w _
      go_enter Try.func20, Try.ntmps20
      go_wp2_with (go_at_call 36; refine (may_any HA.out _ [s] (sl_built w [.string s] 9 (by unfold maxLen; simp))).mono ?_; rintro e w2 ⟨rfl, rfl⟩; rw [HM.out])
      go_ret
      rw [hres.out]
      exact ⟨rfl, HA.out⟩
    | some x =>
      rw [hx] at hlk0
      have hlk : (Instr.lookup 51 (.map (some mb)) (.string s) false).run Try.prog (w.alloc (.cells #[.string s] 9)) = .ok (.pointer (some ⟨x.blk, 0, none⟩)) (w.alloc (.cells #[.string s] 9)) := hlk0
      have hgs : getF d.fs s = some x.f := by rw [← Hl.out, get_map, hx]; rfl
      have hxd := (Hln.out x.f (List.mem_of_find?_eq_some hgs))
      obtain ⟨a, c, hac, hxs, hxa, hxc⟩ := get_split hnn hx
      have h2 : Hold W0 ((FilesA (a ++ x :: c)).sep ((MapA mb (ents l)).sep ((Blk b #[.int .i64 d.room, .map (some mb), .bool d.fused, .int .i64 d.left] 53).sep R))) (w.alloc (.cells #[.string s] 9)) := by rw [← hac]; exact HO.out.perm (by ac_rfl)
      rw [files_split] at h2
      obtain ⟨v, h3⟩ := file_open (Hold.assoc.1 h2)
      obtain ⟨ao, cap, rfl⟩ := h3.up2.own.shape
      have c0 := blk_cell h3.blk 0
      have hln := h3.up2.sl.run_len Try.underlying33
      by_cases hb : n < 0 ∨ (x.f.data.length : Int) < n
      · have hres : Hid (d.truncate s n = (d, 1)) := Lib.hid (by rw [D.truncate, if_pos HM.out, hgs]; exact if_pos hb)
        obtain ⟨N, hN⟩ : ∃ N, N = x.f.data.length := ⟨_, rfl⟩
        rw [← hN] at c0 hln hb
        clear hx hlk0 hnn hgs hxd hac hxs hxa hxc h2 h3 hN
        show Calls Try.prog 20 #[.pointer (some ⟨b, 0, none⟩), .string s, .int .i64 n] w _
        by_cases hb1 : n < 0
        · clear hb
          go_enter Try.func20, Try.ntmps20
          go_wp2_with (go_at_call 36; refine (may_any HA.out _ [s] (sl_built w [.string s] 9 (by unfold maxLen; simp))).mono ?_; rintro e w2 ⟨rfl, rfl⟩; rw [HM.out])
          go_ret
          rw [hres.out]
          exact ⟨rfl, HA.out⟩
        · have hb2 : (N : Int) < n := by omega
          clear hb
          go_enter Try.func20, Try.ntmps20
          go_wp2_with (go_at_call 36; refine (may_any HA.out _ [s] (sl_built w [.string s] 9 (by unfold maxLen; simp))).mono ?_; rintro e w2 ⟨rfl, rfl⟩; rw [HM.out])
          go_ret
          rw [hres.out]
          exact ⟨rfl, HA.out⟩
      · obtain ⟨m, rfl⟩ : ∃ m : Nat, n = m := ⟨n.toNat, by omega⟩
        have hmN : m ≤ x.f.data.length := by omega
        have hres : Hid (d.truncate s m = ({ d with fs := truncF s m d.fs }.done, 0)) := Lib.hid (by rw [D.truncate, if_pos HM.out, hgs]; exact if_neg hb)
        have hsl := run_slice_cut (P := Try.prog) h3.up2.own Try.underlying33 Try.size5 hmN (k := .i64) (k' := .i64)
        have c1 := blk_cell h3.blk 1
        have f0 := blk_free h3.blk 0
        have f1 := blk_free h3.blk 1
        obtain ⟨x', hx'⟩ : ∃ x' : Fl, x' = ⟨{ x.f with data := x.f.data.take m, lasts := min x.f.lasts m }, x.blk⟩ := ⟨_, rfl⟩
        have HF : Hid (Hold W0 ((DiskA b { d with fs := truncF s m d.fs }).sep R) (((w.alloc (.cells #[.string s] 9)).setCell ⟨x.blk, 0, none⟩ (.slice ao m m)).setCell ⟨x.blk, 1, none⟩ (.int .i64 ((min x.f.lasts m : Nat) : Int)))) := Lib.hid (by
          have h4 := h3.up2.cut hmN
          rw [Nat.mul_one, tr_u8s] at h4
          have h5 := (h4.up2.setB 0 (.slice ao m m)).setB 1 (.int .i64 ((min x.f.lasts m : Nat) : Int))
          have hlen' : (x.f.data.take m).length = m := by rw [List.length_take]; omega
          have h6 : Hold W0 ((FileA x').sep _) _ := file_shut (x := x') (v := .slice ao m m) (by
            rw [hx']
            show Hold W0 ((Blk x.blk #[.slice ao m m, .int .i64 ((min x.f.lasts m : Nat) : Int)] 72).sep ((Row 5 1 _ (x.f.data.take m).length (u8s (x.f.data.take m))).sep _)) _
            rw [hlen']
            exact h5)
          refine disk_shut (d := { d with fs := truncF s m d.fs }) (mb := mb) (l := a ++ x' :: c) ?_ ?_
          · show _ = truncF s m d.fs
            rw [truncF, ← Hl.out, hac, upd_split _ hxs hxa hxc, hx']
          · rw [files_split, show ents (a ++ x' :: c) = ents l from by rw [hac, hx']; simp [ents]]
            exact h6.perm (by ac_rfl))
        obtain ⟨N, hN⟩ : ∃ N, N = x.f.data.length := ⟨_, rfl⟩
        obtain ⟨ls, hls⟩ : ∃ ls, ls = x.f.lasts := ⟨_, rfl⟩
        obtain ⟨xb, hxb⟩ : ∃ xb, xb = x.blk := ⟨_, rfl⟩
        rw [← hxb] at HF c0 c1 f0 f1 hlk
        rw [← hls] at HF c1 hxd
        rw [← hN] at c0 hln hmN hb hsl
        have hls2 : (ls : Int) ≤ 4611686018427387904 := by omega
        have hm0 : (0 : Int) ≤ (m : Int) := by omega
        have hmN2 : (m : Int) ≤ (N : Int) := by omega
        have hmin : min (ls : Int) (m : Int) = ((min ls m : Nat) : Int) := by omega
        have hn1 := World.new_ne _ _ c1
        clear hx hlk0 hnn hgs hxd hac hxs hxa hxc h2 h3 hN hls hxb hb hx'
        show Calls Try.prog 20 #[.pointer (some ⟨b, 0, none⟩), .string s, .int .i64 (m : Int)] w _
        go_enter Try.func20, Try.ntmps20
        go_wp2_with (first
          | (go_at_call 36; refine (may_any HA.out _ [s] (sl_built w [.string s] 9 (by unfold maxLen; simp))).mono ?_; rintro e w2 ⟨rfl, rfl⟩; rw [HM.out])
          | (go_at_call 37; refine (done_any (W0 := W0) (R := R) (b := b) (d := { d with fs := truncF s m d.fs }) HF.out hlf.out Hd.out).mono ?_; rintro e w4 ⟨rfl, h4⟩; have H4 := Lib.hid h4; clear h4))
        go_ret
        rw [hres.out]
        exact ⟨rfl, H4.out⟩
  · have hres : Hid (d.truncate s n = (d, d.may [s])) := Lib.hid (by rw [D.truncate, if_neg hm])
    obtain ⟨m, hmm⟩ : ∃ m : Nat, m = d.may [s] := ⟨_, rfl⟩
    have hm0 : ((m : Int) == 0) = false := by rw [beq_eq_false_iff_ne]; omega
    rw [← hmm] at hres
    have Hm := Lib.hid hmm
    clear hmm hm
    show Calls Try.prog 20 #[.pointer (some ⟨b, 0, none⟩), .string s, .int .i64 n] w _
    go_enter Try.func20, Try.ntmps20
    go_wp2_with (go_at_call 36; refine (may_any HA.out _ [s] (sl_built w [.string s] 9 (by unfold maxLen; simp))).mono ?_; rintro e w2 ⟨rfl, rfl⟩; rw [← Hm.out])
    go_ret
    rw [hres.out]
    exact ⟨rfl, HA.out⟩
end Go.Proofs.Ytkbfjgmgckbogaa.Dsk
