/-
  DiskRoom: there are never more bytes than the room, and what has none changes nothing.
-/
import Derived.Test.YtnaggipeliifgaaDiskLoop
import Derived.Test.YtnaggipeliifgaaStep
import Derived.Deep.RegionHeld3
namespace Go.Proofs.Ytnaggipeliifgaa.diskRoom
open Go.RowKit L Oct Dsk
def curF (fs : List AF) (s : ByteArray) : List UInt8 := match getF fs s with | none => [] | some f => f.data
def RetCur (w : World) (l : List UInt8) (e : Ending) (w' : World) : Prop := ∃ v n, e = .returned (.tuple #[v, .int .i64 n]) ∧ Own w' w.heap.size 5 1 v l.length (u8s l) ∧ Below w.heap.size w w'
theorem cur_le {fs : List AF} (s : ByteArray) : (curF fs s).length ≤ used fs := by
  unfold curF
  cases h : getF fs s with
  | none => exact Nat.zero_le _
  | some f => exact used_mem (getF_name h).1
theorem read_cur {W0 w : World} {R : Asrt} {b : Nat} {d : D} (H : Hold W0 ((DiskA b d).sep R) w) (s : ByteArray) (hu : d.used ≤ 1073741824) :
    Calls Try.prog 15 #[ptr b, .string s] w (RetCur w (curF d.fs s)) := by
  have hle := cur_le (fs := d.fs) s
  have hu : used d.fs ≤ 1073741824 := hu
  unfold curF at hle ⊢
  cases h : getF d.fs s with
  | none =>
    refine (read_no H s h).mono ?_
    rintro e w' ⟨rfl, rfl⟩
    exact ⟨_, _, rfl, Own.nil _ _ _ _, Below.refl _ _⟩
  | some f =>
    rw [h] at hle
    dsimp only at hle ⊢
    refine (read_yes H s h (by omega)).mono ?_
    rintro e w' ⟨v, rfl, h1, h2⟩
    exact ⟨_, _, rfl, h1, h2⟩
/-- what holds of the disk -/
structure In (N k : Nat) (fs : List AF) : Prop where
  nd : Nd fs
  ok : (⟨N, fs, false, 0⟩ : D).Ok
  len : fs.length ≤ k
def nm (x : UInt8) : ByteArray := ⟨#[102, x]⟩
theorem in_yes {N k : Nat} {fs : List AF} (h : In N k fs) (hk : k ≤ 60) (x : UInt8) (l : List UInt8) (hu : used fs + l.length ≤ N) :
    (⟨N, fs, false, 0⟩ : D).append (nm x) l = (⟨N, putF fs (nm x) l, false, 0⟩, 0) ∧ In N (k + 1) (putF fs (nm x) l) ∧ curF (putF fs (nm x) l) (nm x) = curF fs (nm x) ++ l := by
  refine ⟨?_, ⟨put_nd h.nd, ?_, ?_⟩, ?_⟩
  · rw [append_ok (d := ⟨N, fs, false, 0⟩) (by rfl) hu (by have := h.len; show fs.length < 4096; omega)]
    rfl
  · exact h.ok.put h.nd hu
  · exact Nat.le_trans put_length (by have := h.len; omega)
  · unfold curF
    rw [put_get h.nd]
    cases getF fs (nm x) <;> rfl
theorem in_no {N : Nat} {fs : List AF} (x : UInt8) (l : List UInt8) (hu : ¬ used fs + l.length ≤ N) :
    (⟨N, fs, false, 0⟩ : D).append (nm x) l = (⟨N, fs, false, 0⟩, 6) := by
  rw [D.append, if_pos (by rfl), if_pos]
  unfold D.full
  have : decide (N < used fs + l.length) = true := by simpa using hu
  show (decide (N < used fs + l.length) || _) = true
  rw [this]; rfl
def RoomRel (w : World) (b N k : Nat) (wr : World) : Prop := ∃ fs, In N k fs ∧ Hold w ((DiskA b ⟨N, fs, false, 0⟩).sep Asrt.emp) wr
set_option maxRecDepth 1000000 in
set_option maxHeartbeats 3200000 in
theorem walk {w : World} (a0 : Int) (_w0 : (Lit.int .i64 a0).wf = true) (v1 : Value) (l1 : List (List UInt8)) (h1 : SlRows w v1 l1) (_b1 : l1.length * 24 ≤ 140737488351232) (c1 : ∀ x ∈ l1, x.length ≤ 140737488351232) :
    Calls Try.prog 4 #[.int .i64 a0, v1] w fun e w' => e = .returned (.bool true) ∧ Below w.heap.size w w' := by
  have hlen := h1.run_len Try.underlying22
  have H1 := Lib.hid h1
  have C1 := Lib.hid c1
  have hmx := h1.le
  clear h1 c1
  go_enter Try.func4, Try.ntmps4
  go_wp2
  go_loop [5, 6] (fun n i => ∃ k : Nat, k ≤ l1.length ∧ i = .int .i64 k ∧ n = .int .i64 (wt (l1.take k)) ∧ wt (l1.take k) ≤ 150000000000000) (fun _ i => l1.length - (intOf i).toNat)
  case atStart => exact ⟨0, Nat.zero_le _, rfl, rfl, by simp [wt]⟩
  case round =>
    obtain ⟨k, hk, rfl, rfl, hb⟩ := hrel
    obtain ⟨n, hn⟩ : ∃ n, n = wt (l1.take k) := ⟨_, rfl⟩
    rw [← hn] at hb ⊢
    have Hn := Lib.hid hn
    clear hn
    by_cases hbig : 8000 < n
    · have g1 : decide ((n : Int) ≤ 8000) = false := by simp; omega
      by_cases hlt : k < l1.length
      all_goals
        go_wp2_with (go_at_call 10; refine (known_any _).mono ?_; rintro e w2 ⟨rfl, hb2⟩; have Hb := Lib.hid hb2; clear hb2)
        go_ret
        exact ⟨rfl, Hb.out⟩
    · have g1 : decide ((n : Int) ≤ 8000) = true := by simp; omega
      have hn8 : n ≤ 8000 := by omega
      clear hbig
      by_cases hlt : k < l1.length
      · obtain ⟨A, u, l, hA, hblk, hc, Hl', hsl⟩ := (H1.out).at (P := Try.prog) Try.underlying22 Try.size23 k hlt
        have hl2 := hsl.run_len Try.underlying23
        have hle : l.length ≤ 140737488351232 := by rw [Hl'.out]; exact C1.out _ (by simp [List.getD, hlt])
        have hw := Lib.hid (wt_take hlt)
        rw [← Hn.out, ← Hl'.out] at hw
        clear hblk hsl Hl'
        go_wp2
        go_round
        case rel => exact ⟨k + 1, by omega, by go_num, by rw [hw.out]; go_num, by rw [hw.out]; omega⟩
        case measure => simp [intOf]; omega
      · have hwt : Hid (wt l1 ≤ 8000) := Lib.hid (by
          have := Hn.out
          rw [List.take_of_length_le (by omega)] at this; omega)
        have ha : a0 < 0 ∨ 5000 < a0 ∨ (0 ≤ a0 ∧ a0 ≤ 5000 ∧ 60 < l1.length) ∨ (0 ≤ a0 ∧ a0 ≤ 5000 ∧ l1.length ≤ 60) := by omega
        rcases ha with ha | ha | ⟨ha0, ha1, ha2⟩ | ⟨ha0, ha1, ha2⟩
        · go_wp2_with (go_at_call 10; refine (known_any _).mono ?_; rintro e w2 ⟨rfl, hb2⟩; have Hb := Lib.hid hb2; clear hb2)
          go_ret
          exact ⟨rfl, Hb.out⟩
        · have ha' : ¬ a0 < 0 := by omega
          go_wp2_with (go_at_call 10; refine (known_any _).mono ?_; rintro e w2 ⟨rfl, hb2⟩; have Hb := Lib.hid hb2; clear hb2)
          go_ret
          exact ⟨rfl, Hb.out⟩
        · have g2 : decide ((60 : Int) < (l1.length : Int)) = true := by simp; omega
          go_wp2_with (go_at_call 10; refine (known_any _).mono ?_; rintro e w2 ⟨rfl, hb2⟩; have Hb := Lib.hid hb2; clear hb2)
          go_ret
          exact ⟨rfl, Hb.out⟩
        · obtain ⟨N, rfl⟩ : ∃ N : Nat, a0 = N := ⟨a0.toNat, by omega⟩
          have g2 : decide ((60 : Int) < (l1.length : Int)) = false := by simp; omega
          have hN : N ≤ 5000 := by omega
          clear ha0 ha1
          go_wp2_with (go_at_call 11; refine (new_ok (Hold.start w) N (by omega)).mono ?_; rintro e w2 ⟨_, rfl, b, rfl, h2⟩; unfold ptr; have H2 := Lib.hid h2; clear h2)
          have HR : Hid (RoomRel w b N 0 w2) := Lib.hid ⟨[], ⟨by simp [Nd], ⟨by show N ≤ 1073741824; omega, Nat.zero_le _, Nat.zero_le _, fun f hf => by cases hf⟩, Nat.le_refl _⟩, H2.out⟩
          clear H2
          go_loopw [9] (fun i wr => ∃ k : Nat, k ≤ l1.length ∧ i = .int .i64 k ∧ RoomRel w b N k wr) (fun i _ => l1.length - (intOf i).toNat)
          case atStart => exact ⟨0, Nat.zero_le _, rfl, HR.out⟩
          case round =>
            clear HR
            obtain ⟨j, hj, rfl, hR⟩ := hrel
            by_cases hlj : j < l1.length
            · obtain ⟨fs, hin, hH⟩ := hR
              have Hin := Lib.hid hin
              have hu : used fs ≤ N := hin.ok.used
              have hcl := cur_le (fs := fs) (nm (UInt8.ofNat (j % 3)))
              obtain ⟨A, u, l, hA, hblk, hc0, Hl', hsl⟩ := (H1.out).at (P := Try.prog) Try.underlying22 Try.size23 j hlj
              obtain ⟨ao, cap, rfl⟩ : ∃ ao cap, u = .slice ao l.length cap := by
                obtain ⟨_, ao, cap, e, _⟩ := hsl
                exact ⟨ao, cap, e⟩
              have hll := hsl.run_len Try.underlying23
              have Hsl := Lib.hid hsl
              have hl8 : l.length ≤ 8000 := by
                have e1 := wt_take hlj
                have e2 := wt_le l1 (j + 1)
                have := hwt.out
                rw [Hl'.out]; omega
              clear hin hblk hsl Hl'
              obtain ⟨x, hx⟩ : ∃ x : UInt8, x = UInt8.ofNat (j % 3) := ⟨_, rfl⟩
              have hxj : (x.toNat : Int) = (j : Int) % 3 := by rw [hx]; simp [UInt8.toNat_ofNat']; omega
              rw [← hx] at hcl
              have hcv := (sl_built wr (u8s [102, x]) 5 (by simp [u8s, maxLen])).run_string (P := Try.prog) (l := [102, x]) (src := 23) (dst := 9) Try.underlying23 Try.underlying5 Try.underlying9
              have hcv' : (convert 23 9 (.slice (some ⟨wr.heap.size, 0, none⟩) 2 2)).run Try.prog (wr.alloc (.cells #[.int .u8 102, .int .u8 ((j : Int) % 3)] 5)) = .ok (.string (nm x)) (wr.alloc (.cells #[.int .u8 102, .int .u8 ((j : Int) % 3)] 5)) := by rw [← hxj]; exact hcv
              clear hcv hx hxj
              have H0 := hH.keeps ((Below.refl wr.heap.size wr).alloc (Nat.le_refl _) (.cells #[.int .u8 102, .int .u8 ((j : Int) % 3)] 5))
              go_wp2_with fail
              refine (read_cur H0 (nm x) (by show used fs ≤ _; omega)).mono ?_
              rintro e w2 ⟨v2, n2, rfl, ho2, hb2⟩
              have H2 : Hold w ((DiskA b ⟨N, fs, false, 0⟩).sep ((Row 5 1 v2 (curF fs (nm x)).length (u8s (curF fs (nm x)))).sep Asrt.emp)) w2 := (H0.addRow hb2 ho2).up2
              have hc2 := cell_old H2.old hc0
              clear H0 ho2 hb2 hcv' hH
              go_wp2_with fail
              refine (used_any H2 (by show used fs ≤ _; omega)).mono ?_
              rintro e w3 ⟨rfl, H3⟩
              have hc3 := cell_old H3.old hc0
              rw [show (⟨N, fs, false, 0⟩ : D).used = used fs from rfl]
              clear H2 hc2
              have happ := append_lit H3 (bk := w3.heap.size) rfl Hin.out.ok (nm x) _ l (Reads.old Hsl.out) (by omega)
              have Happ := Lib.hid happ
              clear happ
              by_cases hfit : used fs + l.length ≤ N
              · obtain ⟨e1, e2, e3⟩ := in_yes Hin.out (by omega) x l hfit
                rw [e1] at Happ
                have E2 := Lib.hid e2
                have hpu : Hid (used (putF fs (nm x) l) = used fs + l.length) := Lib.hid (put_used Hin.out.nd)
                have E3 := Lib.hid e3
                clear e1 e2 e3
                obtain ⟨fs', hfs'⟩ : ∃ fs', fs' = putF fs (nm x) l := ⟨_, rfl⟩
                obtain ⟨U, hU⟩ : ∃ U, U = used fs := ⟨_, rfl⟩
                obtain ⟨C, hC⟩ : ∃ C, C = curF fs (nm x) := ⟨_, rfl⟩
                rw [← hfs'] at Happ E2 E3 hpu
                rw [← hU] at hpu hfit hu hcl ⊢
                rw [← hC] at E3 hcl H3 Happ
                clear hfs' hU hC
                go_wp2_with fail
                refine Happ.out.mono ?_
                rintro e w4 ⟨rfl, H4⟩
                have hc4 := cell_old H4.old hc0
                clear H3 hc3 Happ
                go_wp2_with fail
                refine (read_cur H4 (nm x) (by show used fs' ≤ _; rw [hpu.out]; omega)).mono ?_
                rintro e w5 ⟨v5, n5, rfl, ho5, hb5⟩
                have H5 : Hold w ((DiskA b ⟨N, fs', false, 0⟩).sep ((Row 5 1 v5 (curF fs' (nm x)).length (u8s (curF fs' (nm x)))).sep ((Row 5 1 v2 C.length (u8s C)).sep Asrt.emp))) w5 := (H4.addRow hb5 ho5).up2
                rw [E3.out] at H5
                have hc5 := cell_old H5.old hc0
                have g3 : decide ((U : Int) + (l.length : Int) ≤ (N : Int)) = true := by simp; omega
                clear H4 hc4 ho5 hb5
                go_wp2_with fail
                have H5d := H5.drew
                have c5d := cell_old H5d.old hc0
                have Sz : C.length + l.length ≤ 20000 := by omega
                have g4 : decide ((N : Int) < (U : Int) + (l.length : Int)) = false := by simp; omega
                have g5 : decide (N < U + l.length) = false := by simp; omega
                clear H5 hc5
                -- GEN1 BEGIN
                refine wp_region_noPanic ?_
                refine wp_region_held_drew (S := fun w' => w'.cell? A = some (.slice ao l.length cap)) (by kernel_rfl) c5d (fun hHeld => ?_)
                refine wpAnyH_take (i := 0) (v := (.int .i64 0)) (by simp only [List.getElem?_toArray, List.getElem?_cons_zero]; rfl) (by kernel_rfl) (by kernel_rfl) (by kernel_rfl) (fun _ _ _ h => h) (Or.inl ⟨by rfl, fun w hw => ?_⟩) (by assumption) ?_
                · (clear hw; go_simp)
                simp only [Act.put, List.setIfInBounds_toArray, List.set_cons_succ, List.set_cons_zero]
                refine wpAnyH_take (i := 1) (v := (.bool true)) (by simp only [List.getElem?_toArray, List.getElem?_cons_succ, List.getElem?_cons_zero]; rfl) (by kernel_rfl) (by kernel_rfl) (by kernel_rfl) (fun _ _ _ h => h) (Or.inl ⟨by rfl, fun w hw => ?_⟩) (by assumption) ?_
                · (clear hw; go_simp)
                simp only [Act.put, List.setIfInBounds_toArray, List.set_cons_succ, List.set_cons_zero]
                refine wpAnyH_take (i := 2) (v := (.bool true)) (by simp only [List.getElem?_toArray, List.getElem?_cons_succ, List.getElem?_cons_zero]; rfl) (by kernel_rfl) (by kernel_rfl) (by kernel_rfl) (fun _ _ _ h => h) (Or.inl ⟨by rfl, fun w hw => ?_⟩) (by assumption) ?_
                · (clear hw; go_simp)
                simp only [Act.put, List.setIfInBounds_toArray, List.set_cons_succ, List.set_cons_zero]
                refine wpAnyH_take (i := 3) (v := (.bool false)) (by simp only [List.getElem?_toArray, List.getElem?_cons_succ, List.getElem?_cons_zero]; rfl) (by kernel_rfl) (by kernel_rfl) (by kernel_rfl) (fun _ _ _ h => h) (Or.inl ⟨by rfl, fun w hw => ?_⟩) (by assumption) ?_
                · (clear hw; go_simp)
                simp only [Act.put, List.setIfInBounds_toArray, List.set_cons_succ, List.set_cons_zero]
                refine wpAnyH_take (i := 4) (v := (.bool false)) (by simp only [List.getElem?_toArray, List.getElem?_cons_succ, List.getElem?_cons_zero]; rfl) (by kernel_rfl) (by kernel_rfl) (by kernel_rfl) (fun _ _ _ h => h) (Or.inl ⟨by rfl, fun w hw => ?_⟩) (by assumption) ?_
                · (clear hw; go_simp)
                simp only [Act.put, List.setIfInBounds_toArray, List.set_cons_succ, List.set_cons_zero]
                refine wpAnyH_take (i := 5) (v := (.pointer (some ⟨b, 0, none⟩))) (by simp only [List.getElem?_toArray, List.getElem?_cons_succ, List.getElem?_cons_zero]; rfl) (by kernel_rfl) (by kernel_rfl) (by kernel_rfl) (fun _ _ _ h => h) (Or.inl ⟨by rfl, fun w hw => ?_⟩) (by assumption) ?_
                · (clear hw; go_simp)
                simp only [Act.put, List.setIfInBounds_toArray, List.set_cons_succ, List.set_cons_zero]
                refine wpAnyH_take (i := 7) (v := (.int .i64 (N : Int))) (by simp only [List.getElem?_toArray, List.getElem?_cons_succ, List.getElem?_cons_zero]; rfl) (by kernel_rfl) (by kernel_rfl) (by kernel_rfl) (fun _ _ _ h => h) (Or.inl ⟨by rfl, fun w hw => ?_⟩) (by assumption) ?_
                · (clear hw; go_simp)
                simp only [Act.put, List.setIfInBounds_toArray, List.set_cons_succ, List.set_cons_zero]
                refine wpAnyH_ready (rs := [6]) (by kernel_rfl) (by simp) ?_
                refine AllReadyH.cons (by simp only [List.getElem?_toArray, List.getElem?_cons_succ, List.getElem?_cons_zero]; rfl) (fun K hK => ?_) AllReadyH.nil
                rw [if_pos (by rfl)]
                go_simp
                refine (used_any H5d (by show used fs' ≤ _; rw [hpu.out]; omega)).mono ?_
                rintro e w6 ⟨rfl, H6⟩
                rw [show (⟨N, fs', false, 0⟩ : D).used = used fs' from rfl, hpu.out]
                have hc6 := cell_old H6.old hc0
                have HE := H6.addEmpty 5
                have hc6e := cell_old HE.old hc0
                clear H6 H5d
                go_wp2_with fail
                refine hK.out _ _ hc6 (fun hHeld => ?_)
                clear hK K
                try simp only [Act.put, List.setIfInBounds_toArray, List.set_cons_succ, List.set_cons_zero]
                refine wpAnyH_take (i := 8) (v := (.bool false)) (by simp only [List.getElem?_toArray, List.getElem?_cons_succ, List.getElem?_cons_zero]; rfl) (by kernel_rfl) (by kernel_rfl) (by kernel_rfl) (fun _ _ _ h => h) (Or.inl ⟨by rfl, fun w hw => ?_⟩) (by assumption) ?_
                · (clear hw; go_simp)
                simp only [Act.put, List.setIfInBounds_toArray, List.set_cons_succ, List.set_cons_zero]
                refine wpAnyH_take (i := 9) (v := (.bool false)) (by simp only [List.getElem?_toArray, List.getElem?_cons_succ, List.getElem?_cons_zero]; rfl) (by kernel_rfl) (by kernel_rfl) (by kernel_rfl) (fun _ _ _ h => h) (Or.inl ⟨by rfl, fun w hw => ?_⟩) (by assumption) ?_
                · (clear hw; go_simp)
                simp only [Act.put, List.setIfInBounds_toArray, List.set_cons_succ, List.set_cons_zero]
                refine wpAnyH_take (i := 10) (v := (.bool false)) (by simp only [List.getElem?_toArray, List.getElem?_cons_succ, List.getElem?_cons_zero]; rfl) (by kernel_rfl) (by kernel_rfl) (by kernel_rfl) (fun _ _ _ h => h) (Or.inl ⟨by rfl, fun w hw => ?_⟩) (by assumption) ?_
                · (clear hw; go_simp)
                simp only [Act.put, List.setIfInBounds_toArray, List.set_cons_succ, List.set_cons_zero]
                refine wpAnyH_take (i := 11) (v := (.bool true)) (by simp only [List.getElem?_toArray, List.getElem?_cons_succ, List.getElem?_cons_zero]; rfl) (by kernel_rfl) (by kernel_rfl) (by kernel_rfl) (fun _ _ _ h => h) (Or.inl ⟨by rfl, fun w hw => ?_⟩) (by assumption) ?_
                · (clear hw; go_simp)
                simp only [Act.put, List.setIfInBounds_toArray, List.set_cons_succ, List.set_cons_zero]
                refine wpAnyH_take (i := 12) (v := (.bool false)) (by simp only [List.getElem?_toArray, List.getElem?_cons_succ, List.getElem?_cons_zero]; rfl) (by kernel_rfl) (by kernel_rfl) (by kernel_rfl) (fun _ _ _ h => h) (Or.inl ⟨by rfl, fun w hw => ?_⟩) (by assumption) ?_
                · (clear hw; go_simp)
                simp only [Act.put, List.setIfInBounds_toArray, List.set_cons_succ, List.set_cons_zero]
                refine wpAnyH_take (i := 13) (v := (.bool false)) (by simp only [List.getElem?_toArray, List.getElem?_cons_succ, List.getElem?_cons_zero]; rfl) (by kernel_rfl) (by kernel_rfl) (by kernel_rfl) (fun _ _ _ h => h) (Or.inl ⟨by rfl, fun w hw => ?_⟩) (by assumption) ?_
                · (clear hw; go_simp)
                simp only [Act.put, List.setIfInBounds_toArray, List.set_cons_succ, List.set_cons_zero]
                refine wpAnyH_take (i := 14) (v := undef) (by simp only [List.getElem?_toArray, List.getElem?_cons_succ, List.getElem?_cons_zero]; rfl) (by kernel_rfl) (by kernel_rfl) (by kernel_rfl) (fun _ _ _ h => h) (Or.inr ⟨by rfl, rfl⟩) (by assumption) ?_
                simp only [Act.put, List.setIfInBounds_toArray, List.set_cons_succ, List.set_cons_zero]
                refine wpAnyH_take (i := 15) (v := undef) (by simp only [List.getElem?_toArray, List.getElem?_cons_succ, List.getElem?_cons_zero]; rfl) (by kernel_rfl) (by kernel_rfl) (by kernel_rfl) (fun _ _ _ h => h) (Or.inr ⟨by rfl, rfl⟩) (by assumption) ?_
                simp only [Act.put, List.setIfInBounds_toArray, List.set_cons_succ, List.set_cons_zero]
                refine wpAnyH_take (i := 16) (v := undef) (by simp only [List.getElem?_toArray, List.getElem?_cons_succ, List.getElem?_cons_zero]; rfl) (by kernel_rfl) (by kernel_rfl) (by kernel_rfl) (fun _ _ _ h => h) (Or.inr ⟨by rfl, rfl⟩) (by assumption) ?_
                simp only [Act.put, List.setIfInBounds_toArray, List.set_cons_succ, List.set_cons_zero]
                refine wpAnyH_take (i := 17) (v := undef) (by simp only [List.getElem?_toArray, List.getElem?_cons_succ, List.getElem?_cons_zero]; rfl) (by kernel_rfl) (by kernel_rfl) (by kernel_rfl) (fun _ _ _ h => h) (Or.inr ⟨by rfl, rfl⟩) (by assumption) ?_
                simp only [Act.put, List.setIfInBounds_toArray, List.set_cons_succ, List.set_cons_zero]
                refine wpAnyH_take (i := 18) (v := undef) (by simp only [List.getElem?_toArray, List.getElem?_cons_succ, List.getElem?_cons_zero]; rfl) (by kernel_rfl) (by kernel_rfl) (by kernel_rfl) (fun _ _ _ h => h) (Or.inr ⟨by rfl, rfl⟩) (by assumption) ?_
                simp only [Act.put, List.setIfInBounds_toArray, List.set_cons_succ, List.set_cons_zero]
                refine wpAnyH_take (i := 19) (v := undef) (by simp only [List.getElem?_toArray, List.getElem?_cons_succ, List.getElem?_cons_zero]; rfl) (by kernel_rfl) (by kernel_rfl) (by kernel_rfl) (fun _ _ _ h => h) (Or.inr ⟨by rfl, rfl⟩) (by assumption) ?_
                simp only [Act.put, List.setIfInBounds_toArray, List.set_cons_succ, List.set_cons_zero]
                refine wpAnyH_take (i := 20) (v := undef) (by simp only [List.getElem?_toArray, List.getElem?_cons_succ, List.getElem?_cons_zero]; rfl) (by kernel_rfl) (by kernel_rfl) (by kernel_rfl) (fun _ _ _ h => h) (Or.inr ⟨by rfl, rfl⟩) (by assumption) ?_
                simp only [Act.put, List.setIfInBounds_toArray, List.set_cons_succ, List.set_cons_zero]
                refine wpAnyH_take (i := 21) (v := undef) (by simp only [List.getElem?_toArray, List.getElem?_cons_succ, List.getElem?_cons_zero]; rfl) (by kernel_rfl) (by kernel_rfl) (by kernel_rfl) (fun _ _ _ h => h) (Or.inr ⟨by rfl, rfl⟩) (by assumption) ?_
                simp only [Act.put, List.setIfInBounds_toArray, List.set_cons_succ, List.set_cons_zero]
                refine wpAnyH_take (i := 22) (v := undef) (by simp only [List.getElem?_toArray, List.getElem?_cons_succ, List.getElem?_cons_zero]; rfl) (by kernel_rfl) (by kernel_rfl) (by kernel_rfl) (fun _ _ _ h => h) (Or.inr ⟨by rfl, rfl⟩) (by assumption) ?_
                simp only [Act.put, List.setIfInBounds_toArray, List.set_cons_succ, List.set_cons_zero]
                refine wpAnyH_take (i := 23) (v := undef) (by simp only [List.getElem?_toArray, List.getElem?_cons_succ, List.getElem?_cons_zero]; rfl) (by kernel_rfl) (by kernel_rfl) (by kernel_rfl) (fun _ _ _ h => h) (Or.inr ⟨by rfl, rfl⟩) (by assumption) ?_
                simp only [Act.put, List.setIfInBounds_toArray, List.set_cons_succ, List.set_cons_zero]
                refine wpAnyH_take (i := 24) (v := (.bool false)) (by simp only [List.getElem?_toArray, List.getElem?_cons_succ, List.getElem?_cons_zero]; rfl) (by kernel_rfl) (by kernel_rfl) (by kernel_rfl) (fun _ _ _ h => h) (Or.inl ⟨by rfl, fun w hw => ?_⟩) (by assumption) ?_
                · (clear hw; go_simp)
                simp only [Act.put, List.setIfInBounds_toArray, List.set_cons_succ, List.set_cons_zero]
                refine wpAnyH_take (i := 25) (v := (.bool false)) (by simp only [List.getElem?_toArray, List.getElem?_cons_succ, List.getElem?_cons_zero]; rfl) (by kernel_rfl) (by kernel_rfl) (by kernel_rfl) (fun _ _ _ h => h) (Or.inl ⟨by rfl, fun w hw => ?_⟩) (by assumption) ?_
                · (clear hw; go_simp)
                simp only [Act.put, List.setIfInBounds_toArray, List.set_cons_succ, List.set_cons_zero]
                refine wpAnyH_take (i := 26) (v := (.bool false)) (by simp only [List.getElem?_toArray, List.getElem?_cons_succ, List.getElem?_cons_zero]; rfl) (by kernel_rfl) (by kernel_rfl) (by kernel_rfl) (fun _ _ _ h => h) (Or.inl ⟨by rfl, fun w hw => ?_⟩) (by assumption) ?_
                · (clear hw; go_simp)
                simp only [Act.put, List.setIfInBounds_toArray, List.set_cons_succ, List.set_cons_zero]
                refine wpAnyH_take (i := 27) (v := (.bool true)) (by simp only [List.getElem?_toArray, List.getElem?_cons_succ, List.getElem?_cons_zero]; rfl) (by kernel_rfl) (by kernel_rfl) (by kernel_rfl) (fun _ _ _ h => h) (Or.inl ⟨by rfl, fun w hw => ?_⟩) (by assumption) ?_
                · (clear hw; go_simp)
                simp only [Act.put, List.setIfInBounds_toArray, List.set_cons_succ, List.set_cons_zero]
                refine wpAnyH_take (i := 28) (v := (.bool true)) (by simp only [List.getElem?_toArray, List.getElem?_cons_succ, List.getElem?_cons_zero]; rfl) (by kernel_rfl) (by kernel_rfl) (by kernel_rfl) (fun _ _ _ h => h) (Or.inl ⟨by rfl, fun w hw => ?_⟩) (by assumption) ?_
                · (clear hw; go_simp)
                simp only [Act.put, List.setIfInBounds_toArray, List.set_cons_succ, List.set_cons_zero]
                refine wpAnyH_take (i := 29) (v := v5) (by simp only [List.getElem?_toArray, List.getElem?_cons_succ, List.getElem?_cons_zero]; rfl) (by kernel_rfl) (by kernel_rfl) (by kernel_rfl) (fun _ _ _ h => h) (Or.inl ⟨by rfl, fun w hw => ?_⟩) (by assumption) ?_
                · (clear hw; go_simp)
                simp only [Act.put, List.setIfInBounds_toArray, List.set_cons_succ, List.set_cons_zero]
                refine wpAnyH_take (i := 31) (v := v2) (by simp only [List.getElem?_toArray, List.getElem?_cons_succ, List.getElem?_cons_zero]; rfl) (by kernel_rfl) (by kernel_rfl) (by kernel_rfl) (fun _ _ _ h => h) (Or.inl ⟨by rfl, fun w hw => ?_⟩) (by assumption) ?_
                · (clear hw; go_simp)
                simp only [Act.put, List.setIfInBounds_toArray, List.set_cons_succ, List.set_cons_zero]
                refine wpAnyH_take (i := 33) (v := v1) (by simp only [List.getElem?_toArray, List.getElem?_cons_succ, List.getElem?_cons_zero]; rfl) (by kernel_rfl) (by kernel_rfl) (by kernel_rfl) (fun _ _ _ h => h) (Or.inl ⟨by rfl, fun w hw => ?_⟩) (by assumption) ?_
                · (clear hw; go_simp)
                simp only [Act.put, List.setIfInBounds_toArray, List.set_cons_succ, List.set_cons_zero]
                refine wpAnyH_take (i := 34) (v := (.int .i64 (j : Int))) (by simp only [List.getElem?_toArray, List.getElem?_cons_succ, List.getElem?_cons_zero]; rfl) (by kernel_rfl) (by kernel_rfl) (by kernel_rfl) (fun _ _ _ h => h) (Or.inl ⟨by rfl, fun w hw => ?_⟩) (by assumption) ?_
                · (clear hw; go_simp)
                simp only [Act.put, List.setIfInBounds_toArray, List.set_cons_succ, List.set_cons_zero]
                refine wpAnyH_take (i := 35) (v := (.pointer (some A))) (by simp only [List.getElem?_toArray, List.getElem?_cons_succ, List.getElem?_cons_zero]; rfl) (by kernel_rfl) (by kernel_rfl) (by kernel_rfl) (fun _ _ _ h => h) (Or.inl ⟨by rfl, fun w hw => ?_⟩) (by assumption) ?_
                · (clear hw; go_simp)
                simp only [Act.put, List.setIfInBounds_toArray, List.set_cons_succ, List.set_cons_zero]
                refine wpAnyH_take (i := 36) (v := (.slice ao l.length cap)) (by simp only [List.getElem?_toArray, List.getElem?_cons_succ, List.getElem?_cons_zero]; rfl) (by kernel_rfl) (by kernel_rfl) (by kernel_rfl) (fun _ _ _ h => h) (Or.inl ⟨by rfl, fun w hw => ?_⟩) (by assumption) ?_
                · (dsimp only at hw; go_simp)
                simp only [Act.put, List.setIfInBounds_toArray, List.set_cons_succ, List.set_cons_zero]
                refine wpAnyH_ready (rs := [30]) (by kernel_rfl) (by simp) ?_
                refine AllReadyH.cons (by simp only [List.getElem?_toArray, List.getElem?_cons_succ, List.getElem?_cons_zero]; rfl) (fun K hK => ?_) AllReadyH.nil
                rw [if_pos (by rfl)]
                go_simp
                refine hK.out _ _ hc6e (fun hHeld => ?_)
                clear hK K
                try simp only [Act.put, List.setIfInBounds_toArray, List.set_cons_succ, List.set_cons_zero]
                refine wpAnyH_ready (rs := [32]) (by kernel_rfl) (by simp) ?_
                refine AllReadyH.cons (by simp only [List.getElem?_toArray, List.getElem?_cons_succ, List.getElem?_cons_zero]; rfl) (fun K hK => ?_) AllReadyH.nil
                rw [if_pos (by rfl)]
                refine wp_app (sx := .tmp 135) el8 HE _ (by rfl) (by rfl) (by rfl) HE.up4.sl (u8s_one _) (by omega) (by omega) ?_
                intro v7 ys7 w7 hys7 H7
                rw [hys7.out, List.nil_append, Nat.zero_add] at H7
                have hc7 := cell_old H7.old hc0
                clear HE
                refine hK.out _ _ hc7 (fun hHeld => ?_)
                clear hK K
                try simp only [Act.put, List.setIfInBounds_toArray, List.set_cons_succ, List.set_cons_zero]
                refine wpAnyH_ready (rs := [37]) (by kernel_rfl) (by simp) ?_
                refine AllReadyH.cons (by simp only [List.getElem?_toArray, List.getElem?_cons_succ, List.getElem?_cons_zero]; rfl) (fun K hK => ?_) AllReadyH.nil
                rw [if_pos (by rfl)]
                refine wp_app (sx := .tmp 137) el8 H7 _ (by rfl) (by rfl) (by rfl) (Hsl.out.below' H7.old) (u8s_one _) (by omega) (by omega) ?_
                intro v8 ys8 w8 hys8 H8
                rw [hys8.out, ← u8s_append, ← List.length_append] at H8
                have hc8 := cell_old H8.old hc0
                clear H7
                refine hK.out _ _ hc8 (fun hHeld => ?_)
                clear hK K
                try simp only [Act.put, List.setIfInBounds_toArray, List.set_cons_succ, List.set_cons_zero]
                refine wpAnyH_ready (rs := [38]) (by kernel_rfl) (by simp) ?_
                refine AllReadyH.cons (by simp only [List.getElem?_toArray, List.getElem?_cons_succ, List.getElem?_cons_zero]; rfl) (fun K hK => ?_) AllReadyH.nil
                rw [if_pos (by rfl)]
                go_simp
                refine (same_any v5 v8 (C ++ l) (C ++ l) _ H8.up3.sl H8.sl).mono ?_
                rintro e w9 ⟨rfl, hb9⟩
                rw [show decide (C ++ l = C ++ l) = true from by simp]
                have H9 := Lib.hid (H8.keeps hb9)
                have hc9 := cell_old H9.out.old hc0
                clear hb9 H8
                go_wp2_with fail
                refine hK.out _ _ hc9 (fun hHeld => ?_)
                clear hK K
                try simp only [Act.put, List.setIfInBounds_toArray, List.set_cons_succ, List.set_cons_zero]
                refine wpAnyH_take (i := 39) (v := (.bool false)) (by simp only [List.getElem?_toArray, List.getElem?_cons_succ, List.getElem?_cons_zero]; rfl) (by kernel_rfl) (by kernel_rfl) (by kernel_rfl) (fun _ _ _ h => h) (Or.inl ⟨by rfl, fun w hw => ?_⟩) (by assumption) ?_
                · (clear hw; go_simp)
                simp only [Act.put, List.setIfInBounds_toArray, List.set_cons_succ, List.set_cons_zero]
                refine wpAnyH_take (i := 40) (v := (.bool false)) (by simp only [List.getElem?_toArray, List.getElem?_cons_succ, List.getElem?_cons_zero]; rfl) (by kernel_rfl) (by kernel_rfl) (by kernel_rfl) (fun _ _ _ h => h) (Or.inl ⟨by rfl, fun w hw => ?_⟩) (by assumption) ?_
                · (clear hw; go_simp)
                simp only [Act.put, List.setIfInBounds_toArray, List.set_cons_succ, List.set_cons_zero]
                refine wpAnyH_take (i := 41) (v := (.bool false)) (by simp only [List.getElem?_toArray, List.getElem?_cons_succ, List.getElem?_cons_zero]; rfl) (by kernel_rfl) (by kernel_rfl) (by kernel_rfl) (fun _ _ _ h => h) (Or.inl ⟨by rfl, fun w hw => ?_⟩) (by assumption) ?_
                · (clear hw; go_simp)
                simp only [Act.put, List.setIfInBounds_toArray, List.set_cons_succ, List.set_cons_zero]
                refine wpAnyH_done (by kernel_rfl) ?_ _
                refine NoPanic.normal ?_
                -- GEN1 END
                have HF := Lib.hid H9.out.drop1.up2.drop1.up2.drop1
                clear hc6 hc6e hc7 hc8 hc9 g3 g4 g5 c5d H9
                go_wp2
                go_roundw
                case rel => exact ⟨j + 1, by omega, by go_num, fs', E2.out, HF.out⟩
                case measure => simp [intOf]; omega
              · have hno := in_no (N := N) x l hfit
                rw [hno] at Happ
                clear hno
                obtain ⟨U, hU⟩ : ∃ U, U = used fs := ⟨_, rfl⟩
                have HU := Lib.hid hU
                obtain ⟨C, hC⟩ : ∃ C, C = curF fs (nm x) := ⟨_, rfl⟩
                have HC := Lib.hid hC
                rw [← hU] at hfit hcl ⊢
                have hU2 : used fs ≤ 1073741824 := by omega
                have hUN : U ≤ N := by omega
                rw [← hC] at hcl H3 Happ
                have g3 : decide ((U : Int) + (l.length : Int) ≤ (N : Int)) = false := by simp; omega
                clear hU hC hu
                go_wp2_with fail
                refine Happ.out.mono ?_
                rintro e w4 ⟨rfl, H4⟩
                have hc4 := cell_old H4.old hc0
                clear H3 hc3 Happ
                go_wp2_with fail
                refine (read_cur H4 (nm x) (by show used fs ≤ _; omega)).mono ?_
                rintro e w5 ⟨v5, n5, rfl, ho5, hb5⟩
                have H5 : Hold w ((DiskA b ⟨N, fs, false, 0⟩).sep ((Row 5 1 v5 (curF fs (nm x)).length (u8s (curF fs (nm x)))).sep ((Row 5 1 v2 C.length (u8s C)).sep Asrt.emp))) w5 := (H4.addRow hb5 ho5).up2
                rw [← HC.out] at H5
                have hc5 := cell_old H5.old hc0
                clear H4 hc4 ho5 hb5
                go_wp2_with fail
                have H5d := H5.drew
                have g4 : decide ((N : Int) < (U : Int)) = false := by simp; omega
                have g5 : decide (N < U) = false := by simp; omega
                clear H5 hc5 hfit
                -- GEN2 BEGIN
                refine wp_region_noPanic ?_
                refine wp_region_held_drew (S := fun _ => True) (by kernel_rfl) trivial (fun hHeld => ?_)
                refine wpAnyH_take (i := 0) (v := (.int .i64 6)) (by simp only [List.getElem?_toArray, List.getElem?_cons_zero]; rfl) (by kernel_rfl) (by kernel_rfl) (by kernel_rfl) (fun _ _ _ h => h) (Or.inl ⟨by rfl, fun w hw => ?_⟩) trivial ?_
                · (clear hw; go_simp)
                simp only [Act.put, List.setIfInBounds_toArray, List.set_cons_succ, List.set_cons_zero]
                refine wpAnyH_take (i := 1) (v := (.bool false)) (by simp only [List.getElem?_toArray, List.getElem?_cons_succ, List.getElem?_cons_zero]; rfl) (by kernel_rfl) (by kernel_rfl) (by kernel_rfl) (fun _ _ _ h => h) (Or.inl ⟨by rfl, fun w hw => ?_⟩) trivial ?_
                · (clear hw; go_simp)
                simp only [Act.put, List.setIfInBounds_toArray, List.set_cons_succ, List.set_cons_zero]
                refine wpAnyH_take (i := 2) (v := (.bool false)) (by simp only [List.getElem?_toArray, List.getElem?_cons_succ, List.getElem?_cons_zero]; rfl) (by kernel_rfl) (by kernel_rfl) (by kernel_rfl) (fun _ _ _ h => h) (Or.inl ⟨by rfl, fun w hw => ?_⟩) trivial ?_
                · (clear hw; go_simp)
                simp only [Act.put, List.setIfInBounds_toArray, List.set_cons_succ, List.set_cons_zero]
                refine wpAnyH_take (i := 3) (v := (.bool false)) (by simp only [List.getElem?_toArray, List.getElem?_cons_succ, List.getElem?_cons_zero]; rfl) (by kernel_rfl) (by kernel_rfl) (by kernel_rfl) (fun _ _ _ h => h) (Or.inl ⟨by rfl, fun w hw => ?_⟩) trivial ?_
                · (clear hw; go_simp)
                simp only [Act.put, List.setIfInBounds_toArray, List.set_cons_succ, List.set_cons_zero]
                refine wpAnyH_take (i := 4) (v := (.bool false)) (by simp only [List.getElem?_toArray, List.getElem?_cons_succ, List.getElem?_cons_zero]; rfl) (by kernel_rfl) (by kernel_rfl) (by kernel_rfl) (fun _ _ _ h => h) (Or.inl ⟨by rfl, fun w hw => ?_⟩) trivial ?_
                · (clear hw; go_simp)
                simp only [Act.put, List.setIfInBounds_toArray, List.set_cons_succ, List.set_cons_zero]
                refine wpAnyH_take (i := 5) (v := (.pointer (some ⟨b, 0, none⟩))) (by simp only [List.getElem?_toArray, List.getElem?_cons_succ, List.getElem?_cons_zero]; rfl) (by kernel_rfl) (by kernel_rfl) (by kernel_rfl) (fun _ _ _ h => h) (Or.inl ⟨by rfl, fun w hw => ?_⟩) trivial ?_
                · (clear hw; go_simp)
                simp only [Act.put, List.setIfInBounds_toArray, List.set_cons_succ, List.set_cons_zero]
                refine wpAnyH_take (i := 7) (v := (.int .i64 (N : Int))) (by simp only [List.getElem?_toArray, List.getElem?_cons_succ, List.getElem?_cons_zero]; rfl) (by kernel_rfl) (by kernel_rfl) (by kernel_rfl) (fun _ _ _ h => h) (Or.inl ⟨by rfl, fun w hw => ?_⟩) trivial ?_
                · (clear hw; go_simp)
                simp only [Act.put, List.setIfInBounds_toArray, List.set_cons_succ, List.set_cons_zero]
                refine wpAnyH_ready (rs := [6]) (by kernel_rfl) (by simp) ?_
                refine AllReadyH.cons (by simp only [List.getElem?_toArray, List.getElem?_cons_succ, List.getElem?_cons_zero]; rfl) (fun K hK => ?_) AllReadyH.nil
                rw [if_pos (by rfl)]
                go_simp
                refine (used_any H5d (by show used fs ≤ _; omega)).mono ?_
                rintro e w6 ⟨rfl, H6⟩
                rw [show (⟨N, fs, false, 0⟩ : D).used = used fs from rfl, ← HU.out]
                clear H5d
                go_wp2_with fail
                refine hK.out _ _ trivial (fun hHeld => ?_)
                clear hK K
                try simp only [Act.put, List.setIfInBounds_toArray, List.set_cons_succ, List.set_cons_zero]
                refine wpAnyH_take (i := 8) (v := (.bool false)) (by simp only [List.getElem?_toArray, List.getElem?_cons_succ, List.getElem?_cons_zero]; rfl) (by kernel_rfl) (by kernel_rfl) (by kernel_rfl) (fun _ _ _ h => h) (Or.inl ⟨by rfl, fun w hw => ?_⟩) trivial ?_
                · (clear hw; go_simp)
                simp only [Act.put, List.setIfInBounds_toArray, List.set_cons_succ, List.set_cons_zero]
                refine wpAnyH_take (i := 9) (v := (.bool false)) (by simp only [List.getElem?_toArray, List.getElem?_cons_succ, List.getElem?_cons_zero]; rfl) (by kernel_rfl) (by kernel_rfl) (by kernel_rfl) (fun _ _ _ h => h) (Or.inl ⟨by rfl, fun w hw => ?_⟩) trivial ?_
                · (clear hw; go_simp)
                simp only [Act.put, List.setIfInBounds_toArray, List.set_cons_succ, List.set_cons_zero]
                refine wpAnyH_take (i := 10) (v := (.bool false)) (by simp only [List.getElem?_toArray, List.getElem?_cons_succ, List.getElem?_cons_zero]; rfl) (by kernel_rfl) (by kernel_rfl) (by kernel_rfl) (fun _ _ _ h => h) (Or.inl ⟨by rfl, fun w hw => ?_⟩) trivial ?_
                · (clear hw; go_simp)
                simp only [Act.put, List.setIfInBounds_toArray, List.set_cons_succ, List.set_cons_zero]
                refine wpAnyH_take (i := 11) (v := (.bool false)) (by simp only [List.getElem?_toArray, List.getElem?_cons_succ, List.getElem?_cons_zero]; rfl) (by kernel_rfl) (by kernel_rfl) (by kernel_rfl) (fun _ _ _ h => h) (Or.inl ⟨by rfl, fun w hw => ?_⟩) trivial ?_
                · (clear hw; go_simp)
                simp only [Act.put, List.setIfInBounds_toArray, List.set_cons_succ, List.set_cons_zero]
                refine wpAnyH_take (i := 12) (v := (.bool true)) (by simp only [List.getElem?_toArray, List.getElem?_cons_succ, List.getElem?_cons_zero]; rfl) (by kernel_rfl) (by kernel_rfl) (by kernel_rfl) (fun _ _ _ h => h) (Or.inl ⟨by rfl, fun w hw => ?_⟩) trivial ?_
                · (clear hw; go_simp)
                simp only [Act.put, List.setIfInBounds_toArray, List.set_cons_succ, List.set_cons_zero]
                refine wpAnyH_take (i := 13) (v := (.bool true)) (by simp only [List.getElem?_toArray, List.getElem?_cons_succ, List.getElem?_cons_zero]; rfl) (by kernel_rfl) (by kernel_rfl) (by kernel_rfl) (fun _ _ _ h => h) (Or.inl ⟨by rfl, fun w hw => ?_⟩) trivial ?_
                · (clear hw; go_simp)
                simp only [Act.put, List.setIfInBounds_toArray, List.set_cons_succ, List.set_cons_zero]
                refine wpAnyH_take (i := 14) (v := v5) (by simp only [List.getElem?_toArray, List.getElem?_cons_succ, List.getElem?_cons_zero]; rfl) (by kernel_rfl) (by kernel_rfl) (by kernel_rfl) (fun _ _ _ h => h) (Or.inl ⟨by rfl, fun w hw => ?_⟩) trivial ?_
                · (clear hw; go_simp)
                simp only [Act.put, List.setIfInBounds_toArray, List.set_cons_succ, List.set_cons_zero]
                refine wpAnyH_take (i := 15) (v := v2) (by simp only [List.getElem?_toArray, List.getElem?_cons_succ, List.getElem?_cons_zero]; rfl) (by kernel_rfl) (by kernel_rfl) (by kernel_rfl) (fun _ _ _ h => h) (Or.inl ⟨by rfl, fun w hw => ?_⟩) trivial ?_
                · (clear hw; go_simp)
                simp only [Act.put, List.setIfInBounds_toArray, List.set_cons_succ, List.set_cons_zero]
                refine wpAnyH_ready (rs := [16]) (by kernel_rfl) (by simp) ?_
                refine AllReadyH.cons (by simp only [List.getElem?_toArray, List.getElem?_cons_succ, List.getElem?_cons_zero]; rfl) (fun K hK => ?_) AllReadyH.nil
                rw [if_pos (by rfl)]
                go_simp
                refine (same_any v5 v2 C C _ H6.up2.sl H6.up3.sl).mono ?_
                rintro e w7 ⟨rfl, hb7⟩
                rw [show decide (C = C) = true from by simp]
                have H7 := H6.keeps hb7
                clear H6 hb7
                go_wp2_with fail
                refine hK.out _ _ trivial (fun hHeld => ?_)
                clear hK K
                try simp only [Act.put, List.setIfInBounds_toArray, List.set_cons_succ, List.set_cons_zero]
                refine wpAnyH_take (i := 17) (v := (.bool false)) (by simp only [List.getElem?_toArray, List.getElem?_cons_succ, List.getElem?_cons_zero]; rfl) (by kernel_rfl) (by kernel_rfl) (by kernel_rfl) (fun _ _ _ h => h) (Or.inl ⟨by rfl, fun w hw => ?_⟩) trivial ?_
                · (clear hw; go_simp)
                simp only [Act.put, List.setIfInBounds_toArray, List.set_cons_succ, List.set_cons_zero]
                refine wpAnyH_take (i := 18) (v := (.bool false)) (by simp only [List.getElem?_toArray, List.getElem?_cons_succ, List.getElem?_cons_zero]; rfl) (by kernel_rfl) (by kernel_rfl) (by kernel_rfl) (fun _ _ _ h => h) (Or.inl ⟨by rfl, fun w hw => ?_⟩) trivial ?_
                · (clear hw; go_simp)
                simp only [Act.put, List.setIfInBounds_toArray, List.set_cons_succ, List.set_cons_zero]
                refine wpAnyH_take (i := 19) (v := (.pointer (some ⟨b, 0, none⟩))) (by simp only [List.getElem?_toArray, List.getElem?_cons_succ, List.getElem?_cons_zero]; rfl) (by kernel_rfl) (by kernel_rfl) (by kernel_rfl) (fun _ _ _ h => h) (Or.inl ⟨by rfl, fun w hw => ?_⟩) trivial ?_
                · (clear hw; go_simp)
                simp only [Act.put, List.setIfInBounds_toArray, List.set_cons_succ, List.set_cons_zero]
                refine wpAnyH_take (i := 21) (v := (.int .i64 (U : Int))) (by simp only [List.getElem?_toArray, List.getElem?_cons_succ, List.getElem?_cons_zero]; rfl) (by kernel_rfl) (by kernel_rfl) (by kernel_rfl) (fun _ _ _ h => h) (Or.inl ⟨by rfl, fun w hw => ?_⟩) trivial ?_
                · (clear hw; go_simp)
                simp only [Act.put, List.setIfInBounds_toArray, List.set_cons_succ, List.set_cons_zero]
                refine wpAnyH_ready (rs := [20]) (by kernel_rfl) (by simp) ?_
                refine AllReadyH.cons (by simp only [List.getElem?_toArray, List.getElem?_cons_succ, List.getElem?_cons_zero]; rfl) (fun K hK => ?_) AllReadyH.nil
                rw [if_pos (by rfl)]
                go_simp
                refine (used_any H7 (by show used fs ≤ _; omega)).mono ?_
                rintro e w8 ⟨rfl, H8⟩
                rw [show (⟨N, fs, false, 0⟩ : D).used = used fs from rfl, ← HU.out]
                clear H7
                go_wp2_with fail
                refine hK.out _ _ trivial (fun hHeld => ?_)
                clear hK K
                try simp only [Act.put, List.setIfInBounds_toArray, List.set_cons_succ, List.set_cons_zero]
                refine wpAnyH_take (i := 22) (v := (.bool false)) (by simp only [List.getElem?_toArray, List.getElem?_cons_succ, List.getElem?_cons_zero]; rfl) (by kernel_rfl) (by kernel_rfl) (by kernel_rfl) (fun _ _ _ h => h) (Or.inl ⟨by rfl, fun w hw => ?_⟩) trivial ?_
                · (clear hw; go_simp)
                simp only [Act.put, List.setIfInBounds_toArray, List.set_cons_succ, List.set_cons_zero]
                refine wpAnyH_take (i := 23) (v := (.bool false)) (by simp only [List.getElem?_toArray, List.getElem?_cons_succ, List.getElem?_cons_zero]; rfl) (by kernel_rfl) (by kernel_rfl) (by kernel_rfl) (fun _ _ _ h => h) (Or.inl ⟨by rfl, fun w hw => ?_⟩) trivial ?_
                · (clear hw; go_simp)
                simp only [Act.put, List.setIfInBounds_toArray, List.set_cons_succ, List.set_cons_zero]
                refine wpAnyH_take (i := 24) (v := (.bool false)) (by simp only [List.getElem?_toArray, List.getElem?_cons_succ, List.getElem?_cons_zero]; rfl) (by kernel_rfl) (by kernel_rfl) (by kernel_rfl) (fun _ _ _ h => h) (Or.inl ⟨by rfl, fun w hw => ?_⟩) trivial ?_
                · (clear hw; go_simp)
                simp only [Act.put, List.setIfInBounds_toArray, List.set_cons_succ, List.set_cons_zero]
                refine wpAnyH_take (i := 25) (v := (.bool false)) (by simp only [List.getElem?_toArray, List.getElem?_cons_succ, List.getElem?_cons_zero]; rfl) (by kernel_rfl) (by kernel_rfl) (by kernel_rfl) (fun _ _ _ h => h) (Or.inl ⟨by rfl, fun w hw => ?_⟩) trivial ?_
                · (clear hw; go_simp)
                simp only [Act.put, List.setIfInBounds_toArray, List.set_cons_succ, List.set_cons_zero]
                refine wpAnyH_take (i := 26) (v := (.bool false)) (by simp only [List.getElem?_toArray, List.getElem?_cons_succ, List.getElem?_cons_zero]; rfl) (by kernel_rfl) (by kernel_rfl) (by kernel_rfl) (fun _ _ _ h => h) (Or.inl ⟨by rfl, fun w hw => ?_⟩) trivial ?_
                · (clear hw; go_simp)
                simp only [Act.put, List.setIfInBounds_toArray, List.set_cons_succ, List.set_cons_zero]
                refine wpAnyH_take (i := 27) (v := (.bool false)) (by simp only [List.getElem?_toArray, List.getElem?_cons_succ, List.getElem?_cons_zero]; rfl) (by kernel_rfl) (by kernel_rfl) (by kernel_rfl) (fun _ _ _ h => h) (Or.inl ⟨by rfl, fun w hw => ?_⟩) trivial ?_
                · (clear hw; go_simp)
                simp only [Act.put, List.setIfInBounds_toArray, List.set_cons_succ, List.set_cons_zero]
                refine wpAnyH_take (i := 28) (v := (.bool false)) (by simp only [List.getElem?_toArray, List.getElem?_cons_succ, List.getElem?_cons_zero]; rfl) (by kernel_rfl) (by kernel_rfl) (by kernel_rfl) (fun _ _ _ h => h) (Or.inl ⟨by rfl, fun w hw => ?_⟩) trivial ?_
                · (clear hw; go_simp)
                simp only [Act.put, List.setIfInBounds_toArray, List.set_cons_succ, List.set_cons_zero]
                refine wpAnyH_take (i := 29) (v := undef) (by simp only [List.getElem?_toArray, List.getElem?_cons_succ, List.getElem?_cons_zero]; rfl) (by kernel_rfl) (by kernel_rfl) (by kernel_rfl) (fun _ _ _ h => h) (Or.inr ⟨by rfl, rfl⟩) trivial ?_
                simp only [Act.put, List.setIfInBounds_toArray, List.set_cons_succ, List.set_cons_zero]
                refine wpAnyH_take (i := 30) (v := undef) (by simp only [List.getElem?_toArray, List.getElem?_cons_succ, List.getElem?_cons_zero]; rfl) (by kernel_rfl) (by kernel_rfl) (by kernel_rfl) (fun _ _ _ h => h) (Or.inr ⟨by rfl, rfl⟩) trivial ?_
                simp only [Act.put, List.setIfInBounds_toArray, List.set_cons_succ, List.set_cons_zero]
                refine wpAnyH_take (i := 31) (v := undef) (by simp only [List.getElem?_toArray, List.getElem?_cons_succ, List.getElem?_cons_zero]; rfl) (by kernel_rfl) (by kernel_rfl) (by kernel_rfl) (fun _ _ _ h => h) (Or.inr ⟨by rfl, rfl⟩) trivial ?_
                simp only [Act.put, List.setIfInBounds_toArray, List.set_cons_succ, List.set_cons_zero]
                refine wpAnyH_take (i := 32) (v := undef) (by simp only [List.getElem?_toArray, List.getElem?_cons_succ, List.getElem?_cons_zero]; rfl) (by kernel_rfl) (by kernel_rfl) (by kernel_rfl) (fun _ _ _ h => h) (Or.inr ⟨by rfl, rfl⟩) trivial ?_
                simp only [Act.put, List.setIfInBounds_toArray, List.set_cons_succ, List.set_cons_zero]
                refine wpAnyH_take (i := 33) (v := undef) (by simp only [List.getElem?_toArray, List.getElem?_cons_succ, List.getElem?_cons_zero]; rfl) (by kernel_rfl) (by kernel_rfl) (by kernel_rfl) (fun _ _ _ h => h) (Or.inr ⟨by rfl, rfl⟩) trivial ?_
                simp only [Act.put, List.setIfInBounds_toArray, List.set_cons_succ, List.set_cons_zero]
                refine wpAnyH_take (i := 34) (v := undef) (by simp only [List.getElem?_toArray, List.getElem?_cons_succ, List.getElem?_cons_zero]; rfl) (by kernel_rfl) (by kernel_rfl) (by kernel_rfl) (fun _ _ _ h => h) (Or.inr ⟨by rfl, rfl⟩) trivial ?_
                simp only [Act.put, List.setIfInBounds_toArray, List.set_cons_succ, List.set_cons_zero]
                refine wpAnyH_take (i := 35) (v := undef) (by simp only [List.getElem?_toArray, List.getElem?_cons_succ, List.getElem?_cons_zero]; rfl) (by kernel_rfl) (by kernel_rfl) (by kernel_rfl) (fun _ _ _ h => h) (Or.inr ⟨by rfl, rfl⟩) trivial ?_
                simp only [Act.put, List.setIfInBounds_toArray, List.set_cons_succ, List.set_cons_zero]
                refine wpAnyH_take (i := 36) (v := undef) (by simp only [List.getElem?_toArray, List.getElem?_cons_succ, List.getElem?_cons_zero]; rfl) (by kernel_rfl) (by kernel_rfl) (by kernel_rfl) (fun _ _ _ h => h) (Or.inr ⟨by rfl, rfl⟩) trivial ?_
                simp only [Act.put, List.setIfInBounds_toArray, List.set_cons_succ, List.set_cons_zero]
                refine wpAnyH_take (i := 37) (v := undef) (by simp only [List.getElem?_toArray, List.getElem?_cons_succ, List.getElem?_cons_zero]; rfl) (by kernel_rfl) (by kernel_rfl) (by kernel_rfl) (fun _ _ _ h => h) (Or.inr ⟨by rfl, rfl⟩) trivial ?_
                simp only [Act.put, List.setIfInBounds_toArray, List.set_cons_succ, List.set_cons_zero]
                refine wpAnyH_take (i := 38) (v := undef) (by simp only [List.getElem?_toArray, List.getElem?_cons_succ, List.getElem?_cons_zero]; rfl) (by kernel_rfl) (by kernel_rfl) (by kernel_rfl) (fun _ _ _ h => h) (Or.inr ⟨by rfl, rfl⟩) trivial ?_
                simp only [Act.put, List.setIfInBounds_toArray, List.set_cons_succ, List.set_cons_zero]
                refine wpAnyH_take (i := 39) (v := undef) (by simp only [List.getElem?_toArray, List.getElem?_cons_succ, List.getElem?_cons_zero]; rfl) (by kernel_rfl) (by kernel_rfl) (by kernel_rfl) (fun _ _ _ h => h) (Or.inr ⟨by rfl, rfl⟩) trivial ?_
                simp only [Act.put, List.setIfInBounds_toArray, List.set_cons_succ, List.set_cons_zero]
                refine wpAnyH_take (i := 40) (v := (.bool false)) (by simp only [List.getElem?_toArray, List.getElem?_cons_succ, List.getElem?_cons_zero]; rfl) (by kernel_rfl) (by kernel_rfl) (by kernel_rfl) (fun _ _ _ h => h) (Or.inl ⟨by rfl, fun w hw => ?_⟩) trivial ?_
                · (clear hw; go_simp)
                simp only [Act.put, List.setIfInBounds_toArray, List.set_cons_succ, List.set_cons_zero]
                refine wpAnyH_take (i := 41) (v := (.bool false)) (by simp only [List.getElem?_toArray, List.getElem?_cons_succ, List.getElem?_cons_zero]; rfl) (by kernel_rfl) (by kernel_rfl) (by kernel_rfl) (fun _ _ _ h => h) (Or.inl ⟨by rfl, fun w hw => ?_⟩) trivial ?_
                · (clear hw; go_simp)
                simp only [Act.put, List.setIfInBounds_toArray, List.set_cons_succ, List.set_cons_zero]
                refine wpAnyH_done (by kernel_rfl) ?_ _
                refine NoPanic.normal ?_
                -- GEN2 END
                have HF : Hid (RoomRel w b N (j + 1) w8) := Lib.hid ⟨fs, ⟨Hin.out.nd, Hin.out.ok, Nat.le_succ_of_le Hin.out.len⟩, H8.up2.drop1.up2.drop1⟩
                clear H8 g3 g4 g5
                go_wp2
                go_roundw
                case rel => exact ⟨j + 1, by omega, by go_num, HF.out⟩
                case measure => simp [intOf]; omega
            · have hH := Lib.hid hR
              clear hR
              have HB : Hid (Below w.heap.size w wr) := Lib.hid (by
                obtain ⟨fs, _, h⟩ := hH.out
                exact h.old)
              go_wp2_with (go_at_call 10; refine (known_any _).mono ?_; rintro e w7 ⟨rfl, hb7⟩; have Hb := Lib.hid (HB.out.trans (hb7.mono HB.out.size)); clear hb7)
              go_ret
              exact ⟨rfl, Hb.out⟩
end Go.Proofs.Ytnaggipeliifgaa.diskRoom
