/-
  Open of chapter 5.
-/
import Derived.Test.YtkbfjgmgckbogaaLedLog
namespace Go.Proofs.Ytkbfjgmgckbogaa.Ld
open Go.RowKit L Oct Dsk Fr Kp
theorem sizeFn : (Try.prog.info? 35).map (fun i => i.size) = some 1 := by kernel_rfl
theorem remove_room (d : D) (s : ByteArray) : (d.remove [s]).1.room = d.room := by
  unfold D.remove eachF
  split
  · split
    · rfl
    · show ({ d with fs := _ } : D).done.room = d.room
      rw [done_room]
  · rfl
theorem removes_room : ∀ (l : List ByteArray) (d : D), (removes d l).1.room = d.room
  | [], _ => rfl
  | s :: l, d => by
    unfold removes
    split
    · exact removes_room l d
    · split
      · rw [removes_room l, remove_room]
      · exact remove_room d s
theorem image_ok {d : D} {g : Lg} (hg : GOk g) (h : (image d g).2 = 0) : GOk (image d g).1 ∧ (image d g).1.ents = g.ents ∧ (image d g).1.pre = g.pre := by
  have hl := load_len d (imgN g.pre)
  unfold image at h ⊢
  split at h
  · rename_i h7
    rw [if_pos h7]
    exact ⟨hg, rfl, rfl⟩
  · rename_i h7
    rw [if_neg h7]
    split at h
    · rename_i h0
      rw [if_pos h0]
      dsimp only at h
      split at h
      · rename_i hr
        have hb := recB_len (Kp.load d (imgN g.pre)).1
        exact ⟨⟨hg.pre, hr.2, hg.len, by show (recB _).length ≤ _; omega, hg.ent⟩, rfl, rfl⟩
      · cases h
    · rename_i h0
      exact absurd h h0
section
variable {W0 w : World} {R : Asrt} {b n : Nat} {d : D} {pre : ByteArray}
def RetOpen (W0 : World) (R : Asrt) (b : Nat) (y : D × Lg × Nat) (e : Ending) (w' : World) : Prop :=
  (y.2.2 = 0 ∧ ∃ lb, e = .returned (.tuple #[ptr lb, .int .i64 0]) ∧ Hold W0 ((LedgA lb b y.2.1).sep ((DiskA b y.1).sep R)) w') ∨
  (y.2.2 ≠ 0 ∧ e = .returned (.tuple #[.pointer none, .int .i64 y.2.2]) ∧ Hold W0 ((DiskA b y.1).sep R) w')
def fnsL (lb : Nat) : List Value := [.func (.func 21) #[ptr lb] #[], .func (.func 22) #[ptr lb] #[], .func (.func 23) #[ptr lb] #[]]
def OpRel (W0 : World) (R : Asrt) (b lb : Nat) (d : D) (pre : ByteArray) (sf : Value) (i : Value) (wr : World) : Prop :=
  (i = .int .i64 0 ∧ Hold W0 ((Row 35 1 sf 3 (fnsL lb)).sep ((LedgA lb b (new pre)).sep ((DiskA b d).sep R))) wr) ∨
  (i = .int .i64 1 ∧ (clears d pre).2 = 0 ∧ Hold W0 ((Row 35 1 sf 3 (fnsL lb)).sep ((LedgA lb b (new pre)).sep ((DiskA b (clears d pre).1).sep R))) wr) ∨
  (i = .int .i64 2 ∧ (clears d pre).2 = 0 ∧ (image (clears d pre).1 (new pre)).2 = 0 ∧ Hold W0 ((Row 35 1 sf 3 (fnsL lb)).sep ((LedgA lb b (image (clears d pre).1 (new pre)).1).sep ((DiskA b (clears d pre).1).sep R))) wr) ∨
  (i = .int .i64 3 ∧ (openL d pre).2.2 = 0 ∧ Hold W0 ((Row 35 1 sf 3 (fnsL lb)).sep ((LedgA lb b (openL d pre).2.1).sep ((DiskA b (openL d pre).1).sep R))) wr)
theorem sl_lit_cell {w : World} {q n c : Nat} {xs : List Value} (h : Sl w 1 (.slice (some ⟨q, 0, none⟩) n c) n xs) (j : Nat) (hj : j < n) : w.cell? ⟨q, j, none⟩ = some (xs.getD j undef) := by
  obtain ⟨_, ao, cap, e, _, _, _, hc⟩ := h
  cases e
  have := hc _ rfl j (by omega)
  rwa [Addr.add_lit, Nat.zero_add] at this
theorem new_ok {pre : ByteArray} (hp : pre.size ≤ 20) : GOk (new pre) := ⟨hp, Nat.zero_le _, Nat.zero_le _, Nat.zero_le _, fun x hx => by cases hx⟩
set_option maxRecDepth 100000 in
set_option maxHeartbeats 3200000 in
theorem open_any (H : Hold W0 ((DiskA b d).sep R) w) (hi : DInv d n) (hn : n ≤ 4096) (hr : d.room ≤ 1000000) (hp1 : 1 ≤ pre.size) (hp2 : pre.size ≤ 20) :
    Calls Try.prog 10 #[ptr b, .string pre] w (RetOpen W0 R b (openL d pre)) := by
  have g1 : decide ((pre.size : Int) < 1) = false := by simp; omega
  have g2 : decide ((20 : Int) < (pre.size : Int)) = false := by simp; omega
  have HI := Lib.hid hi
  have HGn := Lib.hid (new_ok hp2)
  have HI1 := Lib.hid (removes_inv [sh (imgN pre)] hi)
  have HU1 : Hid ((clears d pre).1.used ≤ 1000000) := Lib.hid (Nat.le_trans HI1.out.ok.used (by rw [removes_room]; exact hr))
  obtain ⟨lb, hlb⟩ : ∃ lb, lb = w.heap.size := ⟨_, rfl⟩
  have h1 : Hold W0 ((LedgA lb b (new pre)).sep ((DiskA b d).sep R)) (w.alloc (.cells #[ptr b, .string pre, .int .i64 0, .slice none 0 0, .slice none 0 0, .bool false] 55)) := by
    rw [hlb]
    have h := (((H.addBlk (cs := #[ptr b, .string pre, .int .i64 0, .slice none 0 0, .slice none 0 0, .bool false]) (t := 55) (b := w.heap.size) rfl).addInnerNil).addNil 33 1).addNil 5 1
    exact led_shut (g := new pre) (h.perm (by ac_rfl))
  have h2 := (h1.addLits (fnsL lb) 35 (by simp [fnsL, maxLen]) (b := w.heap.size + 1) (by simp))
  have hsl := h2.sl.run_len Try.underlying56
  have HR : Hid (OpRel W0 R b lb d pre (.slice (some ⟨w.heap.size + 1, 0, none⟩) 3 3) (.int .i64 0) _) := Lib.hid (.inl ⟨rfl, h2⟩)
  have hmf : ∀ (fn : Fn) (first cap : Array Value) (w : World), (Instr.makeFunc fn first cap).run Try.prog w = .ok (.func fn first cap) w := fun _ _ _ _ => rfl
  unfold fnsL ptr at HR
  clear H hi h1 h2 hr
  unfold ptr
  go_enter Try.func10, Try.ntmps10
  go_wp2_with fail
  rw [← hlb] at HR ⊢
  clear hlb
  go_loopw [34] (fun i wr => OpRel W0 R b lb d pre (.slice (some ⟨lb + 1, 0, none⟩) 3 3) i wr) (fun i _ => 3 - (intOf i).toNat)
  case atStart => exact HR.out
  case round =>
    clear HR
    rcases hrel with ⟨rfl, h⟩ | ⟨rfl, h1, h⟩ | ⟨rfl, h1, h2, h⟩ | ⟨rfl, h3, h⟩
    · have c0 : wr.cell? ⟨lb + 1, 0, none⟩ = some (.func (.func 21) #[.pointer (some ⟨lb, 0, none⟩)] #[]) := sl_lit_cell h.sl 0 (by omega)
      have HW : Hid (Hold W0 ((LedgA lb b (new pre)).sep ((DiskA b d).sep ((Row 35 1 (.slice (some ⟨lb + 1, 0, none⟩) 3 3) 3 (fnsL lb)).sep R))) wr) := Lib.hid (h.perm (by ac_rfl))
      obtain ⟨m, hm⟩ : ∃ m, m = (clears d pre).2 := ⟨_, rfl⟩
      have Hm := Lib.hid hm
      clear h hm
      go_wp2_with fail
      refine (clears_any HW.out HGn.out HI.out hn).mono ?_
      rintro e w5 ⟨rfl, h5⟩
      have h5 : Hold W0 ((LedgA lb b (new pre)).sep ((DiskA b (clears d pre).1).sep ((Row 35 1 (.slice (some ⟨lb + 1, 0, none⟩) 3 3) 3 (fnsL lb)).sep R))) w5 := h5
      have H5 := Lib.hid h5
      have e5 : (clears d (new pre).pre).2 = m := Hm.out.symm
      dsimp only
      rw [e5]
      clear HW h5 c0 e5
      by_cases hm0 : m = 0
      · subst hm0
        go_wp2
        go_roundw
        case rel => exact .inr (.inl ⟨rfl, Hm.out.symm, H5.out.perm (by ac_rfl)⟩)
        case measure => simp [intOf]
      · have q0 : ((m : Int) == 0) = false := by rw [beq_eq_false_iff_ne]; omega
        have q1 : ((m : Int) != 0) = true := by simp; omega
        have he : Hid (openL d pre = ((clears d pre).1, new pre, m)) := Lib.hid (by rw [openL, if_neg (by rw [← Hm.out]; exact hm0), ← Hm.out])
        have HF : Hid (Hold W0 ((DiskA b (clears d pre).1).sep R) w5) := Lib.hid H5.out.drop1.up2.drop1
        have Hm0 := Lib.hid hm0
        clear hm0
        go_wp2
        go_ret2
        rw [he.out]
        exact .inr ⟨Hm0.out, rfl, HF.out⟩
    · have c0 : wr.cell? ⟨lb + 1, 1, none⟩ = some (.func (.func 22) #[.pointer (some ⟨lb, 0, none⟩)] #[]) := sl_lit_cell h.sl 1 (by omega)
      have HW : Hid (Hold W0 ((LedgA lb b (new pre)).sep ((DiskA b (clears d pre).1).sep ((Row 35 1 (.slice (some ⟨lb + 1, 0, none⟩) 3 3) 3 (fnsL lb)).sep R))) wr) := Lib.hid (h.perm (by ac_rfl))
      have H1h := Lib.hid h1
      obtain ⟨m, hm⟩ : ∃ m, m = (image (clears d pre).1 (new pre)).2 := ⟨_, rfl⟩
      have Hm := Lib.hid hm
      clear h hm h1
      go_wp2_with fail
      refine (image_any HW.out HGn.out HI1.out).mono ?_
      rintro e w5 ⟨rfl, h5⟩
      have h5 : Hold W0 ((LedgA lb b (image (clears d pre).1 (new pre)).1).sep ((DiskA b (clears d pre).1).sep ((Row 35 1 (.slice (some ⟨lb + 1, 0, none⟩) 3 3) 3 (fnsL lb)).sep R))) w5 := h5
      have H5 := Lib.hid h5
      dsimp only
      rw [← Hm.out]
      clear HW h5 c0
      by_cases hm0 : m = 0
      · subst hm0
        go_wp2
        go_roundw
        case rel => exact .inr (.inr (.inl ⟨rfl, H1h.out, Hm.out.symm, H5.out.perm (by ac_rfl)⟩))
        case measure => simp [intOf]
      · have q0 : ((m : Int) == 0) = false := by rw [beq_eq_false_iff_ne]; omega
        have q1 : ((m : Int) != 0) = true := by simp; omega
        have he : Hid (openL d pre = ((clears d pre).1, (image (clears d pre).1 (new pre)).1, m)) := Lib.hid (by rw [openL, if_pos H1h.out, if_neg (by rw [← Hm.out]; exact hm0), ← Hm.out])
        have HF : Hid (Hold W0 ((DiskA b (clears d pre).1).sep R) w5) := Lib.hid H5.out.drop1.up2.drop1
        have Hm0 := Lib.hid hm0
        clear hm0
        go_wp2
        go_ret2
        rw [he.out]
        exact .inr ⟨Hm0.out, rfl, HF.out⟩
    · have c0 : wr.cell? ⟨lb + 1, 2, none⟩ = some (.func (.func 23) #[.pointer (some ⟨lb, 0, none⟩)] #[]) := sl_lit_cell h.sl 2 (by omega)
      have HW : Hid (Hold W0 ((LedgA lb b (image (clears d pre).1 (new pre)).1).sep ((DiskA b (clears d pre).1).sep ((Row 35 1 (.slice (some ⟨lb + 1, 0, none⟩) 3 3) 3 (fnsL lb)).sep R))) wr) := Lib.hid (h.perm (by ac_rfl))
      have Hop : Hid (openL d pre = log (clears d pre).1 (image (clears d pre).1 (new pre)).1) := Lib.hid (by rw [openL, if_pos h1, if_pos h2])
      have Hio := Lib.hid (image_ok HGn.out h2)
      obtain ⟨m, hm⟩ : ∃ m, m = (log (clears d pre).1 (image (clears d pre).1 (new pre)).1).2.2 := ⟨_, rfl⟩
      have Hm := Lib.hid hm
      clear h hm h1 h2
      go_wp2_with fail
      refine (log_any HW.out Hio.out.1 Hio.out.2.1 HI1.out hn HU1.out).mono ?_
      rintro e w5 ⟨rfl, h5⟩
      rw [← Hop.out] at h5
      have H5 := Lib.hid h5
      rw [← Hm.out]
      clear HW h5 c0
      by_cases hm0 : m = 0
      · subst hm0
        go_wp2
        go_roundw
        case rel => exact .inr (.inr (.inr ⟨rfl, by rw [Hop.out]; exact Hm.out.symm, H5.out.perm (by ac_rfl)⟩))
        case measure => simp [intOf]
      · have q0 : ((m : Int) == 0) = false := by rw [beq_eq_false_iff_ne]; omega
        have q1 : ((m : Int) != 0) = true := by simp; omega
        have HF : Hid (Hold W0 ((DiskA b (openL d pre).1).sep R) w5) := Lib.hid H5.out.drop1.up2.drop1
        have Hm0 : Hid ((openL d pre).2.2 ≠ 0) := Lib.hid (by rw [Hop.out, ← Hm.out]; exact hm0)
        have Hm2 : Hid ((openL d pre).2.2 = m) := Lib.hid (by rw [Hop.out, ← Hm.out])
        clear hm0
        go_wp2
        go_ret2
        exact .inr ⟨Hm0.out, by rw [Hm2.out]; rfl, HF.out⟩
    · have H3 := Lib.hid h3
      have HF : Hid (Hold W0 ((LedgA lb b (openL d pre).2.1).sep ((DiskA b (openL d pre).1).sep R)) wr) := Lib.hid h.drop1
      clear h3 h
      go_wp2
      go_ret2
      exact .inl ⟨H3.out, lb, rfl, HF.out⟩
end
end Go.Proofs.Ytkbfjgmgckbogaa.Ld
