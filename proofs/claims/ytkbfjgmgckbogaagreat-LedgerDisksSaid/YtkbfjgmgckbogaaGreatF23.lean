/-
  Texts that the proofs of this seat stand on, one behind the other: contracts of functions and plain lemmas. Conditions: those that each theorem states.
-/
import Derived.Test.YtkbfjgmgckbogaaGreatLedLog
import Derived.Test.YtkbfjgmgckbogaaGreatLedAppend
import Derived.Test.YtkbfjgmgckbogaaGreatF15
/-
  Open of chapter 5.
-/

namespace Go.Proofs.YtkbfjgmgckbogaaGreat.Ld
open Go.RowKit L Oct Dsk Fr Kp
theorem sizeFn : (Tryz.prog.info? 51).map (fun i => i.size) = some 1 := by kernel_rfl
theorem remove_room (d : D) (s : ByteArray) : (d.remove [s]).1.room = d.room := by
  unfold D.remove eachF
  split
  · split
    · rfl
    · show ({ d with fs := _ } : D).done.room = d.room
      rw [done_room]
  · rfl
theorem removes_room : ∀ (l : List ByteArray) (d : D), (removes d l).1.room = d.room
  | [], _ => rfl
  | s :: l, d => by
    unfold removes
    split
    · exact removes_room l d
    · split
      · rw [removes_room l, remove_room]
      · exact remove_room d s
theorem image_ok {d : D} {g : Lg} (hg : GOk g) (h : (image d g).2 = 0) : GOk (image d g).1 ∧ (image d g).1.ents = g.ents ∧ (image d g).1.pre = g.pre := by
  have hl := load_len d (imgN g.pre)
  unfold image at h ⊢
  split at h
  · rename_i h7
    rw [if_pos h7]
    exact ⟨hg, rfl, rfl⟩
  · rename_i h7
    rw [if_neg h7]
    split at h
    · rename_i h0
      rw [if_pos h0]
      dsimp only at h
      split at h
      · rename_i hr
        have hb := recB_len (Kp.load d (imgN g.pre)).1
        exact ⟨⟨hg.pre, hr.2, hg.len, by show (recB _).length ≤ _; omega, hg.ent⟩, rfl, rfl⟩
      · cases h
    · rename_i h0
      exact absurd h h0
section
variable {W0 w : World} {R : Asrt} {b n : Nat} {d : D} {pre : ByteArray}
def RetOpen (W0 : World) (R : Asrt) (b : Nat) (y : D × Lg × Nat) (e : Ending) (w' : World) : Prop :=
  (y.2.2 = 0 ∧ ∃ lb, e = .returned (.tuple #[ptr lb, .int .i64 0]) ∧ Hold W0 ((LedgA lb b y.2.1).sep ((DiskA b y.1).sep R)) w') ∨
  (y.2.2 ≠ 0 ∧ e = .returned (.tuple #[.pointer none, .int .i64 y.2.2]) ∧ Hold W0 ((DiskA b y.1).sep R) w')
def fnsL (lb : Nat) : List Value := [.func (.func 27) #[ptr lb] #[], .func (.func 28) #[ptr lb] #[], .func (.func 29) #[ptr lb] #[]]
def OpRel (W0 : World) (R : Asrt) (b lb : Nat) (d : D) (pre : ByteArray) (sf : Value) (i : Value) (wr : World) : Prop :=
  (i = .int .i64 0 ∧ Hold W0 ((Row 51 1 sf 3 (fnsL lb)).sep ((LedgA lb b (new pre)).sep ((DiskA b d).sep R))) wr) ∨
  (i = .int .i64 1 ∧ (clears d pre).2 = 0 ∧ Hold W0 ((Row 51 1 sf 3 (fnsL lb)).sep ((LedgA lb b (new pre)).sep ((DiskA b (clears d pre).1).sep R))) wr) ∨
  (i = .int .i64 2 ∧ (clears d pre).2 = 0 ∧ (image (clears d pre).1 (new pre)).2 = 0 ∧ Hold W0 ((Row 51 1 sf 3 (fnsL lb)).sep ((LedgA lb b (image (clears d pre).1 (new pre)).1).sep ((DiskA b (clears d pre).1).sep R))) wr) ∨
  (i = .int .i64 3 ∧ (openL d pre).2.2 = 0 ∧ Hold W0 ((Row 51 1 sf 3 (fnsL lb)).sep ((LedgA lb b (openL d pre).2.1).sep ((DiskA b (openL d pre).1).sep R))) wr)
theorem sl_lit_cell {w : World} {q n c : Nat} {xs : List Value} (h : Sl w 1 (.slice (some ⟨q, 0, none⟩) n c) n xs) (j : Nat) (hj : j < n) : w.cell? ⟨q, j, none⟩ = some (xs.getD j undef) := by
  obtain ⟨_, ao, cap, e, _, _, _, hc⟩ := h
  cases e
  have := hc _ rfl j (by omega)
  rwa [Addr.add_lit, Nat.zero_add] at this
theorem new_ok {pre : ByteArray} (hp : pre.size ≤ 20) : GOk (new pre) := ⟨hp, Nat.zero_le _, Nat.zero_le _, Nat.zero_le _, fun x hx => by cases hx⟩
set_option maxRecDepth 100000 in
set_option maxHeartbeats 3200000 in
theorem open_any (H : Hold W0 ((DiskA b d).sep R) w) (hi : DInv d n) (hn : n ≤ 4096) (hr : d.room ≤ 1000000) (hp1 : 1 ≤ pre.size) (hp2 : pre.size ≤ 20) :
    Calls Tryz.prog 18 #[ptr b, .string pre] w (RetOpen W0 R b (openL d pre)) := by
  have g1 : decide ((pre.size : Int) < 1) = false := by simp; omega
  have g2 : decide ((20 : Int) < (pre.size : Int)) = false := by simp; omega
  have HI := Lib.hid hi
  have HGn := Lib.hid (new_ok hp2)
  have HI1 := Lib.hid (removes_inv [sh (imgN pre)] hi)
  have HU1 : Hid ((clears d pre).1.used ≤ 1000000) := Lib.hid (Nat.le_trans HI1.out.ok.used (by rw [removes_room]; exact hr))
  obtain ⟨lb, hlb⟩ : ∃ lb, lb = w.heap.size := ⟨_, rfl⟩
  have h1 : Hold W0 ((LedgA lb b (new pre)).sep ((DiskA b d).sep R)) (w.alloc (.cells #[ptr b, .string pre, .int .i64 0, .slice none 0 0, .slice none 0 0, .bool false] 71)) := by
    rw [hlb]
    have h := (((H.addBlk (cs := #[ptr b, .string pre, .int .i64 0, .slice none 0 0, .slice none 0 0, .bool false]) (t := 71) (b := w.heap.size) rfl).addInnerNil).addNil 22 1).addNil 5 1
    exact led_shut (g := new pre) (h.perm (by ac_rfl))
  have h2 := (h1.addLits (fnsL lb) 51 (by simp [fnsL, maxLen]) (b := w.heap.size + 1) (by simp))
  have hsl := h2.sl.run_len Tryz.underlying72
  have HR : Hid (OpRel W0 R b lb d pre (.slice (some ⟨w.heap.size + 1, 0, none⟩) 3 3) (.int .i64 0) _) := Lib.hid (.inl ⟨rfl, h2⟩)
  have hmf : ∀ (fn : Fn) (first cap : Array Value) (w : World), (Instr.makeFunc fn first cap).run Tryz.prog w = .ok (.func fn first cap) w := fun _ _ _ _ => rfl
  unfold fnsL ptr at HR
  clear H hi h1 h2 hr
  unfold ptr
  go_enter Tryz.func18, Tryz.ntmps18
  go_wp2_with fail
  rw [← hlb] at HR ⊢
  clear hlb
  go_loopw [34] (fun i wr => OpRel W0 R b lb d pre (.slice (some ⟨lb + 1, 0, none⟩) 3 3) i wr) (fun i _ => 3 - (intOf i).toNat)
  case atStart => exact HR.out
  case round =>
    clear HR
    rcases hrel with ⟨rfl, h⟩ | ⟨rfl, h1, h⟩ | ⟨rfl, h1, h2, h⟩ | ⟨rfl, h3, h⟩
    · have c0 : wr.cell? ⟨lb + 1, 0, none⟩ = some (.func (.func 27) #[.pointer (some ⟨lb, 0, none⟩)] #[]) := sl_lit_cell h.sl 0 (by omega)
      have HW : Hid (Hold W0 ((LedgA lb b (new pre)).sep ((DiskA b d).sep ((Row 51 1 (.slice (some ⟨lb + 1, 0, none⟩) 3 3) 3 (fnsL lb)).sep R))) wr) := Lib.hid (h.perm (by ac_rfl))
      obtain ⟨m, hm⟩ : ∃ m, m = (clears d pre).2 := ⟨_, rfl⟩
      have Hm := Lib.hid hm
      clear h hm
      go_wp2_with fail
      refine (clears_any HW.out HGn.out HI.out hn).mono ?_
      rintro e w5 ⟨rfl, h5⟩
      have h5 : Hold W0 ((LedgA lb b (new pre)).sep ((DiskA b (clears d pre).1).sep ((Row 51 1 (.slice (some ⟨lb + 1, 0, none⟩) 3 3) 3 (fnsL lb)).sep R))) w5 := h5
      have H5 := Lib.hid h5
      have e5 : (clears d (new pre).pre).2 = m := Hm.out.symm
      dsimp only
      rw [e5]
      clear HW h5 c0 e5
      by_cases hm0 : m = 0
      · subst hm0
        go_wp2
        go_roundw
        case rel => exact .inr (.inl ⟨rfl, Hm.out.symm, H5.out.perm (by ac_rfl)⟩)
        case measure => simp [intOf]
      · have q0 : ((m : Int) == 0) = false := by rw [beq_eq_false_iff_ne]; omega
        have q1 : ((m : Int) != 0) = true := by simp; omega
        have he : Hid (openL d pre = ((clears d pre).1, new pre, m)) := Lib.hid (by rw [openL, if_neg (by rw [← Hm.out]; exact hm0), ← Hm.out])
        have HF : Hid (Hold W0 ((DiskA b (clears d pre).1).sep R) w5) := Lib.hid H5.out.drop1.up2.drop1
        have Hm0 := Lib.hid hm0
        clear hm0
        go_wp2
        go_ret2
        rw [he.out]
        exact .inr ⟨Hm0.out, rfl, HF.out⟩
    · have c0 : wr.cell? ⟨lb + 1, 1, none⟩ = some (.func (.func 28) #[.pointer (some ⟨lb, 0, none⟩)] #[]) := sl_lit_cell h.sl 1 (by omega)
      have HW : Hid (Hold W0 ((LedgA lb b (new pre)).sep ((DiskA b (clears d pre).1).sep ((Row 51 1 (.slice (some ⟨lb + 1, 0, none⟩) 3 3) 3 (fnsL lb)).sep R))) wr) := Lib.hid (h.perm (by ac_rfl))
      have H1h := Lib.hid h1
      obtain ⟨m, hm⟩ : ∃ m, m = (image (clears d pre).1 (new pre)).2 := ⟨_, rfl⟩
      have Hm := Lib.hid hm
      clear h hm h1
      go_wp2_with fail
      refine (image_any HW.out HGn.out HI1.out).mono ?_
      rintro e w5 ⟨rfl, h5⟩
      have h5 : Hold W0 ((LedgA lb b (image (clears d pre).1 (new pre)).1).sep ((DiskA b (clears d pre).1).sep ((Row 51 1 (.slice (some ⟨lb + 1, 0, none⟩) 3 3) 3 (fnsL lb)).sep R))) w5 := h5
      have H5 := Lib.hid h5
      dsimp only
      rw [← Hm.out]
      clear HW h5 c0
      by_cases hm0 : m = 0
      · subst hm0
        go_wp2
        go_roundw
        case rel => exact .inr (.inr (.inl ⟨rfl, H1h.out, Hm.out.symm, H5.out.perm (by ac_rfl)⟩))
        case measure => simp [intOf]
      · have q0 : ((m : Int) == 0) = false := by rw [beq_eq_false_iff_ne]; omega
        have q1 : ((m : Int) != 0) = true := by simp; omega
        have he : Hid (openL d pre = ((clears d pre).1, (image (clears d pre).1 (new pre)).1, m)) := Lib.hid (by rw [openL, if_pos H1h.out, if_neg (by rw [← Hm.out]; exact hm0), ← Hm.out])
        have HF : Hid (Hold W0 ((DiskA b (clears d pre).1).sep R) w5) := Lib.hid H5.out.drop1.up2.drop1
        have Hm0 := Lib.hid hm0
        clear hm0
        go_wp2
        go_ret2
        rw [he.out]
        exact .inr ⟨Hm0.out, rfl, HF.out⟩
    · have c0 : wr.cell? ⟨lb + 1, 2, none⟩ = some (.func (.func 29) #[.pointer (some ⟨lb, 0, none⟩)] #[]) := sl_lit_cell h.sl 2 (by omega)
      have HW : Hid (Hold W0 ((LedgA lb b (image (clears d pre).1 (new pre)).1).sep ((DiskA b (clears d pre).1).sep ((Row 51 1 (.slice (some ⟨lb + 1, 0, none⟩) 3 3) 3 (fnsL lb)).sep R))) wr) := Lib.hid (h.perm (by ac_rfl))
      have Hop : Hid (openL d pre = log (clears d pre).1 (image (clears d pre).1 (new pre)).1) := Lib.hid (by rw [openL, if_pos h1, if_pos h2])
      have Hio := Lib.hid (image_ok HGn.out h2)
      obtain ⟨m, hm⟩ : ∃ m, m = (log (clears d pre).1 (image (clears d pre).1 (new pre)).1).2.2 := ⟨_, rfl⟩
      have Hm := Lib.hid hm
      clear h hm h1 h2
      go_wp2_with fail
      refine (log_any HW.out Hio.out.1 Hio.out.2.1 HI1.out hn HU1.out).mono ?_
      rintro e w5 ⟨rfl, h5⟩
      rw [← Hop.out] at h5
      have H5 := Lib.hid h5
      rw [← Hm.out]
      clear HW h5 c0
      by_cases hm0 : m = 0
      · subst hm0
        go_wp2
        go_roundw
        case rel => exact .inr (.inr (.inr ⟨rfl, by rw [Hop.out]; exact Hm.out.symm, H5.out.perm (by ac_rfl)⟩))
        case measure => simp [intOf]
      · have q0 : ((m : Int) == 0) = false := by rw [beq_eq_false_iff_ne]; omega
        have q1 : ((m : Int) != 0) = true := by simp; omega
        have HF : Hid (Hold W0 ((DiskA b (openL d pre).1).sep R) w5) := Lib.hid H5.out.drop1.up2.drop1
        have Hm0 : Hid ((openL d pre).2.2 ≠ 0) := Lib.hid (by rw [Hop.out, ← Hm.out]; exact hm0)
        have Hm2 : Hid ((openL d pre).2.2 = m) := Lib.hid (by rw [Hop.out, ← Hm.out])
        clear hm0
        go_wp2
        go_ret2
        exact .inr ⟨Hm0.out, by rw [Hm2.out]; rfl, HF.out⟩
    · have H3 := Lib.hid h3
      have HF : Hid (Hold W0 ((LedgA lb b (openL d pre).2.1).sep ((DiskA b (openL d pre).1).sep R)) wr) := Lib.hid h.drop1
      clear h3 h
      go_wp2
      go_ret2
      exact .inl ⟨H3.out, lb, rfl, HF.out⟩
end
end Go.Proofs.YtkbfjgmgckbogaaGreat.Ld

/-
  What a ledger's log says (chapter 5), plain.
-/



namespace Go.Proofs.YtkbfjgmgckbogaaGreat.Ld
open Go.RowKit L Oct Dsk Fr Kp
theorem recL_enc {n : Nat} (p : List UInt8) (hn : n ≤ 4611686018427387904) : recL n p = enc n ++ row p := by
  unfold recL
  have e1 : encs [(n : Int)] = enc n := by
    unfold encs
    have : clamp (n : Int) = n := by unfold clamp; omega
    simp [this]
  rw [e1]
  simp [rows]
theorem rec_of {n : Nat} {p : List UInt8} (hn : n ≤ 4611686018427387904) (hp : p.length ≤ 4611686018427387904) : recN (recL n p) = n ∧ recB (recL n p) = p ∧ recW (recL n p) = true := by
  have h1 : dec 0 0 (recL n p) = some (n, row p) := by rw [recL_enc p hn, dec_enc n (row p) hn]
  have h2 : decRow (row p) = some (p, []) := by
    have := decRow_row p [] hp
    rwa [List.append_nil] at this
  have h3 : left (dec 0 0 (recL n p)) = row p := by rw [h1]; rfl
  refine ⟨by rw [recN, h1]; rfl, by rw [recB, h3, h2]; rfl, ?_⟩
  rw [recW, h3, h2, h1]; rfl
/-- the records of entries, from a number on -/
def recsL : Nat → List (List UInt8) → List (List UInt8)
  | _, [] => []
  | n, p :: r => recL n p :: recsL (n + 1) r
def logB (n : Nat) (E : List (List UInt8)) : List UInt8 := (recsL n E).flatMap rec_
theorem recsL_snoc : ∀ (E : List (List UInt8)) (n : Nat) (p : List UInt8), recsL n (E ++ [p]) = recsL n E ++ [recL (n + E.length) p]
  | [], n, p => by simp [recsL]
  | q :: E, n, p => by
    simp only [List.cons_append, recsL, recsL_snoc E (n + 1) p, List.length_cons]
    rw [show n + 1 + E.length = n + (E.length + 1) from by omega]
theorem logB_snoc (n : Nat) (E : List (List UInt8)) (p : List UInt8) : logB n (E ++ [p]) = logB n E ++ rec_ (recL (n + E.length) p) := by
  unfold logB
  rw [recsL_snoc, List.flatMap_append]
  simp
/-- all records that go on behind the ledger are taken in -/
theorem takes_run : ∀ (E : List (List UInt8)) (last : Int) (g : Lg), (∀ p ∈ E, p.length ≤ 1000000) → g.last + E.length ≤ 1099511627776 → (0 ≤ last → last = g.last) → takesAll last g (recsL (g.last + 1) E) = (true, { g with ents := g.ents ++ E })
  | [], last, g, _, _, _ => by simp [recsL, takesAll]
  | p :: E, last, g, hE, hb, hl => by
    have hp := hE p (List.mem_cons_self ..)
    simp only [List.length_cons] at hb
    obtain ⟨r1, r2, r3⟩ := rec_of (n := g.last + 1) (p := p) (by omega) (by omega)
    have ht : takes last g (recL (g.last + 1) p) = (true, ((g.last + 1 : Nat) : Int), { g with ents := g.ents ++ [p] }) := by
      unfold takes
      rw [r1, r2, if_pos ⟨r3, by omega, by omega, fun h => by rw [hl h]; omega⟩, if_neg (by unfold Lg.last; omega), if_pos rfl]
    have hl2 : ({ g with ents := g.ents ++ [p] } : Lg).last = g.last + 1 := by show g.base + (g.ents ++ [p]).length = g.base + g.ents.length + 1; simp; omega
    rw [recsL, takesAll, ht, if_pos rfl]
    have ih := takes_run E ((g.last + 1 : Nat) : Int) { g with ents := g.ents ++ [p] } (fun q hq => hE q (List.mem_cons_of_mem _ hq)) (by rw [hl2]; omega) (fun _ => by rw [hl2])
    rw [hl2] at ih
    show takesAll ((g.last + 1 : Nat) : Int) { g with ents := g.ents ++ [p] } (recsL (g.last + 1 + 1) E) = _
    rw [ih]
    simp
/-- a record that is cut short is none -/
theorem unrec_short {p : List UInt8} (hp : p.length ≤ 1048576) {k : Nat} (hk : k < (rec_ p).length) : (unrec ((rec_ p).take k)).2.2 ≠ 0 := by
  intro h
  obtain ⟨a1, _, _, a4, _, _⟩ := unrec_ok _ h
  have hlen : ((rec_ p).take k).length = k := by rw [List.length_take]; omega
  have h0 := unrec_rec p [] hp
  rw [List.append_nil] at h0
  obtain ⟨b1, _, _, _, _, b6⟩ := unrec_ok (rec_ p) (by rw [h0])
  rw [h0] at b6
  have hf : from4 (rec_ p) = p.length := by
    have := congrArg (fun x => x.2.1) b6
    simp only at this
    omega
  rw [hlen] at a1 a4
  rw [from4_take _ _ (by omega) (by omega), hf] at a4
  rw [rec_length] at hk
  omega
theorem scan_short {p : List UInt8} (hp : p.length ≤ 1048576) {k : Nat} (hk : k < (rec_ p).length) : scan ((rec_ p).take k) = ([], 0) := scan_bad _ (unrec_short hp hk)
theorem recsL_len : ∀ (E : List (List UInt8)) (n : Nat), (∀ p ∈ E, p.length ≤ 1000000) → ∀ q ∈ recsL n E, q.length ≤ 1048576
  | [], _, _, q, hq => by cases hq
  | p :: E, n, h, q, hq => by
    rcases List.mem_cons.1 hq with rfl | hq
    · have := recL_length n p (by have := h p (List.mem_cons_self ..); omega)
      have := h p (List.mem_cons_self ..)
      omega
    · exact recsL_len E (n + 1) (fun r hr => h r (List.mem_cons_of_mem _ hr)) q hq
/-- a log, and a record behind it that is cut short, or nothing -/
theorem scan_log {E : List (List UInt8)} {n : Nat} (h : ∀ p ∈ E, p.length ≤ 1000000) {p : List UInt8} (hp : p.length ≤ 1048576) {k : Nat} (hk : k < (rec_ p).length) :
    scan (logB n E ++ (rec_ p).take k) = (recsL n E, (logB n E).length) := by
  have := scan_recs (recsL n E) ((rec_ p).take k) (recsL_len E n h)
  rw [scan_short hp hk] at this
  unfold logB
  rw [this]
  simp
theorem scan_all {E : List (List UInt8)} {n : Nat} (h : ∀ p ∈ E, p.length ≤ 1000000) : scan (logB n E) = (recsL n E, (logB n E).length) := by
  have := scan_recs (recsL n E) [] (recsL_len E n h)
  rw [scan_nil, List.append_nil] at this
  unfold logB
  rw [this]
  simp
end Go.Proofs.YtkbfjgmgckbogaaGreat.Ld
