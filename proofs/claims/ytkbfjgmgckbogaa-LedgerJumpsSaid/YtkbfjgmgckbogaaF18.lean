/-
  Texts that the proofs of this seat stand on, one behind the other: contracts of functions and plain lemmas. Conditions: those that each theorem states.
-/
import Derived.Test.YtkbfjgmgckbogaaLedViewPure
import Derived.Test.YtkbfjgmgckbogaaF17
import Derived.Test.YtkbfjgmgckbogaaF2
import Derived.Lib.SlBytesConst
/-
  A write of an image under a fuse, a crash, and what Open makes of it (chapter 5), plain.
-/

namespace Go.Proofs.Ytkbfjgmgckbogaa.Ld
open Go.RowKit L Oct Dsk Fr Kp
theorem inv_crash {d : D} {n : Nat} (h : DInv d n) (k : Nat) : DInv (d.crash k) n := h.crash k
/-- the disk behind few appends of one byte -/
structure JS (pre : ByteArray) (x : List UInt8) (k : Nat) (d : D) : Prop where
  inv : DInv d (k + 1)
  fused : d.fused = false
  room : d.room = 65536
  used : d.used ≤ 40 * k
  lv : LV d pre none (List.replicate k x)
  off : ∀ t, t ≠ logN pre → fv d t = none
theorem repl_ok (x : List UInt8) (k : Nat) (hx : x.length ≤ 10) (hk : k ≤ 1000) : LOk none (List.replicate k x) := ⟨by show 0 ≤ _; omega, by show 0 + _ ≤ _; simp; omega, fun p hp => by rw [(List.mem_replicate.1 hp).2]; omega⟩
theorem js_zero (pre : ByteArray) (x : List UInt8) {d : D} (hi : DInv d 1) (hf : d.fused = false) (hr : d.room = 65536) (hu : d.used = 0) (h : ∀ t, fv d t = none) : JS pre x 0 d :=
  ⟨hi, hf, hr, by omega, ⟨h _, h _⟩, fun t _ => h t⟩
theorem js_step {pre : ByteArray} {x : List UInt8} {k : Nat} {d : D} (h : JS pre x k d) (hp : pre.size ≤ 20) (hx : x.length ≤ 10) (hk : k ≤ 100) :
    ∃ d2, appendL d (lgO pre none (List.replicate k x)) x = (d2, lgO pre none (List.replicate (k + 1) x), k + 1, 0) ∧ JS pre x (k + 1) d2 := by
  obtain ⟨d2, a1, a2, a3, a4, a5, a6, a7⟩ := append_lv (p := x) h.inv h.fused hp (by omega) h.lv (by show 0 + _ < _; simp; omega) (by rw [h.room]; have := h.used; omega) (by have := h.inv.len; omega)
  have e : List.replicate k x ++ [x] = List.replicate (k + 1) x := by rw [← List.replicate_succ']
  have e2 : baseO none + (List.replicate k x).length + 1 = k + 1 := by show 0 + _ + 1 = _; simp
  rw [e, e2] at a1
  rw [e] at a6
  exact ⟨d2, a1, a2, a3, a4.trans h.room, by have := h.used; omega, a6, fun t ht => (a7 t ht).trans (h.off t ht)⟩
theorem logB_repl_len (x : List UInt8) (hx : x.length ≤ 10) (k : Nat) : (logB 1 (List.replicate k x)).length ≤ 40 * k := by
  have h := end_le (List.replicate k x) (fun p hp => by rw [(List.mem_replicate.1 hp).2]; omega) k (by simp)
  have e : endOf (List.replicate k x) k = (logB 1 (List.replicate k x)).length := by
    unfold endOf
    rw [List.take_of_length_le (by simp)]
  have e2 : ((List.replicate k x).take k).flatten.length = k * x.length := by
    rw [List.take_of_length_le (by simp)]
    simp
  rw [e, e2] at h
  have := Nat.mul_le_mul_left k hx
  omega
/-- what the ledger is behind the write, the crash and the Open -/
structure JOut (pre : ByteArray) (few far : Nat) (e : Nat) (d : D) (o : Option (Nat × List UInt8)) (E : List (List UInt8)) : Prop where
  inv : DInv d 100
  fused : d.fused = false
  room : d.room = 65536
  used : d.used ≤ 10000
  lv : LV d pre o E
  ok : LOk o E
  last : baseO o + E.length = few + far ∨ (baseO o + E.length = few ∧ e ≠ 0)
  len : E.length ≤ 20
theorem fuse_view (d : D) (k : Int) (s : ByteArray) : fv { d with fused := decide (0 ≤ k), left := k.toNat } s = fv d s := rfl
theorem jump_out {pre : ByteArray} {x p : List UInt8} {few far : Nat} {d : D} {f : Int} {k : Nat} (h : JS pre x few d) (hp : pre.size ≤ 20) (hx : x.length ≤ 10) (hpl : p.length ≤ 10) (hf : few ≤ 20) (hfa : far ≤ 1000) (hf2 : f ≤ 20) :
    DInv (writeL { d with fused := decide (0 ≤ f), left := f.toNat } (lgO pre none (List.replicate few x)) (few + far) p).1 100 ∧ (writeL { d with fused := decide (0 ≤ f), left := f.toNat } (lgO pre none (List.replicate few x)) (few + far) p).1.room = 65536 ∧ ∃ d4 o E, openL ((writeL { d with fused := decide (0 ≤ f), left := f.toNat } (lgO pre none (List.replicate few x)) (few + far) p).1.crash k) pre = (d4, lgO pre o E, 0) ∧
      JOut pre few far (writeL { d with fused := decide (0 ≤ f), left := f.toNat } (lgO pre none (List.replicate few x)) (few + far) p).2.2 d4 o E := by
  obtain ⟨d1, hd1⟩ : ∃ d1 : D, d1 = { d with fused := decide (0 ≤ f), left := f.toNat } := ⟨_, rfl⟩
  have i1 : DInv d1 (few + 1) := by rw [hd1]; exact h.inv.fuse f (by omega)
  have v1 : ∀ t, fv d1 t = fv d t := fun t => by rw [hd1]; rfl
  have r1 : d1.room = 65536 := by rw [hd1]; exact h.room
  have u1 : d1.used ≤ 40 * few := by rw [hd1]; exact h.used
  rw [← hd1]
  have x1 := sh_img pre
  have x2 := sh_log pre
  have x3 := img_log pre
  have hrl := recL_length (few + far) p (by omega)
  have hrr := rec_length (recL (few + far) p)
  obtain ⟨W, iW⟩ := write_v (g := lgO pre none (List.replicate few x)) (i := few + far) (p := p) i1 (by omega) rfl hp (by show 0 + (List.replicate few x).length ≤ few + far; rw [List.length_replicate]; omega) (by omega) (by omega) (by rw [r1]; omega) (by rw [v1]; exact h.off _ x2)
  obtain ⟨y, hy⟩ : ∃ y, y = writeL d1 (lgO pre none (List.replicate few x)) (few + far) p := ⟨_, rfl⟩
  rw [← hy] at W iW ⊢
  refine ⟨iW.le (by omega), W.room.trans r1, ?_⟩
  have hoff : ∀ t, t ≠ sh (imgN pre) → t ≠ imgN pre → t ≠ logN pre → fv (y.1.crash k) t = none := fun t a b c => by
    rw [crash_v, W.off t a b c, v1, h.off t c]; rfl
  have hlogd : fv d1 (logN pre) = logV 1 (List.replicate few x) := by rw [v1]; exact h.lv.log
  have himgd : fv d1 (imgN pre) = none := by rw [v1]; exact h.off _ x3
  have cimg : ∀ o, fv y.1 (imgN pre) = imgV o → fv (y.1.crash k) (imgN pre) = imgV o := fun o he => by rw [crash_at k (by rw [he]; exact img_synced o)]; exact he
  have clog : ∀ m E, fv y.1 (logN pre) = logV m E → fv (y.1.crash k) (logN pre) = logV m E := fun m E he => by rw [crash_at k (by rw [he]; exact log_synced m E)]; exact he
  have hok1 := repl_ok x few hx (by omega)
  have hok2 : LOk (some (few + far, p)) [] := ⟨by show p.length ≤ _; omega, by show few + far + 0 ≤ _; omega, fun q hq => by cases hq⟩
  have icr : DInv (y.1.crash k) (few + 1 + 1) := inv_crash iW k
  have rcr : (y.1.crash k).room = 65536 := W.room.trans r1
  have lrep := logB_repl_len x hx few
  have fin : ∀ (o : Option (Nat × List UInt8)) (E : List (List UInt8)), LOk o E → E.length ≤ 20 → (baseO o + E.length = few + far ∨ (baseO o + E.length = few ∧ y.2.2 ≠ 0)) → vlen (imgV o) ≤ 1000 → vlen (logV (baseO o + 1) E) ≤ 1000 →
      (∃ d2, openL (y.1.crash k) pre = (d2, lgO pre o E, 0) ∧ d2.fused = false ∧ d2.room = (y.1.crash k).room ∧ LV d2 pre o E ∧ fv d2 (sh (imgN pre)) = none ∧ ∀ t, t ≠ sh (imgN pre) → t ≠ logN pre → fv d2 t = fv (y.1.crash k) t) →
      ∃ d4 o E, openL (y.1.crash k) pre = (d4, lgO pre o E, 0) ∧ JOut pre few far y.2.2 d4 o E := by
    intro o E hk hE hl hvi hvl ⟨d2, e1, e2, e3, e4, e5, e6⟩
    have i2 : DInv d2 (few + 1 + 1) := by
      have := inv_open icr pre
      rw [e1] at this; exact this
    have hu := used_fv i2.nd [sh (imgN pre), imgN pre, logN pre] (fun t ht => by
      simp only [List.mem_cons, List.not_mem_nil, or_false, not_or] at ht
      rw [e6 t ht.1 ht.2.2]; exact hoff t ht.1 ht.2.1 ht.2.2)
    simp only [List.map_cons, List.map_nil, List.sum_cons, List.sum_nil] at hu
    rw [e5, e4.img, e4.log] at hu
    have : vlen none = 0 := rfl
    exact ⟨d2, o, E, e1, i2.le (by omega), e2, e3.trans rcr, by omega, e4, hk, hl, hE⟩
  have hvl1 : vlen (logV 1 (List.replicate few x)) ≤ 1000 := by
    unfold logV
    split
    · show (0 : Nat) ≤ _; omega
    · show (logB 1 (List.replicate few x)).length ≤ _; omega
  rcases W.way with ⟨w1, w2, w3⟩ | ⟨w1, ⟨w2, w3⟩ | ⟨w2, _, w3, w4⟩⟩
  · have a1 : fv y.1 (imgN pre) = imgV none := w2.trans himgd
    have a2 : fv y.1 (logN pre) = logV 1 (List.replicate few x) := w3.trans hlogd
    exact fin none (List.replicate few x) hok1 (by simp; omega) (.inr ⟨by show 0 + _ = _; simp, w1⟩) (by show (0 : Nat) ≤ _; omega) hvl1 (open_lv rfl hp ⟨cimg none a1, clog 1 _ a2⟩ hok1)
  · have a1 : fv y.1 (imgN pre) = imgV (some (few + far, p)) := w1
    have a2 : fv y.1 (logN pre) = logV 1 (List.replicate few x) := w3.trans hlogd
    exact fin (some (few + far, p)) [] hok2 (by simp) (.inl rfl) (by show (rec_ (recL (few + far) p)).length ≤ _; omega) (by show (0 : Nat) ≤ _; omega) (open_old rfl hp (cimg _ a1) hok2 hok1.ent (clog 1 _ a2) (by show _ ≤ few + far; simp))
  · have a1 : fv y.1 (imgN pre) = imgV (some (few + far, p)) := w1
    have a2 : fv y.1 (logN pre) = logV 1 [] := w4
    exact fin (some (few + far, p)) [] hok2 (by simp) (.inl rfl) (by show (rec_ (recL (few + far) p)).length ≤ _; omega) (by show (0 : Nat) ≤ _; omega) (open_old rfl hp (cimg _ a1) hok2 (fun q hq => by cases hq) (clog 1 _ a2) (Nat.zero_le _))
/-- an append, a crash, and the Open behind them -/
theorem jump_next {pre : ByteArray} {few far e : Nat} {d : D} {o : Option (Nat × List UInt8)} {E : List (List UInt8)} {z : List UInt8} (h : JOut pre few far e d o E) (hp : pre.size ≤ 20) (hf : few ≤ 20) (hfa : far ≤ 1000) (hz : z.length ≤ 10) :
    ∃ d2 d3, appendL d (lgO pre o E) z = (d2, lgO pre o (E ++ [z]), baseO o + E.length + 1, 0) ∧ DInv d2 101 ∧ d2.room = 65536 ∧ openL (d2.crash 0) pre = (d3, lgO pre o (E ++ [z]), 0) := by
  have hb : baseO o + E.length ≤ 1100 := by rcases h.last with h | h <;> omega
  obtain ⟨d2, a1, a2, a3, a4, a5, a6, a7⟩ := append_lv (p := z) h.inv h.fused hp (by omega) h.lv (by omega) (by rw [h.room]; have := h.used; omega) (by have := h.inv.len; omega)
  have hk : LOk o (E ++ [z]) := ⟨h.ok.data, by simp; omega, fun q hq => by
    rcases List.mem_append.1 hq with hq | hq
    · exact h.ok.ent q hq
    · rw [List.mem_singleton.1 hq]; omega⟩
  obtain ⟨d3, e1, _⟩ := open_lv (d := d2.crash 0) rfl hp (crash_lv 0 a6) hk
  exact ⟨d2, d3, a1, a2, a4.trans h.room, e1⟩
end Go.Proofs.Ytkbfjgmgckbogaa.Ld

/-
  LedgerJumps: an image of a number far above the last one leaves no entry, and the next one stands behind it, also behind a crash anywhere between.
-/




namespace Go.Proofs.Ytkbfjgmgckbogaa.ledgerJumps
open Go.RowKit L Oct Dsk Fr Kp Ld
def JRel (W0 : World) (pre : ByteArray) (x : List UInt8) (lb b few : Nat) (i : Value) (wr : World) : Prop := ∃ (k : Nat) (d : D), k ≤ few ∧ i = .int .i64 k ∧ JS pre x k d ∧
  Hold W0 ((LedgA lb b (lgO pre none (List.replicate k x))).sep ((DiskA b d).sep Asrt.emp)) wr
theorem files_ok {d : D} {n : Nat} (h : DInv d n) : ∀ f ∈ d.fs, f.lasts ≤ f.data.length ∧ f.data.length ≤ 4611686018427387904 := fun f hf => ⟨h.ok.lasts f hf, by have := h.fit f hf; omega⟩
set_option maxRecDepth 1000000 in
set_option maxHeartbeats 3200000 in
theorem walk {w : World} (a0 : Int) (_w0 : (Lit.int .i64 a0).wf = true) (a1 : Int) (_w1 : (Lit.int .i64 a1).wf = true) (a2 : Int) (_w2 : (Lit.int .i64 a2).wf = true) (a3 : Int) (w3 : (Lit.int .i64 a3).wf = true) :
    Calls Try.prog 4 #[.int .i64 a0, .int .i64 a1, .int .i64 a2, .int .i64 a3] w fun e w' => e = .returned (.bool true) ∧ Below w.heap.size w w' := by
  by_cases hq : (0 ≤ a0 ∧ a0 ≤ 20) ∧ (0 ≤ a1 ∧ a1 ≤ 1000) ∧ (0 ≤ a2 ∧ a2 ≤ 20)
  case neg =>
    have hq2 : a0 < 0 ∨ (0 ≤ a0 ∧ 20 < a0) ∨ (0 ≤ a0 ∧ a0 ≤ 20 ∧ a1 < 0) ∨ (0 ≤ a0 ∧ a0 ≤ 20 ∧ 0 ≤ a1 ∧ 1000 < a1) ∨ (0 ≤ a0 ∧ a0 ≤ 20 ∧ 0 ≤ a1 ∧ a1 ≤ 1000 ∧ a2 < 0) ∨ (0 ≤ a0 ∧ a0 ≤ 20 ∧ 0 ≤ a1 ∧ a1 ≤ 1000 ∧ 0 ≤ a2 ∧ 20 < a2) := by omega
    clear hq w3
    rcases hq2 with h1 | ⟨h1, h2⟩ | ⟨h1, h2, h3⟩ | ⟨h1, h2, h3, h4⟩ | ⟨h1, h2, h3, h4, h5⟩ | ⟨h1, h2, h3, h4, h5, h6⟩
    all_goals
      go_enter Try.func4, Try.ntmps4
      go_wp2_with fail
      refine (known_any _).mono ?_
      rintro e w1 ⟨rfl, hb⟩
      have HF := Lib.hid hb
      clear hb
      go_wp2
      go_ret
      exact ⟨rfl, HF.out⟩
  case pos =>
  obtain ⟨few, rfl⟩ : ∃ k : Nat, a0 = k := ⟨a0.toNat, by omega⟩
  obtain ⟨far, rfl⟩ : ∃ k : Nat, a1 = k := ⟨a1.toNat, by omega⟩
  obtain ⟨f, rfl⟩ : ∃ k : Nat, a2 = k := ⟨a2.toNat, by omega⟩
  obtain ⟨⟨q1, q2⟩, ⟨q3, q4⟩, q5, q6⟩ := hq
  have HA3 : Hid (a3 ≤ 9223372036854775807) := Lib.hid (i64_lit w3).2
  clear w3
  have kc := fun (w : World) (C : Array Value) (n c : Nat) => Lib.run_convert_bytes_const (P := Try.prog) w 33 5 C n c Try.underlying33 Try.underlying5
  have hfew : few ≤ 20 := by omega
  have hfar : far ≤ 1000 := by omega
  have hf : f ≤ 20 := by omega
  go_enter Try.func4, Try.ntmps4
  go_wp2_with fail
  refine (Dsk.new_ok (Hold.start w) 65536 (by omega)).mono ?_
  rintro e w1 ⟨_, rfl, b, rfl, h1⟩
  unfold ptr
  have H1 : Hid (Hold w ((DiskA b (kd [])).sep Asrt.emp) w1) := Lib.hid h1
  clear h1
  go_wp2_with fail
  refine (open_any H1.out kd_inv0 (by omega) (by show 65536 ≤ 1000000; omega) (pre := sAx) (by decide) (by decide)).mono ?_
  intro e w2 h2
  unfold RetOpen at h2
  rw [open_empty] at h2
  rcases h2 with ⟨_, lb, rfl, h2⟩ | ⟨h2, _⟩
  case inr => exact absurd rfl h2
  unfold ptr
  have HP : Hid (JRel w sAx [120] lb b few (.int .i64 0) w2) := Lib.hid ⟨0, kd [], Nat.zero_le _, rfl, js_zero _ _ (kd_inv0.le (by omega)) rfl rfl rfl (fun t => rfl), h2⟩
  clear h2 H1
  go_wp2_with fail
  go_loopw [13] (fun i wr => JRel w sAx [120] lb b few i wr) (fun i _ => few - (intOf i).toNat)
  case atStart => exact HP.out
  case round =>
    clear HP
    obtain ⟨k, d, hk, rfl, hjs, hH⟩ := hrel
    have HJ := Lib.hid hjs
    by_cases hlt : k < few
    · obtain ⟨d2, e2, js2⟩ := js_step hjs (by decide) (by simp) (by omega)
      have HE2 := Lib.hid e2
      have HJ2 := Lib.hid js2
      have H3 := Lib.hid (const_in hH (u8s [120]) 5 1 (by simp [u8s, maxLen]) rfl)
      clear e2 js2 hjs hH
      go_wp2_with fail
      refine (appendL_any H3.out (lgO_ok (by decide) (repl_ok [120] k (by simp) (by omega)) (by simp; omega)) (by show (List.replicate k _).length + 1 ≤ _; simp; omega) HJ.out.inv (.slice (some ⟨wr.heap.size, 0, none⟩) 1 1) [120] Reads.ro (by decide)).mono ?_
      rintro e w3 ⟨rfl, h3⟩
      rw [HE2.out] at h3 ⊢
      have H4 := Lib.hid h3.up3.drop1
      clear h3 H3
      go_wp2
      go_roundw
      case rel => exact ⟨k + 1, d2, by omega, by go_num, HJ2.out, H4.out⟩
      case measure => simp [intOf]; omega
    · obtain rfl : k = few := by omega
      have H3 := Lib.hid hH.up2
      have hjo := fun c : Nat => jump_out (p := [121]) (far := far) (f := (f : Int)) (k := c) hjs (by decide) (by simp) (by simp) hfew hfar (by omega)
      have HJO := Lib.hid hjo
      clear hjs hH hjo hlt
      go_wp2_with fail
      refine (fuse_any H3.out (f : Int)).mono ?_
      rintro e w4 ⟨rfl, h4⟩
      obtain ⟨d1, hd1⟩ : ∃ d1 : D, d1 = { d with fused := decide (0 ≤ (f : Int)), left := (f : Int).toNat } := ⟨_, rfl⟩
      have hjo := HJO.out
      rw [← hd1] at hjo h4
      have hi1 : DInv d1 (k + 1) := by rw [hd1]; exact HJ.out.inv.fuse f (by omega)
      have HI1 := Lib.hid hi1
      have H5 := Lib.hid (const_in h4.up2 (u8s [121]) 5 1 (by simp [u8s, maxLen]) rfl)
      obtain ⟨y, hy⟩ : ∃ y, y = writeL d1 (lgO sAx none (List.replicate k [120])) (k + far) [121] := ⟨_, rfl⟩
      rw [← hy] at hjo
      have hwr := writeL_any H5.out (lgO_ok (by decide) (repl_ok [120] k (by simp) (by omega)) (by simp; omega)) hi1 (by omega) (k + far) (by omega) (.slice (some ⟨w4.heap.size, 0, none⟩) 1 1) [121] Reads.ro (by decide)
      rw [← hy, show (((k + far : Nat)) : Int) = (k : Int) + (far : Int) from by omega] at hwr
      have HWr := Lib.hid hwr
      have HJO := Lib.hid hjo
      clear hjo hwr hy hd1 hi1 h4 H3
      go_wp2_with fail
      refine HWr.out.mono ?_
      rintro e w6 ⟨rfl, h6⟩
      have H6 := Lib.hid (h6.up3.drop1.up2)
      obtain ⟨iy, ry, d4, o, E, o1, o2⟩ := HJO.out a3.toNat
      obtain ⟨d5, d6, p1, p2, p3, p4⟩ := jump_next (z := [122]) o2 (by decide) hfew hfar (by simp)
      obtain ⟨L, hL⟩ : ∃ L, L = baseO o + E.length := ⟨_, rfl⟩
      rw [← hL] at p1
      obtain ⟨m, hm⟩ : ∃ m, m = y.2.2 := ⟨_, rfl⟩
      rw [← hm]
      have hLc : L = k + far ∨ (L = k ∧ m ≠ 0) := by rw [hL, hm]; exact o2.last
      have HO2 := Lib.hid o2
      have HL : Hid ((lgO sAx o E).last = L) := Lib.hid hL.symm
      have HL2 : Hid ((lgO sAx o (E ++ [[122]])).last = L + 1) := Lib.hid (by rw [hL]; show baseO o + (E ++ [[122]]).length = _; simp; omega)
      have HG : Hid (GOk (lgO sAx o E)) := Lib.hid (lgO_ok (by decide) o2.ok (by have := o2.len; omega))
      have HG2 : Hid (GOk (lgO sAx o (E ++ [[122]]))) := Lib.hid ⟨by show sAx.size ≤ 20; decide, HG.out.base, by show (E ++ [[122]]).length ≤ _; have := o2.len; simp; omega, HG.out.data, fun q hq => by
        rcases List.mem_append.1 hq with hq | hq
        · exact HG.out.ent q hq
        · rw [List.mem_singleton.1 hq]; decide⟩
      have HLen : Hid (E.length ≤ 20) := Lib.hid o2.len
      have O1 := Lib.hid o1
      have P1 := Lib.hid p1
      have P2 := Lib.hid p2
      have P3 := Lib.hid p3
      have P4 := Lib.hid p4
      have IY := Lib.hid iy
      have RY := Lib.hid ry
      clear h6 hL hm o1 o2 p1 p2 p3 p4 iy ry HJO H5 HWr
      go_wp2_with fail
      refine (crash_any H6.out a3 HA3.out (files_ok IY.out)).mono ?_
      rintro e w7 ⟨rfl, h7⟩
      have H7 := Lib.hid h7
      have HIc := Lib.hid (IY.out.crash a3.toNat)
      clear h7 H6
      go_wp2_with fail
      refine (open_any H7.out HIc.out (by omega) (by show y.1.room ≤ _; rw [RY.out]; omega) (pre := sAx) (by decide) (by decide)).mono ?_
      intro e w8 h8
      unfold RetOpen at h8
      rw [O1.out] at h8
      rcases h8 with ⟨_, lb2, rfl, h8⟩ | ⟨h8, _⟩
      case inr => exact absurd rfl h8
      unfold ptr
      have H8 := Lib.hid h8.up3.drop1
      have HLast : Hid (∀ w', Below w8.heap.size w8 w' → Calls Try.prog 14 #[.pointer (some ⟨lb2, 0, none⟩)] w' (RetDrew w' (.int .i64 (L : Int)))) := Lib.hid fun w' hw' => by
        have := last_any (H8.out.keeps hw') HG.out
        rw [HL.out] at this; exact this
      have kc2 : ∀ (N : Nat) (C : Array Value) (n c : Nat), (convert 33 33 (.slice (some ⟨w8.heap.size, 0, none⟩) n c)).run Try.prog ((w8.drewN N).alloc (.cells C 5)) = .ok (.slice (some ⟨w8.heap.size, 0, none⟩) n c) ((w8.drewN N).alloc (.cells C 5 (C.size, C.size + 1))) := fun N C n c => kc (w8.drewN N) C n c
      have HApp : Hid (∀ w', Below w8.heap.size w8 w' → w'.heap.size = w8.heap.size → Calls Try.prog 11 #[ptr lb2, .slice (some ⟨w8.heap.size, 0, none⟩) 1 1] (w'.alloc (.cells (u8s [122]).toArray 5 (1, 1 + 1))) (RetApp2 w ((Ro 1 (.slice (some ⟨w8.heap.size, 0, none⟩) 1 1) 1 (u8s [122])).sep Asrt.emp) lb2 b (appendL d4 (lgO sAx o E) [122]))) := Lib.hid fun w' hw' hs =>
        appendL_any (const_in (H8.out.keeps hw') (u8s [122]) 5 1 (by simp [u8s, maxLen]) hs) HG.out (by have := HLen.out; show E.length + 1 ≤ _; omega) HO2.out.inv (.slice (some ⟨w8.heap.size, 0, none⟩) 1 1) [122] Reads.ro (by decide)
      clear h8 H7
      have hL1 : L ≤ 1100 := by omega
      have hcase : (m = 0 ∧ L = k + far ∧ far = 0) ∨ (m = 0 ∧ L = k + far ∧ far ≠ 0) ∨ (m ≠ 0 ∧ L = k) ∨ (m ≠ 0 ∧ L = k + far ∧ far ≠ 0) := by omega
      clear hLc
      rcases hcase with ⟨hm0, hLk, hf0⟩ | ⟨hm0, hLk, hf0⟩ | ⟨hm0, hLk⟩ | ⟨hm0, hLk, hf0⟩
      case' inl =>
        have t1 : ((m : Int) == 0) = true := by simp; omega
        have t2 : ((L : Int) != (k : Int) + (far : Int)) = false := by simp; omega
        have t3 : ((L : Int) != (k : Int)) = false := by simp; omega
      case' inr.inl =>
        have t1 : ((m : Int) == 0) = true := by simp; omega
        have t2 : ((L : Int) != (k : Int) + (far : Int)) = false := by simp; omega
        have t3 : ((L : Int) != (k : Int)) = true := by simp; omega
      case' inr.inr.inl =>
        have t1 : ((m : Int) == 0) = false := by simp; omega
        have t2 : ((L : Int) != (k : Int)) = false := by simp; omega
      case' inr.inr.inr =>
        have t1 : ((m : Int) == 0) = false := by simp; omega
        have t2 : ((L : Int) != (k : Int) + (far : Int)) = false := by simp; omega
        have t3 : ((L : Int) != (k : Int)) = true := by simp; omega
      all_goals
        have eL : (((L + 1 : Nat)) : Int) = (L : Int) + 1 := by omega
        have EL := Lib.hid eL
        clear hm0 hLk eL
        try clear hf0
        go_wp2_with (go_at_call 14; refine (HLast.out _ (by repeat (first | exact Below.refl _ _ | refine below_drewN ?_ _))).mono ?_; rintro e w9 ⟨rfl, n9, rfl⟩)
        refine (HApp.out _ ?_ ?_).mono ?_
        · repeat (first | exact Below.refl _ _ | refine below_drewN ?_ _)
        · rfl
        rintro e w10 ⟨rfl, h10⟩
        rw [P1.out] at h10 ⊢
        have H11 := Lib.hid h10.up3.drop1.up2
        clear h10
        dsimp only
        rw [EL.out]
        go_wp2_with fail
        refine (crash_any H11.out 0 (by omega) (files_ok P2.out)).mono ?_
        rintro e w12 ⟨rfl, h12⟩
        have H12 := Lib.hid h12
        clear h12 H11
        go_wp2_with fail
        refine (open_any H12.out (P2.out.crash _) (by omega) (by show d5.room ≤ _; rw [P3.out]; omega) (pre := sAx) (by decide) (by decide)).mono ?_
        intro e w13 h13
        unfold RetOpen at h13
        rw [show d5.crash (Int.toNat 0) = d5.crash 0 from rfl, P4.out] at h13
        rcases h13 with ⟨_, lb3, rfl, h13⟩ | ⟨h13, _⟩
        case inr => exact absurd rfl h13
        unfold ptr
        have H13 := Lib.hid h13
        clear h13 H12
        go_wp2_with fail
        refine (last_any H13.out HG2.out).mono ?_
        rintro e w14 ⟨rfl, n14, rfl⟩
        rw [HL2.out, EL.out]
        go_wp2_with fail
        refine (known_any _).mono ?_
        rintro e w15 ⟨rfl, hb15⟩
        have HF : Hid (Below w.heap.size w w15) := Lib.hid (H13.out.old.trans ((below_drewN (Below.refl _ _) n14).trans hb15 |>.mono H13.out.old.size))
        clear hb15 H13
        go_wp2
        go_ret
        exact ⟨rfl, HF.out⟩
end Go.Proofs.Ytkbfjgmgckbogaa.ledgerJumps
