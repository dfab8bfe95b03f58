/-
  Texts that the proofs of this seat stand on, one behind the other: contracts of functions and plain lemmas. Conditions: those that each theorem states.
-/
import Derived.Test.YtkbfjgmgckbogaaF18
import Derived.Deep.QuietTactic
import Derived.BigQuiet
/-
  Two ledgers of unlike names on one disk (chapter 5), plain.
-/

namespace Go.Proofs.Ytkbfjgmgckbogaa.Ld
open Go.RowKit L Oct Dsk Fr Kp
/-- the ends of names, as the law has them -/
def sTil : ByteArray := ⟨#[45, 105, 109, 103, 126]⟩
def sfx : List ByteArray := [sImg, sLog, sTil]
theorem sh_til (a : ByteArray) : sh (imgN a) = a ++ sTil := by
  unfold sh imgN
  rw [ByteArray.append_assoc]; rfl
/-- would a file of one be a file of the other? -/
def meetsB (a b : ByteArray) : Bool := sfx.any fun x => sfx.any fun y => decide (a ++ x = b ++ y)
structure Unlike (a b : ByteArray) : Prop where
  ii : imgN a ≠ imgN b
  il : imgN a ≠ logN b
  is : imgN a ≠ sh (imgN b)
  li : logN a ≠ imgN b
  ll : logN a ≠ logN b
  ls : logN a ≠ sh (imgN b)
  si : sh (imgN a) ≠ imgN b
  sl : sh (imgN a) ≠ logN b
  ss : sh (imgN a) ≠ sh (imgN b)
theorem unlike_of {a b : ByteArray} (h : meetsB a b = false) : Unlike a b := by
  have h2 : ∀ x ∈ sfx, ∀ y ∈ sfx, a ++ x ≠ b ++ y := by
    intro x hx y hy e
    have : meetsB a b = true := List.any_eq_true.2 ⟨x, hx, List.any_eq_true.2 ⟨y, hy, by simpa using e⟩⟩
    rw [h] at this; cases this
  have m1 : sImg ∈ sfx := by simp [sfx]
  have m2 : sLog ∈ sfx := by simp [sfx]
  have m3 : sTil ∈ sfx := by simp [sfx]
  refine ⟨h2 _ m1 _ m1, h2 _ m1 _ m2, ?_, h2 _ m2 _ m1, h2 _ m2 _ m2, ?_, ?_, ?_, ?_⟩
  · rw [sh_til]; exact h2 _ m1 _ m3
  · rw [sh_til]; exact h2 _ m2 _ m3
  · rw [sh_til]; exact h2 _ m3 _ m1
  · rw [sh_til]; exact h2 _ m3 _ m2
  · rw [sh_til, sh_til]; exact h2 _ m3 _ m3
theorem removes_v : ∀ (l : List ByteArray) (d : D), d.fused = false → (∀ s ∈ l, nameOk s = true) → (removes d l).2 = 0 ∧ (removes d l).1.fused = false ∧ (∀ t ∈ l, fv (removes d l).1 t = none) ∧ ∀ t, t ∉ l → fv (removes d l).1 t = fv d t
  | [], d, hf, _ => ⟨rfl, hf, (fun t ht => by cases ht), fun t _ => rfl⟩
  | s :: r, d, hf, hn => by
    have key : ∀ d1 : D, d1.fused = false → fv d1 s = none → (∀ t, t ≠ s → fv d1 t = fv d t) → (removes d1 r).2 = 0 ∧ (removes d1 r).1.fused = false ∧ (∀ t ∈ s :: r, fv (removes d1 r).1 t = none) ∧ ∀ t, t ∉ s :: r → fv (removes d1 r).1 t = fv d t := by
      intro d1 f1 v1 v2
      obtain ⟨h1, h2, h3, h4⟩ := removes_v r d1 f1 (fun x hx => hn x (List.mem_cons_of_mem _ hx))
      refine ⟨h1, h2, fun t ht => ?_, fun t ht => ?_⟩
      · by_cases hr : t ∈ r
        · exact h3 t hr
        · rcases List.mem_cons.1 ht with rfl | ht
          · rw [h4 t hr]; exact v1
          · exact absurd ht hr
      · rw [List.mem_cons, not_or] at ht
        rw [h4 t ht.2, v2 t ht.1]
    unfold removes
    cases hg : getF d.fs s with
    | none =>
      rw [if_pos (by rfl)]
      exact key d hf (by unfold fv; rw [hg]; rfl) (fun _ _ => rfl)
    | some f =>
      obtain ⟨r1, r2⟩ := remove_v (hn s (List.mem_cons_self ..)) (alive_of hf) (by rw [hg]; rfl : (getF d.fs s).isSome = true)
      rw [if_neg (by simp), if_pos r1]
      exact key _ ((remove_fused _ _).trans hf) (by rw [r2, up_at]) (fun t ht => by rw [r2, up_off _ ht])
/-- the disk behind appends to both -/
structure AS (a b : ByteArray) (i j : Nat) (d : D) : Prop where
  inv : DInv d (i + j)
  fused : d.fused = false
  room : d.room = 65536
  used : d.used ≤ 40 * (i + j)
  lva : LV d a none (List.replicate i [120])
  lvb : LV d b none (List.replicate j [121])
  off : ∀ t, t ≠ logN a → t ≠ logN b → fv d t = none
section
variable {a b : ByteArray} {i j : Nat} {d : D}
theorem as_zero (a b : ByteArray) (hi : DInv d 0) (hf : d.fused = false) (hr : d.room = 65536) (hu : d.used = 0) (h : ∀ t, fv d t = none) : AS a b 0 0 d := ⟨hi, hf, hr, by omega, ⟨h _, h _⟩, ⟨h _, h _⟩, fun t _ _ => h t⟩
theorem as_a (h : AS a b i j d) (hu : Unlike a b) (hp : a.size ≤ 20) (hi : i ≤ 100) (hj : j ≤ 100) :
    ∃ d2, appendL d (lgO a none (List.replicate i [120])) [120] = (d2, lgO a none (List.replicate (i + 1) [120]), i + 1, 0) ∧ AS a b (i + 1) j d2 := by
  obtain ⟨d2, a1, a2, a3, a4, a5, a6, a7⟩ := append_lv (p := [120]) h.inv h.fused hp (by simp) h.lva (by show 0 + _ < _; simp; omega) (by rw [h.room]; have := h.used; simp; omega) (by have := h.inv.len; omega)
  have e : List.replicate i ([120] : List UInt8) ++ [[120]] = List.replicate (i + 1) [120] := by rw [← List.replicate_succ']
  have e2 : baseO none + (List.replicate i ([120] : List UInt8)).length + 1 = i + 1 := by show 0 + _ + 1 = _; simp
  rw [e, e2] at a1
  rw [e] at a6
  simp only [List.length_singleton] at a5
  exact ⟨d2, a1, a2.le (by omega), a3, a4.trans h.room, by have := h.used; omega, a6, lv_off h.lvb (a7 _ hu.li.symm) (a7 _ hu.ll.symm), fun t t1 t2 => (a7 t t1).trans (h.off t t1 t2)⟩
theorem as_b (h : AS a b i j d) (hu : Unlike a b) (hp : b.size ≤ 20) (hi : i ≤ 100) (hj : j ≤ 100) :
    ∃ d2, appendL d (lgO b none (List.replicate j [121])) [121] = (d2, lgO b none (List.replicate (j + 1) [121]), j + 1, 0) ∧ AS a b i (j + 1) d2 := by
  obtain ⟨d2, a1, a2, a3, a4, a5, a6, a7⟩ := append_lv (p := [121]) h.inv h.fused hp (by simp) h.lvb (by show 0 + _ < _; simp; omega) (by rw [h.room]; have := h.used; simp; omega) (by have := h.inv.len; omega)
  have e : List.replicate j ([121] : List UInt8) ++ [[121]] = List.replicate (j + 1) [121] := by rw [← List.replicate_succ']
  have e2 : baseO none + (List.replicate j ([121] : List UInt8)).length + 1 = j + 1 := by show 0 + _ + 1 = _; simp
  rw [e, e2] at a1
  rw [e] at a6
  simp only [List.length_singleton] at a5
  exact ⟨d2, a1, a2.le (by omega), a3, a4.trans h.room, by have := h.used; omega, lv_off h.lva (a7 _ hu.il) (a7 _ hu.ll), a6, fun t t1 t2 => (a7 t t2).trans (h.off t t1 t2)⟩
/-- the image of one, the end of the other, both opened -/
theorem as_end (h : AS a b i j d) (hu : Unlike a b) (hpa : a.size ≤ 20) (hpb : b.size ≤ 20) (hi : i ≤ 100) (hj : j ≤ 100) :
    ∃ g2 d2 d3 d4 d5, writeL d (lgO a none (List.replicate i [120])) i [88] = (d2, g2, 0) ∧ DInv d2 300 ∧ dropL d2 (lgO b none (List.replicate j [121])) = (d3, { lgO b none (List.replicate j [121]) with dead := true }, 0) ∧ DInv d3 300 ∧ d3.room = 65536 ∧
      openL d3 a = (d4, lgO a (some (i, [88])) [], 0) ∧ DInv d4 300 ∧ d4.room = 65536 ∧ openL d4 b = (d5, lgO b none [], 0) := by
  have hrl := recL_length i [88] (by simp)
  have hrr := rec_length (recL i [88])
  simp only [List.length_singleton] at hrl
  have x2 := sh_log a
  obtain ⟨W, iW⟩ := write_v (g := lgO a none (List.replicate i [120])) (i := i) (p := [88]) h.inv (by omega) rfl hpa (by show 0 + (List.replicate i _).length ≤ i; rw [List.length_replicate]; omega) (by omega) (by simp) (by rw [h.room]; have := h.used; omega) (h.off _ x2 hu.sl)
  obtain ⟨y, hy⟩ : ∃ y, y = writeL d (lgO a none (List.replicate i [120])) i [88] := ⟨_, rfl⟩
  rw [← hy] at W iW ⊢
  have h0 := W.ok h.fused
  rcases W.way with ⟨w1, _⟩ | ⟨w1, ⟨w2, _⟩ | ⟨_, _, w3, w4⟩⟩
  · exact absurd h0 w1
  · exact absurd h0 w2
  have f2 : y.1.fused = false := W.fused.trans h.fused
  have lva : LV y.1 a (some (i, [88])) [] := ⟨w1, w4⟩
  have lvb : LV y.1 b none (List.replicate j [121]) := lv_off h.lvb (W.off _ hu.si.symm hu.ii.symm hu.li.symm) (W.off _ hu.sl.symm hu.il.symm hu.ll.symm)
  obtain ⟨n1, n2, n3⟩ := names_ok hpb
  obtain ⟨q1, q2, q3, q4⟩ := removes_v [logN b, imgN b] y.1 f2 (fun s hs => by
    simp only [List.mem_cons, List.not_mem_nil, or_false] at hs
    rcases hs with rfl | rfl
    · exact n2
    · exact n1)
  have i3 : DInv (removes y.1 [logN b, imgN b]).1 (i + j + 1) := removes_inv [logN b, imgN b] iW
  obtain ⟨d3, hd3⟩ : ∃ d3, d3 = (removes y.1 [logN b, imgN b]).1 := ⟨_, rfl⟩
  rw [← hd3] at q2 q3 q4 i3
  have hr3 : d3.room = 65536 := by rw [hd3, removes_room]; exact W.room.trans h.room
  have lva3 : LV d3 a (some (i, [88])) [] := lv_off lva
    (q4 _ (by simp only [List.mem_cons, List.not_mem_nil, or_false, not_or]; exact ⟨hu.il, hu.ii⟩)) (q4 _ (by simp only [List.mem_cons, List.not_mem_nil, or_false, not_or]; exact ⟨hu.ll, hu.li⟩))
  have lvb3 : LV d3 b none [] := ⟨q3 _ (by simp), q3 _ (by simp)⟩
  have hka : LOk (some (i, ([88] : List UInt8))) [] := ⟨by show 1 ≤ _; omega, by show i + 0 ≤ _; omega, fun q hq => by cases hq⟩
  have hkb : LOk none ([] : List (List UInt8)) := ⟨by show 0 ≤ _; omega, by show 0 + 0 ≤ _; omega, fun q hq => by cases hq⟩
  obtain ⟨d4, e1, e2, e3, e4, e5, e6⟩ := open_lv q2 hpa lva3 hka
  have i4 : DInv d4 (i + j + 1) := by
    have := inv_open i3 a
    rw [e1] at this; exact this
  obtain ⟨d5, g1, _⟩ := open_lv e2 hpb (lv_off lvb3 (e6 _ hu.si.symm hu.li.symm) (e6 _ hu.sl.symm hu.ll.symm)) hkb
  refine ⟨y.2.1, y.1, d3, d4, d5, by rw [← h0], iW.le (by omega), ?_, i3.le (by omega), hr3, e1, i4.le (by omega), e3.trans hr3, g1⟩
  unfold dropL
  rw [if_neg (by show ¬ (false = true); decide)]
  show ((removes y.1 [logN b, imgN b]).1, _, (removes y.1 [logN b, imgN b]).2) = _
  rw [q1, ← hd3]
end
end Go.Proofs.Ytkbfjgmgckbogaa.Ld

/-
  'meets' of the laws of chapter 5: would a file of one ledger be a file of the other?
-/



namespace Go.Proofs.Ytkbfjgmgckbogaa.Ld
open Go.RowKit L Oct Dsk Fr Kp
def sfxV : List Value := [.string ⟨#[45, 105, 109, 103]⟩, .string ⟨#[45, 108, 111, 103]⟩, .string ⟨#[45, 105, 109, 103, 126]⟩]
def sx (i : Nat) : ByteArray := sfx.getD i ByteArray.empty
def meetTo (a b : ByteArray) (i k : Nat) : Prop := (∀ x y, x < i → y < 3 → a ++ sx x ≠ b ++ sx y) ∧ ∀ y, y < k → a ++ sx i ≠ b ++ sx y
theorem meets_yes {a b : ByteArray} {i k : Nat} (hi : i < 3) (hk : k < 3) (h : a ++ sx i = b ++ sx k) : meetsB a b = true := by
  have m : ∀ j, j < 3 → sx j ∈ sfx := fun j hj => by
    unfold sx
    rw [List.getD_eq_getElem?_getD, List.getElem?_eq_getElem (by simpa [sfx] using hj)]
    simp
  exact List.any_eq_true.2 ⟨_, m i hi, List.any_eq_true.2 ⟨_, m k hk, by simpa using h⟩⟩
theorem meets_no {a b : ByteArray} (h : ∀ x y, x < 3 → y < 3 → a ++ sx x ≠ b ++ sx y) : meetsB a b = false := by
  have g : ∀ x ∈ sfx, ∃ j, j < 3 ∧ x = sx j := by
    intro x hx
    have : x = sImg ∨ x = sLog ∨ x = sTil := by simpa [sfx] using hx
    rcases this with rfl | rfl | rfl
    · exact ⟨0, by omega, rfl⟩
    · exact ⟨1, by omega, rfl⟩
    · exact ⟨2, by omega, rfl⟩
  cases hm : meetsB a b with
  | false => rfl
  | true =>
    obtain ⟨x, hx, h2⟩ := List.any_eq_true.1 hm
    obtain ⟨y, hy, h3⟩ := List.any_eq_true.1 h2
    obtain ⟨i, hi, rfl⟩ := g x hx
    obtain ⟨k, hk, rfl⟩ := g y hy
    exact absurd (by simpa using h3) (h i k hi hk)
theorem sx_len (j : Nat) : (sx j).size ≤ 5 := by
  unfold sx sfx
  match j with
  | 0 => decide
  | 1 => decide
  | 2 => decide
  | j + 3 => simp [List.getD]
theorem sfxV_get {j : Nat} (hj : j < 3) : sfxV.getD j undef = .string (sx j) := by
  match j, hj with
  | 0, _ => rfl
  | 1, _ => rfl
  | 2, _ => rfl
def MeI (w : World) (q : Nat) (a b : ByteArray) (i : Value) (wr : World) : Prop := ∃ k : Nat, k ≤ 3 ∧ i = .int .i64 k ∧ meetTo a b k 0 ∧ Below w.heap.size w wr ∧ Sl wr 1 (.slice (some ⟨q, 0, none⟩) 3 3) 3 sfxV
def MeK (w : World) (q : Nat) (a b : ByteArray) (i : Nat) (x : Value) (wr : World) : Prop := ∃ k : Nat, k ≤ 3 ∧ x = .int .i64 k ∧ meetTo a b i k ∧ Below w.heap.size w wr ∧ Sl wr 1 (.slice (some ⟨q, 0, none⟩) 3 3) 3 sfxV
set_option maxHeartbeats 800000 in
theorem meets_any (a b : ByteArray) (ha : a.size ≤ 20) (hb : b.size ≤ 20) (w : World) : Calls Try.prog 7 #[.string a, .string b] w fun e w' => e = .returned (.bool (meetsB a b)) ∧ Below w.heap.size w w' := by
  have hsl := sl_built w sfxV 9 (by simp [sfxV, maxLen])
  obtain ⟨w1, hw1⟩ : ∃ w1, w1 = w.alloc (.cells sfxV.toArray 9) := ⟨_, rfl⟩
  have hB : Below w.heap.size w w1 := by rw [hw1]; exact (Below.refl _ _).alloc (Nat.le_refl _) _
  rw [← hw1] at hsl
  have HP : Hid (MeI w w.heap.size a b (.int .i64 0) w1) := Lib.hid ⟨0, by omega, rfl, ⟨fun x y hx => by omega, fun y hy => by omega⟩, hB, hsl⟩
  have HW1 := Lib.hid hw1
  clear hw1 hsl hB
  unfold sfxV at HW1
  go_enter Try.func7, Try.ntmps7
  go_wp2_with fail
  rw [← HW1.out]
  clear HW1
  obtain ⟨q, hq⟩ : ∃ q, q = w.heap.size := ⟨_, rfl⟩
  rw [← hq] at HP ⊢
  clear hq
  go_wp2_with fail
  go_loopw [6] (fun i wr => MeI w q a b i wr) (fun i _ => 3 - (intOf i).toNat)
  case atStart => exact HP.out
  case round =>
    clear HP
    obtain ⟨i, hi, rfl, hm, hB, hsl⟩ := hrel
    have hlen := hsl.run_len Try.underlying50
    have HB := Lib.hid hB
    have HS := Lib.hid hsl
    have HM := Lib.hid hm
    clear hB hsl hm
    by_cases hlt : i < 3
    · go_wp2
      go_loopw [7] (fun x wr => MeK w q a b i x wr) (fun x _ => 3 - (intOf x).toNat)
      case atStart => exact ⟨0, by omega, rfl, HM.out, HB.out, HS.out⟩
      case round =>
        clear HM HB HS hlen
        obtain ⟨k, hk, rfl, hm, hB, hsl⟩ := hrel
        have hlen := hsl.run_len Try.underlying50
        have HB := Lib.hid hB
        have HS := Lib.hid hsl
        have HM2 := Lib.hid hm
        clear hB hsl hm
        by_cases hlt2 : k < 3
        · have hc := sl_lit_cell HS.out i hlt
          rw [sfxV_get hlt] at hc
          have hc2 := sl_lit_cell HS.out k hlt2
          rw [sfxV_get hlt2] at hc2
          have l1 := sx_len i
          have l2 := sx_len k
          have hr1 := fun w' : World => run_string_add_sum (P := Try.prog) (w := w') a (sx i) (by omega)
          have hr2 := fun w' : World => run_string_add_sum (P := Try.prog) (w := w') b (sx k) (by omega)
          by_cases he : a ++ sx i = b ++ sx k
          · have hq : ((a ++ sx i).toList == (b ++ sx k).toList) = true := by rw [he]; simp
            have Hm : Hid (meetsB a b = true) := Lib.hid (meets_yes hlt hlt2 he)
            clear he
            go_wp2_with fail
            go_quiet (fail)
            go_wp2
            go_ret
            rw [Hm.out]
            exact ⟨rfl, below_drewN HB.out _⟩
          · have hq : ((a ++ sx i).toList == (b ++ sx k).toList) = false := by
              rw [beq_eq_false_iff_ne]
              intro h
              apply he
              rw [ByteArray.toList_eq, ByteArray.toList_eq] at h
              exact ByteArray.ext (Array.toList_inj.1 h)
            have Hne := Lib.hid he
            clear he
            go_wp2_with fail
            go_quiet (fail)
            go_wp2
            go_roundw
            case rel => exact ⟨k + 1, by omega, by go_num, ⟨HM2.out.1, fun y hy => by
              by_cases e : y = k
              · subst e; exact Hne.out
              · exact HM2.out.2 y (by omega)⟩, below_drewN HB.out _, HS.out.below' (below_drewN (Below.refl _ _) _)⟩
            case measure => simp [intOf]; omega
        · obtain rfl : k = 3 := by omega
          have Hn : Hid (meetTo a b (i + 1) 0) := Lib.hid ⟨fun x y hx hy => by
            by_cases e : x = i
            · subst e; exact HM2.out.2 y hy
            · exact HM2.out.1 x y (by omega) hy, fun y hy => by omega⟩
          go_wp2
          go_roundw
          case rel => exact ⟨i + 1, by omega, by go_num, Hn.out, HB.out, HS.out⟩
          case measure => simp [intOf]; omega
    · obtain rfl : i = 3 := by omega
      have Hm : Hid (meetsB a b = false) := Lib.hid (meets_no HM.out.1)
      go_wp2
      go_ret
      rw [Hm.out]
      exact ⟨rfl, HB.out⟩
end Go.Proofs.Ytkbfjgmgckbogaa.Ld
