/-
  Texts that the proofs of this seat stand on, one behind the other: contracts of functions and plain lemmas. Conditions: those that each theorem states.
-/
import Derived.Test.YtkbfjgmgckbogaaF9
import Derived.Test.YtkbfjgmgckbogaaF11
import Derived.Test.YtkbfjgmgckbogaaF8
import Derived.Test.YtkbfjgmgckbogaaOctetNum
import Derived.Test.YtkbfjgmgckbogaaOctetWr
import Derived.Test.YtkbfjgmgckbogaaF3
/-
  slices.Contains over texts.
-/

namespace Go.Proofs.Ytkbfjgmgckbogaa.Kp
open Go.RowKit L Oct Dsk Fr
def hasN (l : List ByteArray) (s : ByteArray) : Bool := l.any fun x => decide (x = s)
theorem hasN_yes {l : List ByteArray} {s : ByteArray} (h : s ∈ l) : hasN l s = true := List.any_eq_true.2 ⟨s, h, by simp⟩
theorem hasN_no {l : List ByteArray} {s : ByteArray} (h : s ∉ l) : hasN l s = false := by
  rw [hasN, List.any_eq_false]
  intro x hx e
  exact h (by have : x = s := by simpa using e
              rw [← this]; exact hx)
def RetIx (l : List ByteArray) (s : ByteArray) (w : World) (e : Ending) (w' : World) : Prop := ∃ z : Int, e = .returned (.int .i64 z) ∧ ((0 ≤ z ∧ s ∈ l) ∨ (z < 0 ∧ s ∉ l)) ∧ Below w.heap.size w w'
theorem str_eq {a b : ByteArray} (h : (a.toList == b.toList) = true) : a = b := by
  rw [beq_iff_eq, ByteArray.toList_eq, ByteArray.toList_eq] at h
  exact ByteArray.ext (Array.toList_inj.1 h)
set_option maxHeartbeats 800000 in
theorem index_any (v : Value) (l : List ByteArray) (s : ByteArray) (w : World) (hv : Sl w 1 v l.length (strs l)) : Calls Try.prog 66 #[v, .string s] w (RetIx l s w) := by
  have hlen := hv.run_len Try.underlying50
  have hmx := hv.le'
  go_enter Try.func66, Try.ntmps66
  go_wp2
  go_loop [8] (fun i => ∃ k : Nat, k ≤ l.length ∧ i = .int .i64 k ∧ ∀ j, j < k → l.getD j ByteArray.empty ≠ s) (fun i => l.length - (intOf i).toNat)
  case atStart => exact ⟨0, Nat.zero_le _, rfl, fun j hj => by omega⟩
  case round =>
    obtain ⟨k, hk, rfl, hno⟩ := hrel
    have Hno := Lib.hid hno
    clear hno
    by_cases hlt : k < l.length
    · obtain ⟨A, u, hA, hblk, hc, Hu⟩ := hv.at1 (P := Try.prog) Try.underlying50 Try.size9 k hlt
      rw [Hu.out, strs_get l k hlt] at hc
      obtain ⟨x, hx⟩ : ∃ x, x = l.getD k ByteArray.empty := ⟨_, rfl⟩
      rw [← hx] at hc
      have Hx := Lib.hid hx
      clear hx hblk Hu
      cases hq : (s.toList == x.toList) with
      | true =>
        have hm : Hid (s ∈ l) := Lib.hid (by rw [str_eq hq, Hx.out]; simp [List.getD, hlt])
        go_wp2
        go_ret
        exact ⟨k, rfl, .inl ⟨by omega, hm.out⟩, Below.refl _ _⟩
      | false =>
        have hn2 : Hid (∀ j, j < k + 1 → l.getD j ByteArray.empty ≠ s) := Lib.hid fun j hj => by
          by_cases e : j = k
          · subst e; rw [← Hx.out]; rintro rfl; simp at hq
          · exact Hno.out j (by omega)
        go_wp2
        go_round
        case rel => exact ⟨k + 1, by omega, by go_num, hn2.out⟩
        case measure => simp [intOf]; omega
    · have hm : Hid (s ∉ l) := Lib.hid fun h => by
        obtain ⟨i, hi, he⟩ := List.getElem_of_mem h
        exact Hno.out i (by omega) (by simp [List.getD, hi, he])
      go_wp2
      go_ret
      exact ⟨-1, rfl, .inr ⟨by omega, hm.out⟩, Below.refl _ _⟩
def RetHas (x : Bool) (w : World) (e : Ending) (w' : World) : Prop := e = .returned (.bool x) ∧ Below w.heap.size w w'
theorem contains_any (v : Value) (l : List ByteArray) (s : ByteArray) (w : World) (hv : Sl w 1 v l.length (strs l)) : Calls Try.prog 61 #[v, .string s] w (RetHas (hasN l s) w) := by
  go_enter Try.func61, Try.ntmps61
  go_wp2_with fail
  refine (index_any v l s w hv).mono ?_
  rintro e w2 ⟨z, rfl, hz, hb⟩
  have Hb := Lib.hid hb
  clear hb
  rcases hz with ⟨hz, hm⟩ | ⟨hz, hm⟩
  · have hd : Hid (hasN l s = true) := Lib.hid (hasN_yes hm)
    clear hm
    go_wp2
    go_ret
    rw [hd.out]
    exact ⟨rfl, Hb.out⟩
  · have hd : Hid (hasN l s = false) := Lib.hid (hasN_no hm)
    have g1 : decide (0 ≤ z) = false := by simp; omega
    clear hm
    go_wp2
    go_ret
    rw [hd.out]
    exact ⟨rfl, Hb.out⟩
end Go.Proofs.Ytkbfjgmgckbogaa.Kp

/-
  A ledger (chapter 5) in memory: its own cells, its image's bytes, its entries. What it does, plain.
-/






namespace Go.Proofs.Ytkbfjgmgckbogaa.Ld
open Go.RowKit L Oct Dsk Fr Kp
/-- a ledger -/
structure Lg where
  pre : ByteArray
  base : Nat
  data : List UInt8
  ents : List (List UInt8)
  dead : Bool
def LedgA (lb b : Nat) (g : Lg) : Asrt := ExA fun y : Value × Value × List Value =>
  (Blk lb #[ptr b, .string g.pre, .int .i64 g.base, y.1, y.2.1, .bool g.dead] 55).sep ((Row 5 1 y.1 g.data.length (u8s g.data)).sep ((Row 33 1 y.2.1 g.ents.length y.2.2).sep (Inner y.2.2 g.ents)))
section
variable {W0 w : World} {R : Asrt} {lb b : Nat} {g : Lg}
theorem led_open (h : Hold W0 ((LedgA lb b g).sep R) w) : ∃ dv ev vs, Hold W0 ((Blk lb #[ptr b, .string g.pre, .int .i64 g.base, dv, ev, .bool g.dead] 55).sep ((Row 5 1 dv g.data.length (u8s g.data)).sep ((Row 33 1 ev g.ents.length vs).sep ((Inner vs g.ents).sep R)))) w := by
  obtain ⟨⟨dv, ev, vs⟩, h⟩ := h.unex
  exact ⟨dv, ev, vs, h.perm (by ac_rfl)⟩
theorem led_shut {dv ev : Value} {vs : List Value} (h : Hold W0 ((Blk lb #[ptr b, .string g.pre, .int .i64 g.base, dv, ev, .bool g.dead] 55).sep ((Row 5 1 dv g.data.length (u8s g.data)).sep ((Row 33 1 ev g.ents.length vs).sep ((Inner vs g.ents).sep R)))) w) : Hold W0 ((LedgA lb b g).sep R) w :=
  Hold.toex (f := fun y : Value × Value × List Value => (Blk lb #[ptr b, .string g.pre, .int .i64 g.base, y.1, y.2.1, .bool g.dead] 55).sep ((Row 5 1 y.1 g.data.length (u8s g.data)).sep ((Row 33 1 y.2.1 g.ents.length y.2.2).sep (Inner y.2.2 g.ents)))) (dv, ev, vs) (h.perm (by ac_rfl))
end
/-- a ledger whose numbers are in bounds -/
structure GOk (g : Lg) : Prop where
  pre : g.pre.size ≤ 20
  base : g.base ≤ 1099511627776
  len : g.ents.length ≤ 1048576
  data : g.data.length ≤ 1073741824
  ent : ∀ x ∈ g.ents, x.length ≤ 1073741824
/-! ### plain -/
def sImg : ByteArray := ⟨#[45, 105, 109, 103]⟩
def sLog : ByteArray := ⟨#[45, 108, 111, 103]⟩
def imgN (pre : ByteArray) : ByteArray := pre ++ sImg
def logN (pre : ByteArray) : ByteArray := pre ++ sLog
def Lg.last (g : Lg) : Nat := g.base + g.ents.length
/-- what a record says: its number, its bytes, whether it is one -/
def recN (p : List UInt8) : Nat := got 0 (dec 0 0 p)
def recB (p : List UInt8) : List UInt8 := got [] (decRow (left (dec 0 0 p)))
def recW (p : List UInt8) : Bool := !((dec 0 0 p).isNone || (decRow (left (dec 0 0 p))).isNone) && (left (decRow (left (dec 0 0 p)))).isEmpty
def removes : D → List ByteArray → D × Nat
  | d, [] => (d, 0)
  | d, s :: r => if (getF d.fs s).isNone then removes d r else if (d.remove [s]).2 = 0 then removes (d.remove [s]).1 r else d.remove [s]
def clears (d : D) (pre : ByteArray) : D × Nat := removes d [sh (imgN pre)]
def image (d : D) (g : Lg) : Lg × Nat :=
  if (Kp.load d (imgN g.pre)).2 = 7 then (g, 0)
  else if (Kp.load d (imgN g.pre)).2 = 0 then ({ g with base := recN (Kp.load d (imgN g.pre)).1, data := recB (Kp.load d (imgN g.pre)).1 }, if recW (Kp.load d (imgN g.pre)).1 ∧ recN (Kp.load d (imgN g.pre)).1 ≤ 1099511627776 then 0 else 3)
  else (g, (Kp.load d (imgN g.pre)).2)
/-- a record that is taken in: is it one? the number of the last one; the ledger -/
def takes (last : Int) (g : Lg) (p : List UInt8) : Bool × Int × Lg :=
  if recW p = true ∧ 1 ≤ recN p ∧ recN p ≤ 1099511627776 ∧ (0 ≤ last → (recN p : Int) = last + 1) then
    if recN p ≤ g.base then (true, recN p, g)
    else if recN p = g.last + 1 then (true, recN p, { g with ents := g.ents ++ [recB p] })
    else (false, recN p, g)
  else (false, last, g)
def takesAll : Int → Lg → List (List UInt8) → Bool × Lg
  | _, g, [] => (true, g)
  | last, g, p :: r => if (takes last g p).1 then takesAll (takes last g p).2.1 (takes last g p).2.2 r else (false, (takes last g p).2.2)
/-- the log's end: what is torn is cut off; an empty one goes -/
def logEnd (d : D) (pre : ByteArray) (none_ : Bool) : D × Nat := if none_ then d.remove [logN pre] else (d, 0)
def logCut (d : D) (pre : ByteArray) (good len : Nat) (none_ : Bool) : D × Nat :=
  if good < len then
    if (d.truncate (logN pre) good).2 = 0 then
      if ((d.truncate (logN pre) good).1.sync [logN pre]).2 = 0 then logEnd ((d.truncate (logN pre) good).1.sync [logN pre]).1 pre none_ else (d.truncate (logN pre) good).1.sync [logN pre]
    else d.truncate (logN pre) good
  else logEnd d pre none_
def log (d : D) (g : Lg) : D × Lg × Nat :=
  match getF d.fs (logN g.pre) with
  | none => (d, g, 0)
  | some f =>
    if (takesAll (-1) g (scan f.data).1).1 then
      ((logCut d g.pre (scan f.data).2 f.data.length (takesAll (-1) g (scan f.data).1).2.ents.isEmpty).1, (takesAll (-1) g (scan f.data).1).2, (logCut d g.pre (scan f.data).2 f.data.length (takesAll (-1) g (scan f.data).1).2.ents.isEmpty).2)
    else (d, (takesAll (-1) g (scan f.data).1).2, 3)
def new (pre : ByteArray) : Lg := ⟨pre, 0, [], [], false⟩
def openL (d : D) (pre : ByteArray) : D × Lg × Nat :=
  if (clears d pre).2 = 0 then
    if (image (clears d pre).1 (new pre)).2 = 0 then log (clears d pre).1 (image (clears d pre).1 (new pre)).1
    else ((clears d pre).1, (image (clears d pre).1 (new pre)).1, (image (clears d pre).1 (new pre)).2)
  else ((clears d pre).1, new pre, (clears d pre).2)
end Go.Proofs.Ytkbfjgmgckbogaa.Ld
