/-
  What the reference of chapter 4 does with its disk, plain; it is what the program does, on disks that are alike.
-/
import Derived.Test.YtfkingloapohjaaKeepClear
import Derived.Test.YtfkingloapohjaaInvPure
namespace Go.Proofs.Ytfkingloapohjaa.Kp
open Go.RowKit L Oct Dsk Fr
def rtail (r : RD) (s : ByteArray) (x : List UInt8) : RD × Nat :=
  if (r.append (sh s) (rec_ x)).2 = 0 then
    if ((r.append (sh s) (rec_ x)).1.sync (sh s)).2 = 0 then ((r.append (sh s) (rec_ x)).1.sync (sh s)).1.rename (sh s) s else (r.append (sh s) (rec_ x)).1.sync (sh s)
  else r.append (sh s) (rec_ x)
def rwhole (r : RD) (s : ByteArray) (x : List UInt8) : RD × Nat :=
  if isAt r.fs (sh s) then if (r.remove (sh s)).2 = 0 then rtail (r.remove (sh s)).1 s x else r.remove (sh s)
  else rtail r s x
def rsave (r : RD) (s : ByteArray) (x : List UInt8) : RD × Nat :=
  if 1 ≤ s.size ∧ s.size ≤ 60 then rwhole r s x else (r, 1)
def rload (r : RD) (s : ByteArray) : List UInt8 × Nat :=
  match r.read s with
  | none => ([], 7)
  | some x => if (unone x).2 = 0 then ((unone x).1, 0) else ([], 3)
def rclearL (pre : ByteArray) (stay : List ByteArray) : RD → List ByteArray → RD × Nat
  | d, [] => (d, 0)
  | d, n :: r => if hasPre n pre = false ∨ hasN stay n = true then rclearL pre stay d r else if (d.remove n).2 = 0 then rclearL pre stay (d.remove n).1 r else d.remove n
def rclear (r : RD) (pre : ByteArray) (stay : List ByteArray) : RD × Nat := rclearL pre stay r (nms r.fs)
section
variable {d : D} {r : RD} {n : Nat}
theorem like_tail (h : Like d r) (s : ByteArray) (x : List UInt8) : (tailS d s x).2 = (rtail r s x).2 ∧ Like (tailS d s x).1 (rtail r s x).1 := by
  obtain ⟨a1, a2⟩ := like_append h (sh s) (rec_ x)
  obtain ⟨b1, b2⟩ := like_sync a2 (sh s)
  obtain ⟨c1, c2⟩ := like_rename b2 (sh s) s
  unfold tailS rtail
  rw [a1, b1]
  split
  · split
    · exact ⟨c1, c2⟩
    · exact ⟨b1, b2⟩
  · exact ⟨a1, a2⟩
theorem like_save (h : Like d r) (s : ByteArray) (x : List UInt8) : (save d s x).2 = (rsave r s x).2 ∧ Like (save d s x).1 (rsave r s x).1 := by
  obtain ⟨a1, a2⟩ := like_remove h (sh s)
  have e : (getF d.fs (sh s)).isSome = isAt r.fs (sh s) := by
    rw [h.get]; cases isAt r.fs (sh s) <;> rfl
  unfold save rsave rwhole
  rw [a1, e]
  split
  · split
    · split
      · exact like_tail a2 s x
      · exact ⟨a1, a2⟩
    · exact like_tail h s x
  · exact ⟨rfl, h⟩
theorem like_load (h : Like d r) (s : ByteArray) : load d s = rload r s := by
  unfold load rload RD.read
  rw [h.get]
  cases isAt r.fs s <;> rfl
theorem like_clearL (pre : ByteArray) (stay : List ByteArray) : ∀ (l : List ByteArray) {d : D} {r : RD}, Like d r → (clearL pre stay d l).2 = (rclearL pre stay r l).2 ∧ Like (clearL pre stay d l).1 (rclearL pre stay r l).1
  | [], _, _, h => ⟨rfl, h⟩
  | s :: l, d, r, h => by
    obtain ⟨a1, a2⟩ := like_remove h s
    unfold clearL rclearL
    rw [a1]
    split
    · exact like_clearL pre stay l h
    · split
      · exact like_clearL pre stay l a2
      · exact ⟨a1, a2⟩
theorem like_clear (h : Like d r) (pre : ByteArray) (stay : List ByteArray) : (clear d pre stay).2 = (rclear r pre stay).2 ∧ Like (clear d pre stay).1 (rclear r pre stay).1 := by
  unfold clear rclear
  rw [names_like h]
  exact like_clearL pre stay _ h
theorem _root_.Go.Proofs.Ytfkingloapohjaa.Dsk.DInv.tail (h : DInv d n) (s : ByteArray) (x : List UInt8) : DInv (tailS d s x).1 (n + 1) := by
  have h1 := h.append (sh s) (rec_ x)
  unfold tailS
  split
  · split
    · exact (h1.sync _).rename _ _
    · exact h1.sync _
  · exact h1
theorem _root_.Go.Proofs.Ytfkingloapohjaa.Dsk.DInv.save (h : DInv d n) (s : ByteArray) (x : List UInt8) : DInv (save d s x).1 (n + 1) := by
  unfold Kp.save
  split
  · split
    · split
      · exact (h.remove _).tail s x
      · exact (h.remove _).le (by omega)
    · exact h.tail s x
  · exact h.le (by omega)
theorem DInv.clearL (pre : ByteArray) (stay : List ByteArray) : ∀ (l : List ByteArray) {d : D}, DInv d n → DInv (clearL pre stay d l).1 n
  | [], _, h => h
  | s :: l, d, h => by
    unfold Kp.clearL
    split
    · exact DInv.clearL pre stay l h
    · split
      · exact DInv.clearL pre stay l (h.remove s)
      · exact h.remove s
theorem DInv.clear (h : DInv d n) (pre : ByteArray) (stay : List ByteArray) : DInv (clear d pre stay).1 n := DInv.clearL pre stay _ h
end
end Go.Proofs.Ytfkingloapohjaa.Kp
