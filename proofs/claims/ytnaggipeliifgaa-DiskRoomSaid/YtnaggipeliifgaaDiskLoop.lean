/-
  What the laws of chapter 3 share: how heavy rows are; one file.
-/
import Derived.Test.YtnaggipeliifgaaDiskPlain
import Derived.Test.YtnaggipeliifgaaDiskKnown
namespace Go.Proofs.Ytnaggipeliifgaa.Dsk
open Go.RowKit L Oct
def wt (l : List (List UInt8)) : Nat := (l.map fun x => 1 + x.length).sum
theorem wt_take {l : List (List UInt8)} {k : Nat} (hk : k < l.length) : wt (l.take (k + 1)) = wt (l.take k) + 1 + (l.getD k []).length := by
  unfold wt
  rw [List.take_succ_eq_append_getElem hk, List.map_append, List.sum_append]
  simp [List.getD, hk]; omega
theorem wt_flat (l : List (List UInt8)) : l.flatten.length + l.length = wt l := by
  unfold wt
  induction l with
  | nil => rfl
  | cons x r ih => simp at ih ⊢; omega
theorem wt_le (l : List (List UInt8)) (k : Nat) : wt (l.take k) ≤ wt l := by
  unfold wt
  conv => rhs; rw [← List.take_append_drop k l]
  rw [List.map_append, List.sum_append]; omega
theorem flat_le (l : List (List UInt8)) (k : Nat) : (l.take k).flatten.length ≤ wt l := by
  have h1 := wt_flat (l.take k)
  have h2 := wt_le l k
  omega
theorem flat_snoc {l : List (List UInt8)} {k : Nat} (hk : k < l.length) : (l.take (k + 1)).flatten = (l.take k).flatten ++ l.getD k [] := by
  rw [List.take_succ_eq_append_getElem hk, List.flatten_append]
  simp [List.getD, hk]
def sF : ByteArray := ⟨#[102]⟩
theorem cell_old {w w' : World} {A : Addr} {u : Value} (hb : Below w.heap.size w w') (h : w.cell? A = some u) : w'.cell? A = some u := by
  have hlt : A.block < w.heap.size := by
    unfold World.cell? at h
    cases ho : w.heap[A.block]? with
    | none => simp [ho] at h
    | some o => exact (Array.getElem?_eq_some_iff.1 ho).1
  rw [World.cell?_of_block (w := w) (hb.block A.block hlt)]; exact h
end Go.Proofs.Ytnaggipeliifgaa.Dsk
