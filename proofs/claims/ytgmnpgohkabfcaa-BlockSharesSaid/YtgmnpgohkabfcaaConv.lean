/-
  []byte(s): a text's bytes as a slice of their own: the walk's law. Over any program.
-/
import Derived.Test.YtgmnpgohkabfcaaGrow
import Derived.Laws.IdiomStrings
namespace Go.Proofs.Ytgmnpgohkabfcaa.L
open Go.RowKit
/-- the bytes of a text -/
def byts (s : ByteArray) : List UInt8 := s.data.toList
theorem byts_length (s : ByteArray) : (byts s).length = s.size := by simp [byts]
section
variable {P : Program} {W0 w : World} {R : Asrt} {src dst e : TypeId}
theorem own_conv (s : ByteArray) (hs : P.underlying src = some .string) (hd : P.underlying dst = some (.slice e)) (he : P.underlying e = some (.int .u8)) (hn : s.size ≤ maxLen) :
    ∃ v w', (convert src dst (.string s)).run P w = .ok v w' ∧ Own w' w.heap.size e 1 v (byts s).length (u8s (byts s)) ∧ Below w.heap.size w w' := by
  have hge := grownCap_ge w s.size 0 e
  have hcm : grownCap w s.size 0 e ≤ maxLen := grownCap_le_maxLen w s.size 0 e hn
  refine ⟨_, _, run_bytes_of_string w src dst e s hs hd he, ⟨by simp [u8s], .inr ⟨w.heap.size, grownCap w s.size 0 e, bytesRow s (grownCap w s.size 0 e), by rw [byts_length], Nat.le_refl _, ⟨e, _, heap_alloc_new w.drew _, ?_⟩, by rw [byts_length]; exact hge, hcm, ?_, ?_⟩⟩, ((Below.refl _ _).drew).alloc (Nat.le_refl _) _⟩
  · intro i hi
    have : (bytesRow s (grownCap w s.size 0 e)).size = grownCap w s.size 0 e := by
      simp only [bytesRow, Array.size_append, Array.size_map, Array.size_replicate]
      have : s.data.size = s.size := rfl
      omega
    rw [this]
    simp; omega
  · simp only [bytesRow, Array.size_append, Array.size_map, Array.size_replicate]
    have : s.data.size = s.size := rfl
    omega
  · rw [byts_length]
    simp only [bytesRow, Array.toList_append, Array.toList_map, Nat.mul_one]
    rw [List.take_append_of_le_length (by simp), List.take_of_length_le (by simp)]
    rfl
variable {ops : Array Oper} {rest : List Oper} {o : Oper} {a : Act} {Q : Exit → Act → World → Prop}
/-- []byte(s) in a walk -/
theorem wpList_conv (H : Hold W0 R w) (hgd : o.guard = none) (x : Operand) (ho : o.op = .convert src dst x) (s : ByteArray) (hx : a.eval x = .string s)
    (hs : P.underlying src = some .string) (hd : P.underlying dst = some (.slice e)) (he : P.underlying e = some (.int .u8)) (hn : s.size ≤ 140737488355328)
    (h : ∀ v w', Hold W0 ((Row e 1 v (byts s).length (u8s (byts s))).sep R) w' → wpList P ops Q rest (a.put o.dst v) w') : wpList P ops Q (o :: rest) a w := by
  refine wpList_plain hgd fun K hK => ?_
  obtain ⟨v, w', hr, hown, hb⟩ := own_conv (P := P) (w := w) s hs hd he (by unfold maxLen; omega)
  unfold Oper.wp execOp
  simp only [ho, hx]
  simp [hr, Result.andThen]
  exact hK _ _ (h v w' (H.addRow hb hown))
end
end Go.Proofs.Ytgmnpgohkabfcaa.L
