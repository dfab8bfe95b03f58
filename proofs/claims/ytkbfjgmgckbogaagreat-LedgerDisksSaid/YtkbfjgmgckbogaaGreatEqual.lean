/-
  bytes.Equal at rows of bytes that are read.
-/
import Derived.Test.YtkbfjgmgckbogaaGreatShelf
import Derived.Test.YtkbfjgmgckbogaaGreatF3
namespace Go.Proofs.YtkbfjgmgckbogaaGreat.Oct
open Go.RowKit L
theorem toList_mk (l : List UInt8) : (⟨l.toArray⟩ : ByteArray).toList = l := by
  rw [ByteArray.toList_eq]
theorem equal_any (va vb : Value) (a b : List UInt8) (w : World) (ha : Sl w 1 va a.length (u8s a)) (hb : Sl w 1 vb b.length (u8s b)) :
    Calls Tryz.prog 97 #[va, vb] w fun e w' => e = .returned (.bool (decide (a = b))) ∧ w = w' := by
  refine (Tryz.bytes_Equal_strs va vb ⟨a.toArray⟩ ⟨b.toArray⟩ w (ha.run_string Tryz.underlying22 Tryz.underlying5 Tryz.underlying9) (hb.run_string Tryz.underlying22 Tryz.underlying5 Tryz.underlying9)).mono ?_
  rintro e w' ⟨rfl, rfl⟩
  rw [toList_mk, toList_mk]
  exact ⟨ret_bool (by rw [Bool.eq_iff_iff]; simp), rfl⟩
end Go.Proofs.YtkbfjgmgckbogaaGreat.Oct
