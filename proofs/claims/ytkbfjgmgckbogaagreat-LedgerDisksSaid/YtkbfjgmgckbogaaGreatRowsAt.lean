/-
  Rows of bytes in one world: literals, appended lists of rows; Join, Sum, same of them.
-/
import Derived.Test.YtkbfjgmgckbogaaGreatF12
import Derived.Test.YtkbfjgmgckbogaaGreatOctetJoin
import Derived.Test.YtkbfjgmgckbogaaGreatOctetClone
import Derived.Test.YtkbfjgmgckbogaaGreatF3
namespace Go.Proofs.YtkbfjgmgckbogaaGreat.Oct
open Go.RowKit L
theorem join_at {w : World} {va : Value} {ls : List (List UInt8)} (h : SlRows w va ls) (hn : ls.length ≤ 140737488355328) (hlen : ls.flatten.length ≤ 140737488355328) :
    Calls Tryz.prog 11 #[va] w (RetV fun v' w' => OwnB w' w.heap.size v' ls.flatten ∧ Below w.heap.size w w') := by
  obtain ⟨vs, hvs⟩ := h.reads
  exact join_any (Hold.start w) va vs ls (hvs _) hn hlen
theorem sum_at {w : World} {va : Value} {ls : List (List UInt8)} (h : SlRows w va ls) :
    Calls Tryz.prog 76 #[va] w fun e w' => e = .returned (.int .u32 (Crc.sum ls.flatten).toNat) ∧ w = w' := by
  obtain ⟨vs, hvs⟩ := h.reads
  exact sum_any (Hold.start w) va vs ls (hvs _)
end Go.Proofs.YtkbfjgmgckbogaaGreat.Oct
