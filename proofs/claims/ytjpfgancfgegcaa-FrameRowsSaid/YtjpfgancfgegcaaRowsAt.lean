/-
  Rows of bytes in one world: literals, appended lists of rows; Join, Sum, same of them.
-/
import Derived.Test.YtjpfgancfgegcaaOctetJoin
import Derived.Test.YtjpfgancfgegcaaOctetHelp
namespace Go.Proofs.Ytjpfgancfgegcaa.Oct
open Go.RowKit L
theorem spoilB {w : World} {v : Value} {l : List UInt8} {W0 : World} (h : OwnB w W0.heap.size v l) (hb : Below W0.heap.size W0 w) (hl : l.length ≤ 100000000000) :
    Calls Try.prog 20 #[v] w fun e w' => e = .returned (.tuple #[]) ∧ Below W0.heap.size W0 w' := by
  rcases h with h | ⟨rfl, a, rfl⟩
  · exact (spoil_any ((Hold.start W0).addRow hb h) (by omega)).mono fun e w' ⟨he, hH⟩ => ⟨he, hH.old⟩
  · exact (spoil_zero a w).mono fun e w' ⟨he, hb'⟩ => ⟨he, hb.trans (hb'.mono hb.size)⟩
theorem join_at {w : World} {va : Value} {ls : List (List UInt8)} (h : SlRows w va ls) (hn : ls.length ≤ 140737488355328) (hlen : ls.flatten.length ≤ 140737488355328) :
    Calls Try.prog 22 #[va] w (RetV fun v' w' => OwnB w' w.heap.size v' ls.flatten ∧ Below w.heap.size w w') := by
  obtain ⟨vs, hvs⟩ := h.reads
  exact join_any (Hold.start w) va vs ls (hvs _) hn hlen
theorem sum_at {w : World} {va : Value} {ls : List (List UInt8)} (h : SlRows w va ls) :
    Calls Try.prog 25 #[va] w fun e w' => e = .returned (.int .u32 (Crc.sum ls.flatten).toNat) ∧ w = w' := by
  obtain ⟨vs, hvs⟩ := h.reads
  exact sum_any (Hold.start w) va vs ls (hvs _)
end Go.Proofs.Ytjpfgancfgegcaa.Oct
