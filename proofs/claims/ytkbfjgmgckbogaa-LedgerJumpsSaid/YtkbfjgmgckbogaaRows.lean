/-
  No cell of these rows narrows 'for every input' (looked for: loops, veiled, ifaces, maps, wideKeys, modest, calm, conditions, laid).
  DERIVED. THE GIVEN ROWS OF THIS SEAT. 4 by the template 'for every input the law returns true; each argument reads behind the call as it read before'; 0 by the template 'total and deterministic' (their statements: YtkbfjgmgckbogaaTotals.lean).
  GIVEN WITH THE SEED: the statements are not yours to turn. If you find one false, say at which input.
  Laid BY PROGRAM, IN A SANDBOX (cutbox-rows.mjs): the forced cells as the released guide's own fill.sh prints them over the translation 0059daa2721a352c… (all of the seat's roots in one cut). By AI agents, Wed Nov 11 2026. No macro, syntax, notation, axiom, sorry.
-/
import Derived.Test.YtkbfjgmgckbogaaChecked
import GoSem.Claim
import GoSem.ClaimJoined
import GoSem.ClaimMapViews
import Derived.JoinedTies
import Derived.KernelRfl
namespace Go.Proofs.Ytkbfjgmgckbogaa
/- THE CELL 'sum', in the pinned program and in every row, IS THE sha256 OF THE DUMP (.gsa) THAT YtkbfjgmgckbogaaProg.lean LOADS. Nothing in Lean hashes anything: it is a label: what it is worth is what the hold of that sum in a sandbox is worth. -/
noncomputable def Try.pinned : Pinned := { name := "ytkbfjgmgckbogaa", sum := "0059daa2721a352c2103649efcded45e373188cf9d858b834c1986a6f8bf16e8", checked := Try.checked }
namespace Rows
def none {H : Type} : Left H := { results := [], args := [] }

/-- 'burgesslaw5.LedgerApart': WHATEVER THE INPUT: true; the input reads as it did. -/
def ledgerApartSpec : ChangeSpec := { name := "ledgerApart", fn := fun _ => fun
  | [d1, d2, d3, d4] => { results := [.lit (.bool true)], args := [d1, d2, d3, d4] }
  | _ => none }
def ledgerApartRow : OpenClaim := { program := "ytkbfjgmgckbogaa", sum := "0059daa2721a352c2103649efcded45e373188cf9d858b834c1986a6f8bf16e8", func := "burgess/burgesslaw5.LedgerApart", spec := "ledgerApart", inPlace := ["internal/bytealg.MakeNoZero"], unfollowed := true, recurses := true, apart := false }
def LedgerApartSaid : Prop := ledgerApartRow.holds Try.pinned (OpenSpec.ofChange ledgerApartSpec)

/-- ITS FALSE NEIGHBOUR: 'it returns false'. Refute it at one input. -/
def ledgerApartWrong : ChangeSpec := { name := "ledgerApart", fn := fun _ => fun
  | [d1, d2, d3, d4] => { results := [.lit (.bool false)], args := [d1, d2, d3, d4] }
  | _ => none }
def LedgerApartWrongFalsely : Prop := ledgerApartRow.holds Try.pinned (OpenSpec.ofChange ledgerApartWrong)

/-- 'burgesslaw5.LedgerJumps': WHATEVER THE INPUT: true; the input reads as it did. -/
def ledgerJumpsSpec : ChangeSpec := { name := "ledgerJumps", fn := fun _ => fun
  | [d1, d2, d3, d4] => { results := [.lit (.bool true)], args := [d1, d2, d3, d4] }
  | _ => none }
def ledgerJumpsRow : OpenClaim := { program := "ytkbfjgmgckbogaa", sum := "0059daa2721a352c2103649efcded45e373188cf9d858b834c1986a6f8bf16e8", func := "burgess/burgesslaw5.LedgerJumps", spec := "ledgerJumps", inPlace := ["internal/bytealg.MakeNoZero"], unfollowed := true, recurses := true, apart := false }
def LedgerJumpsSaid : Prop := ledgerJumpsRow.holds Try.pinned (OpenSpec.ofChange ledgerJumpsSpec)

/-- ITS FALSE NEIGHBOUR: 'it returns false'. Refute it at one input. -/
def ledgerJumpsWrong : ChangeSpec := { name := "ledgerJumps", fn := fun _ => fun
  | [d1, d2, d3, d4] => { results := [.lit (.bool false)], args := [d1, d2, d3, d4] }
  | _ => none }
def LedgerJumpsWrongFalsely : Prop := ledgerJumpsRow.holds Try.pinned (OpenSpec.ofChange ledgerJumpsWrong)

/-- 'burgesslaw5.LedgerOfNothing': WHATEVER THE INPUT: true; the input reads as it did. -/
def ledgerOfNothingSpec : ChangeSpec := { name := "ledgerOfNothing", fn := fun _ => fun
  | [d1, d2] => { results := [.lit (.bool true)], args := [d1, d2] }
  | _ => none }
def ledgerOfNothingRow : OpenClaim := { program := "ytkbfjgmgckbogaa", sum := "0059daa2721a352c2103649efcded45e373188cf9d858b834c1986a6f8bf16e8", func := "burgess/burgesslaw5.LedgerOfNothing", spec := "ledgerOfNothing", inPlace := ["internal/bytealg.MakeNoZero"], unfollowed := true, recurses := true, apart := false }
def LedgerOfNothingSaid : Prop := ledgerOfNothingRow.holds Try.pinned (OpenSpec.ofChange ledgerOfNothingSpec)

/-- ITS FALSE NEIGHBOUR: 'it returns false'. Refute it at one input. -/
def ledgerOfNothingWrong : ChangeSpec := { name := "ledgerOfNothing", fn := fun _ => fun
  | [d1, d2] => { results := [.lit (.bool false)], args := [d1, d2] }
  | _ => none }
def LedgerOfNothingWrongFalsely : Prop := ledgerOfNothingRow.holds Try.pinned (OpenSpec.ofChange ledgerOfNothingWrong)

/-- 'burgesslaw5.LedgerTorn': WHATEVER THE INPUT: true; the input reads as it did. -/
def ledgerTornSpec : ChangeSpec := { name := "ledgerTorn", fn := fun _ => fun
  | [d1, d2] => { results := [.lit (.bool true)], args := [d1, d2] }
  | _ => none }
def ledgerTornRow : OpenClaim := { program := "ytkbfjgmgckbogaa", sum := "0059daa2721a352c2103649efcded45e373188cf9d858b834c1986a6f8bf16e8", func := "burgess/burgesslaw5.LedgerTorn", spec := "ledgerTorn", inPlace := ["internal/bytealg.MakeNoZero"], unfollowed := true, recurses := true, apart := false }
def LedgerTornSaid : Prop := ledgerTornRow.holds Try.pinned (OpenSpec.ofChange ledgerTornSpec)

/-- ITS FALSE NEIGHBOUR: 'it returns false'. Refute it at one input. -/
def ledgerTornWrong : ChangeSpec := { name := "ledgerTorn", fn := fun _ => fun
  | [d1, d2] => { results := [.lit (.bool false)], args := [d1, d2] }
  | _ => none }
def LedgerTornWrongFalsely : Prop := ledgerTornRow.holds Try.pinned (OpenSpec.ofChange ledgerTornWrong)

/- THE SECOND FORM. 'bulk': how many values and letters a reading holds, each counted each time it is reached (what is shared counts as often as it is met; a slice's spare places count too). A statement '..UptoSaid' is the law's where the arguments, and the package variables that the reading takes, are together of bulk at most 1048576: NARROWER than '..Said'. Prove '..Said' where nothing that the law and all that it calls make is longer than what came in: it says more and counts as full. Else prove '..UptoSaid'. A law counts once. -/
mutual
def uptoBulk {H : Type} : DataW H → Nat
  | .lit (.string bytes) => bytes.length + 1
  | .lit _ => 1
  | .nil => 1
  | .ptr d => uptoBulk d + 1
  | .slice elems spare => uptoBulkAll elems + uptoBulkAll spare + 1
  | .agg parts => uptoBulkAll parts + 1
  | .iface _ d => uptoBulk d + 1
  | .map entries => uptoBulkEntries entries + 1
  | .held _ => 1
def uptoBulkAll {H : Type} : List (DataW H) → Nat
  | [] => 0
  | d :: r => uptoBulk d + uptoBulkAll r
def uptoBulkEntries {H : Type} : List (Lit × DataW H) → Nat
  | [] => 0
  | x :: r => uptoBulkEntry x + uptoBulkEntries r
def uptoBulkEntry {H : Type} : Lit × DataW H → Nat
  | (.string bytes, d) => bytes.length + uptoBulk d + 1
  | (_, d) => uptoBulk d + 1
 end
def uptoSmall : (H : Type) → List (DataW H) → Bool := fun _ ds => decide (uptoBulkAll ds ≤ 1048576)
def OpenSpec.upto (s : _root_.Go.ChangeSpec) : _root_.Go.OpenSpec := { _root_.Go.OpenSpec.ofChange s with cond := some uptoSmall }

/-- 'burgesslaw5.LedgerApart', WHERE WHAT IT READS IS OF BULK AT MOST 1048576: true; the input reads as it did. -/
def ledgerApartUptoRow : OpenClaim := { program := "ytkbfjgmgckbogaa", sum := "0059daa2721a352c2103649efcded45e373188cf9d858b834c1986a6f8bf16e8", func := "burgess/burgesslaw5.LedgerApart", spec := "ledgerApart", inPlace := ["internal/bytealg.MakeNoZero"], unfollowed := true, recurses := true, apart := false, narrowed := true }
def LedgerApartUptoSaid : Prop := ledgerApartUptoRow.holds Try.pinned (OpenSpec.upto ledgerApartSpec)

/-- 'burgesslaw5.LedgerJumps', WHERE WHAT IT READS IS OF BULK AT MOST 1048576: true; the input reads as it did. -/
def ledgerJumpsUptoRow : OpenClaim := { program := "ytkbfjgmgckbogaa", sum := "0059daa2721a352c2103649efcded45e373188cf9d858b834c1986a6f8bf16e8", func := "burgess/burgesslaw5.LedgerJumps", spec := "ledgerJumps", inPlace := ["internal/bytealg.MakeNoZero"], unfollowed := true, recurses := true, apart := false, narrowed := true }
def LedgerJumpsUptoSaid : Prop := ledgerJumpsUptoRow.holds Try.pinned (OpenSpec.upto ledgerJumpsSpec)

/-- 'burgesslaw5.LedgerOfNothing', WHERE WHAT IT READS IS OF BULK AT MOST 1048576: true; the input reads as it did. -/
def ledgerOfNothingUptoRow : OpenClaim := { program := "ytkbfjgmgckbogaa", sum := "0059daa2721a352c2103649efcded45e373188cf9d858b834c1986a6f8bf16e8", func := "burgess/burgesslaw5.LedgerOfNothing", spec := "ledgerOfNothing", inPlace := ["internal/bytealg.MakeNoZero"], unfollowed := true, recurses := true, apart := false, narrowed := true }
def LedgerOfNothingUptoSaid : Prop := ledgerOfNothingUptoRow.holds Try.pinned (OpenSpec.upto ledgerOfNothingSpec)

/-- 'burgesslaw5.LedgerTorn', WHERE WHAT IT READS IS OF BULK AT MOST 1048576: true; the input reads as it did. -/
def ledgerTornUptoRow : OpenClaim := { program := "ytkbfjgmgckbogaa", sum := "0059daa2721a352c2103649efcded45e373188cf9d858b834c1986a6f8bf16e8", func := "burgess/burgesslaw5.LedgerTorn", spec := "ledgerTorn", inPlace := ["internal/bytealg.MakeNoZero"], unfollowed := true, recurses := true, apart := false, narrowed := true }
def LedgerTornUptoSaid : Prop := ledgerTornUptoRow.holds Try.pinned (OpenSpec.upto ledgerTornSpec)

end Rows
end Go.Proofs.Ytkbfjgmgckbogaa
