/-
  DERIVED. GIVEN WITH THE SEED: THE CARDS: each row of YtindlfiifckdnaaDoorRows.lean that lists a variable, with what it lists TIED to the program's text (the seventh form; the later family's looks); each row that meets fmt, with fmt's text TOLD by the authors' own Lean function (tested against real Go, not proved from fmt's source: count such statements apart). THE CARD IS WHAT COUNTS. Prove the row's statement (the work); the ties are given (YtindlfiifckdnaaDoorTie.lean); close each card by the builder's one call (the guide's Derived/Test/ToyasCard.lean, 'card_holds'). Laid BY PROGRAM, IN A SANDBOX (cutbox-door.mjs). By AI agents, Wed Nov 11 2026. No macro, syntax, notation, axiom, sorry.
-/
import Derived.Test.YtindlfiifckdnaaDoorRows
import GoSem.ClaimSeven
namespace Go.Proofs.YtindlfiifckdnaaDoor
namespace Rows

/-- THE TIED CARD OF 'burgesslaw14.SchemaMusts'. -/
def schemaMustsCard : Claim7 := { stood := { row := schemaMustsRow, standIns := [], harness := (true, "1735aaec1dd29dfef41b4f4810acc6908825a9c77334d4ed09658a9a7e316dfb"), looks := false }, kinds := [], alts := [], laidByText := true, laidKinds := [.listed, .data], laidTests := true, laidLooks := .later }
def SchemaMustsCardSaid : Prop := Claim7.holds Tryd.pinned (.plain (OpenSpec.ofChange schemaMustsSpec)) schemaMustsCard

/-- THE TIED CARD OF 'burgesslaw14.SchemaTables'. -/
def schemaTablesCard : Claim7 := { stood := { row := schemaTablesRow, standIns := [], harness := (true, "1735aaec1dd29dfef41b4f4810acc6908825a9c77334d4ed09658a9a7e316dfb"), looks := false }, kinds := [], alts := [], laidByText := true, laidKinds := [.listed, .data], laidTests := true, laidLooks := .later }
def SchemaTablesCardSaid : Prop := Claim7.holds Tryd.pinned (.plain (OpenSpec.ofChange schemaTablesSpec)) schemaTablesCard

/-- THE SECOND FORM's CARD OF 'burgesslaw14.SchemaMusts'. -/
def schemaMustsUptoCard : Claim7 := { stood := { row := schemaMustsUptoRow, standIns := [], harness := (true, "1735aaec1dd29dfef41b4f4810acc6908825a9c77334d4ed09658a9a7e316dfb"), looks := false }, kinds := [], alts := [], laidByText := true, laidKinds := [.listed, .data], laidTests := true, laidLooks := .later }
def SchemaMustsUptoCardSaid : Prop := Claim7.holds Tryd.pinned (.plain (OpenSpec.upto schemaMustsSpec)) schemaMustsUptoCard

/-- THE SECOND FORM's CARD OF 'burgesslaw14.SchemaTables'. -/
def schemaTablesUptoCard : Claim7 := { stood := { row := schemaTablesUptoRow, standIns := [], harness := (true, "1735aaec1dd29dfef41b4f4810acc6908825a9c77334d4ed09658a9a7e316dfb"), looks := false }, kinds := [], alts := [], laidByText := true, laidKinds := [.listed, .data], laidTests := true, laidLooks := .later }
def SchemaTablesUptoCardSaid : Prop := Claim7.holds Tryd.pinned (.plain (OpenSpec.upto schemaTablesSpec)) schemaTablesUptoCard
end Rows
end Go.Proofs.YtindlfiifckdnaaDoor
