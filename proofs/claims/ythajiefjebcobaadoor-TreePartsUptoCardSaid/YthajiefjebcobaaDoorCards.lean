/-
  DERIVED. GIVEN WITH THE SEED: THE CARDS: each row of YthajiefjebcobaaDoorRows.lean that lists a variable, with what it lists TIED to the program's text (the seventh form; the later family's looks); each row that meets fmt, with fmt's text TOLD by the authors' own Lean function (tested against real Go, not proved from fmt's source: count such statements apart). THE CARD IS WHAT COUNTS. Prove the row's statement (the work); the ties are given (YthajiefjebcobaaDoorTie.lean); close each card by the builder's one call (the guide's Derived/Test/ToyasCard.lean, 'card_holds'). Laid BY PROGRAM, IN A SANDBOX (cutbox-door.mjs). By AI agents, Wed Nov 11 2026. No macro, syntax, notation, axiom, sorry.
-/
import Derived.Test.YthajiefjebcobaaDoorRows
import GoSem.ClaimSeven
namespace Go.Proofs.YthajiefjebcobaaDoor
namespace Rows

/-- THE TIED CARD OF 'changelinglaw3.TreeParts'. -/
def treePartsCard : Claim7 := { stood := { row := treePartsRow, standIns := [], harness := (true, "cc2ff0978d2101c361f671884ce71ee9bdd52faa6aa890405df2785089957b08"), looks := true }, kinds := [], alts := [], laidByText := true, laidKinds := [.data, .pinned], laidTests := true, laidLooks := .later }
def TreePartsCardSaid : Prop := Claim7.holds Tryd.pinned (.plain (OpenSpec.ofChange treePartsSpec)) treePartsCard

/-- THE TIED CARD OF 'changelinglaw3.TreeBare'. -/
def treeBareCard : Claim7 := { stood := { row := treeBareRow, standIns := [], harness := (true, "cc2ff0978d2101c361f671884ce71ee9bdd52faa6aa890405df2785089957b08"), looks := true }, kinds := [], alts := [], laidByText := true, laidKinds := [.data, .pinned], laidTests := true, laidLooks := .later }
def TreeBareCardSaid : Prop := Claim7.holds Tryd.pinned (.plain (OpenSpec.ofChange treeBareSpec)) treeBareCard

/-- THE SECOND FORM's CARD OF 'changelinglaw3.TreeParts'. -/
def treePartsUptoCard : Claim7 := { stood := { row := treePartsUptoRow, standIns := [], harness := (true, "cc2ff0978d2101c361f671884ce71ee9bdd52faa6aa890405df2785089957b08"), looks := true }, kinds := [], alts := [], laidByText := true, laidKinds := [.data, .pinned], laidTests := true, laidLooks := .later }
def TreePartsUptoCardSaid : Prop := Claim7.holds Tryd.pinned (.plain (OpenSpec.upto treePartsSpec)) treePartsUptoCard

/-- THE SECOND FORM's CARD OF 'changelinglaw3.TreeBare'. -/
def treeBareUptoCard : Claim7 := { stood := { row := treeBareUptoRow, standIns := [], harness := (true, "cc2ff0978d2101c361f671884ce71ee9bdd52faa6aa890405df2785089957b08"), looks := true }, kinds := [], alts := [], laidByText := true, laidKinds := [.data, .pinned], laidTests := true, laidLooks := .later }
def TreeBareUptoCardSaid : Prop := Claim7.holds Tryd.pinned (.plain (OpenSpec.upto treeBareSpec)) treeBareUptoCard
end Rows
end Go.Proofs.YthajiefjebcobaaDoor
