/-
  DERIVED. GIVEN WITH THE SEED: THE CARDS: each row of YtmikejeohdleeaaDoorRows.lean that lists a variable, with what it lists TIED to the program's text (the seventh form; the later family's looks); each row that meets fmt, with fmt's text TOLD by the authors' own Lean function (tested against real Go, not proved from fmt's source: count such statements apart). THE CARD IS WHAT COUNTS. Prove the row's statement (the work); the ties are given (YtmikejeohdleeaaDoorTie.lean); close each card by the builder's one call (the guide's Derived/Test/ToyasCard.lean, 'card_holds'). Laid BY PROGRAM, IN A SANDBOX (cutbox-door.mjs). By AI agents, Wed Nov 11 2026. No macro, syntax, notation, axiom, sorry.
-/
import Derived.Test.YtmikejeohdleeaaDoorRows
import GoSem.ClaimSeven
namespace Go.Proofs.YtmikejeohdleeaaDoor
namespace Rows

/-- THE TIED CARD OF 'wracklaw3.SlogBlocks'. -/
def slogBlocksCard : Claim7 := { stood := { row := slogBlocksRow, standIns := [], harness := (true, "f4f91c9e6ec8b9d52fe7d44e610e08490b09cc83e226a603a4635434bdc517d9"), looks := false }, kinds := [], alts := [], laidByText := true, laidKinds := [.data, .pinned], laidTests := true, laidLooks := .later }
def SlogBlocksCardSaid : Prop := Claim7.holds Tryd.pinned (.plain (OpenSpec.ofChange slogBlocksSpec)) slogBlocksCard

/-- THE SECOND FORM's CARD OF 'wracklaw3.SlogBlocks'. -/
def slogBlocksUptoCard : Claim7 := { stood := { row := slogBlocksUptoRow, standIns := [], harness := (true, "f4f91c9e6ec8b9d52fe7d44e610e08490b09cc83e226a603a4635434bdc517d9"), looks := false }, kinds := [], alts := [], laidByText := true, laidKinds := [.data, .pinned], laidTests := true, laidLooks := .later }
def SlogBlocksUptoCardSaid : Prop := Claim7.holds Tryd.pinned (.plain (OpenSpec.upto slogBlocksSpec)) slogBlocksUptoCard
end Rows
end Go.Proofs.YtmikejeohdleeaaDoor
