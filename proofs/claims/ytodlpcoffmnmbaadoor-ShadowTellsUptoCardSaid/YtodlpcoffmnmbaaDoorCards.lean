/-
  DERIVED. GIVEN WITH THE SEED: THE CARDS: each row of YtodlpcoffmnmbaaDoorRows.lean that lists a variable, with what it lists TIED to the program's text (the seventh form; the later family's looks); each row that meets fmt, with fmt's text TOLD by the authors' own Lean function (tested against real Go, not proved from fmt's source: count such statements apart). THE CARD IS WHAT COUNTS. Prove the row's statement (the work); the ties are given (YtodlpcoffmnmbaaDoorTie.lean); close each card by the builder's one call (the guide's Derived/Test/ToyasCard.lean, 'card_holds'). Laid BY PROGRAM, IN A SANDBOX (cutbox-door.mjs). By AI agents, Wed Nov 11 2026. No macro, syntax, notation, axiom, sorry.
-/
import Derived.Test.YtodlpcoffmnmbaaDoorRows
import GoSem.ClaimSeven
namespace Go.Proofs.YtodlpcoffmnmbaaDoor
namespace Rows

/-- THE TIED CARD OF 'weighbridgelaw23.ShadowTells'. -/
def shadowTellsCard : Claim7 := { stood := { row := shadowTellsRow, standIns := [], harness := (true, "9d113cf554b61d9c93a10dc9e916895c2eeb5e68ed8c71d5fc13e7d4d433d9b1"), looks := false }, kinds := [], alts := [], laidByText := true, laidKinds := [.data], laidTests := true, laidLooks := .later }
def ShadowTellsCardSaid : Prop := Claim7.holds Tryd.pinned (.plain (OpenSpec.ofChange shadowTellsSpec)) shadowTellsCard

/-- THE SECOND FORM's CARD OF 'weighbridgelaw23.ShadowTells'. -/
def shadowTellsUptoCard : Claim7 := { stood := { row := shadowTellsUptoRow, standIns := [], harness := (true, "9d113cf554b61d9c93a10dc9e916895c2eeb5e68ed8c71d5fc13e7d4d433d9b1"), looks := false }, kinds := [], alts := [], laidByText := true, laidKinds := [.data], laidTests := true, laidLooks := .later }
def ShadowTellsUptoCardSaid : Prop := Claim7.holds Tryd.pinned (.plain (OpenSpec.upto shadowTellsSpec)) shadowTellsUptoCard
end Rows
end Go.Proofs.YtodlpcoffmnmbaaDoor
