/-
  DERIVED. GIVEN WITH THE SEED: THE CARDS: each row of YthiaikbdghmnbaaDoorRows.lean that lists a variable, with what it lists TIED to the program's text (the seventh form; the later family's looks); each row that meets fmt, with fmt's text TOLD by the authors' own Lean function (tested against real Go, not proved from fmt's source: count such statements apart). THE CARD IS WHAT COUNTS. Prove the row's statement (the work); the ties are given (YthiaikbdghmnbaaDoorTie.lean); close each card by the builder's one call (the guide's Derived/Test/ToyasCard.lean, 'card_holds'). Laid BY PROGRAM, IN A SANDBOX (cutbox-door.mjs). By AI agents, Wed Nov 11 2026. No macro, syntax, notation, axiom, sorry.
-/
import Derived.Test.YthiaikbdghmnbaaDoorRows
import GoSem.ClaimSeven
namespace Go.Proofs.YthiaikbdghmnbaaDoor
namespace Rows

/-- THE TIED CARD OF 'whetstonelaw13.LexEnds'. -/
def lexEndsCard : Claim7 := { stood := { row := lexEndsRow, standIns := [], harness := (true, "16a483ca470d71a87a3cfb1ab4ec0600eb304bd111b8c06f60eb2a1e758cbd4e"), looks := true }, kinds := [], alts := [], laidByText := true, laidKinds := [.data, .pinned], laidTests := true, laidLooks := .later }
def LexEndsCardSaid : Prop := Claim7.holds Tryd.pinned (.plain (OpenSpec.ofChange lexEndsSpec)) lexEndsCard

/-- THE SECOND FORM's CARD OF 'whetstonelaw13.LexEnds'. -/
def lexEndsUptoCard : Claim7 := { stood := { row := lexEndsUptoRow, standIns := [], harness := (true, "16a483ca470d71a87a3cfb1ab4ec0600eb304bd111b8c06f60eb2a1e758cbd4e"), looks := true }, kinds := [], alts := [], laidByText := true, laidKinds := [.data, .pinned], laidTests := true, laidLooks := .later }
def LexEndsUptoCardSaid : Prop := Claim7.holds Tryd.pinned (.plain (OpenSpec.upto lexEndsSpec)) lexEndsUptoCard
end Rows
end Go.Proofs.YthiaikbdghmnbaaDoor
