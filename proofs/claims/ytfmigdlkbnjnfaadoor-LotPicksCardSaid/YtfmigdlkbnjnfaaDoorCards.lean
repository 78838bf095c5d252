/-
  DERIVED. GIVEN WITH THE SEED: THE CARDS: each row of YtfmigdlkbnjnfaaDoorRows.lean that lists a variable, with what it lists TIED to the program's text (the seventh form; the later family's looks); each row that meets fmt, with fmt's text TOLD by the authors' own Lean function (tested against real Go, not proved from fmt's source: count such statements apart). THE CARD IS WHAT COUNTS. Prove the row's statement (the work); the ties are given (YtfmigdlkbnjnfaaDoorTie.lean); close each card by the builder's one call (the guide's Derived/Test/ToyasCard.lean, 'card_holds'). Laid BY PROGRAM, IN A SANDBOX (cutbox-door.mjs). By AI agents, Wed Nov 11 2026. No macro, syntax, notation, axiom, sorry.
-/
import Derived.Test.YtfmigdlkbnjnfaaDoorRows
import GoSem.ClaimSeven
namespace Go.Proofs.YtfmigdlkbnjnfaaDoor
namespace Rows

/-- THE TIED CARD OF 'bosunlaw11.LotPicks'. -/
def lotPicksCard : Claim7 := { stood := { row := lotPicksRow, standIns := [], harness := (true, "b8de1ac013ab86c8be5ace6430a59ec37a3dde469315bb941a04b40996535973"), looks := false }, kinds := [], alts := [], laidByText := true, laidKinds := [.data], laidTests := true, laidLooks := .later }
def LotPicksCardSaid : Prop := Claim7.holds Tryd.pinned (.plain (OpenSpec.ofChange lotPicksSpec)) lotPicksCard

/-- THE SECOND FORM's CARD OF 'bosunlaw11.LotPicks'. -/
def lotPicksUptoCard : Claim7 := { stood := { row := lotPicksUptoRow, standIns := [], harness := (true, "b8de1ac013ab86c8be5ace6430a59ec37a3dde469315bb941a04b40996535973"), looks := false }, kinds := [], alts := [], laidByText := true, laidKinds := [.data], laidTests := true, laidLooks := .later }
def LotPicksUptoCardSaid : Prop := Claim7.holds Tryd.pinned (.plain (OpenSpec.upto lotPicksSpec)) lotPicksUptoCard
end Rows
end Go.Proofs.YtfmigdlkbnjnfaaDoor
