/-
  DERIVED. GIVEN WITH THE SEED: THE CARDS: each row of YtjdbgohfedjifaaGreatDoorRows.lean that lists a variable, with what it lists TIED to the program's text (the seventh form; the later family's looks); each row that meets fmt, with fmt's text TOLD by the authors' own Lean function (tested against real Go, not proved from fmt's source: count such statements apart). THE CARD IS WHAT COUNTS. Prove the row's statement (the work); the ties are given (YtjdbgohfedjifaaGreatDoorTie.lean); close each card by the builder's one call (the guide's Derived/Test/ToyasCard.lean, 'card_holds'). Laid BY PROGRAM, IN A SANDBOX (cutbox-door.mjs). By AI agents, Wed Nov 11 2026. No macro, syntax, notation, axiom, sorry.
-/
import Derived.Test.YtjdbgohfedjifaaGreatDoorRows
import GoSem.ClaimSeven
namespace Go.Proofs.YtjdbgohfedjifaaGreatDoor
namespace Rows

/-- THE TIED CARD OF 'bosunlaw18.RackPlays'. -/
def rackPlaysCard : Claim7 := { stood := { row := rackPlaysRow, standIns := [], harness := (true, "2383f36cab3c14628240f02bc7f46a1082e2b7a31953db73217e52b5822a52ed"), looks := false }, kinds := [], alts := [], laidByText := true, laidKinds := [.data], laidTests := true, laidLooks := .later }
def RackPlaysCardSaid : Prop := Claim7.holds Tryz.pinned (.plain (OpenSpec.ofChange rackPlaysSpec)) rackPlaysCard

/-- THE SECOND FORM's CARD OF 'bosunlaw18.RackPlays'. -/
def rackPlaysUptoCard : Claim7 := { stood := { row := rackPlaysUptoRow, standIns := [], harness := (true, "2383f36cab3c14628240f02bc7f46a1082e2b7a31953db73217e52b5822a52ed"), looks := false }, kinds := [], alts := [], laidByText := true, laidKinds := [.data], laidTests := true, laidLooks := .later }
def RackPlaysUptoCardSaid : Prop := Claim7.holds Tryz.pinned (.plain (OpenSpec.upto rackPlaysSpec)) rackPlaysUptoCard
end Rows
end Go.Proofs.YtjdbgohfedjifaaGreatDoor
