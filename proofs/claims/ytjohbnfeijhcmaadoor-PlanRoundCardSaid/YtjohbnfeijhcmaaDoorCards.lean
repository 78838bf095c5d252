/-
  DERIVED. GIVEN WITH THE SEED: THE CARDS: each row of YtjohbnfeijhcmaaDoorRows.lean that lists a variable, with what it lists TIED to the program's text (the seventh form; the later family's looks); each row that meets fmt, with fmt's text TOLD by the authors' own Lean function (tested against real Go, not proved from fmt's source: count such statements apart). THE CARD IS WHAT COUNTS. Prove the row's statement (the work); the ties are given (YtjohbnfeijhcmaaDoorTie.lean); close each card by the builder's one call (the guide's Derived/Test/ToyasCard.lean, 'card_holds'). Laid BY PROGRAM, IN A SANDBOX (cutbox-door.mjs). By AI agents, Wed Nov 11 2026. No macro, syntax, notation, axiom, sorry.
-/
import Derived.Test.YtjohbnfeijhcmaaDoorRows
import GoSem.ClaimSeven
namespace Go.Proofs.YtjohbnfeijhcmaaDoor
namespace Rows

/-- THE TIED CARD OF 'bosunlaw10.PlanDecodes'. -/
def planDecodesCard : Claim7 := { stood := { row := planDecodesRow, standIns := [], harness := (true, "e6de2098ce3d890795fdd76b4de9be19a162ab7bf3c1b3fe48d672fa21a4d206"), looks := false }, kinds := [], alts := [], laidByText := true, laidKinds := [.data, .data, .data], laidTests := true, laidLooks := .later }
def PlanDecodesCardSaid : Prop := Claim7.holds Tryd.pinned (.plain (OpenSpec.ofChange planDecodesSpec)) planDecodesCard

/-- THE TIED CARD OF 'bosunlaw10.PlanBytes'. -/
def planBytesCard : Claim7 := { stood := { row := planBytesRow, standIns := [], harness := (true, "e6de2098ce3d890795fdd76b4de9be19a162ab7bf3c1b3fe48d672fa21a4d206"), looks := false }, kinds := [], alts := [], laidByText := true, laidKinds := [.data, .data, .data], laidTests := true, laidLooks := .later }
def PlanBytesCardSaid : Prop := Claim7.holds Tryd.pinned (.plain (OpenSpec.ofChange planBytesSpec)) planBytesCard

/-- THE TIED CARD OF 'bosunlaw10.PlanFair'. -/
def planFairCard : Claim7 := { stood := { row := planFairRow, standIns := [], harness := (true, "e6de2098ce3d890795fdd76b4de9be19a162ab7bf3c1b3fe48d672fa21a4d206"), looks := false }, kinds := [], alts := [], laidByText := true, laidKinds := [.data, .data, .data], laidTests := true, laidLooks := .later }
def PlanFairCardSaid : Prop := Claim7.holds Tryd.pinned (.plain (OpenSpec.ofChange planFairSpec)) planFairCard

/-- THE TIED CARD OF 'bosunlaw10.PlanRound'. -/
def planRoundCard : Claim7 := { stood := { row := planRoundRow, standIns := [], harness := (true, "e6de2098ce3d890795fdd76b4de9be19a162ab7bf3c1b3fe48d672fa21a4d206"), looks := false }, kinds := [], alts := [], laidByText := true, laidKinds := [.data, .data, .data], laidTests := true, laidLooks := .later }
def PlanRoundCardSaid : Prop := Claim7.holds Tryd.pinned (.plain (OpenSpec.ofChange planRoundSpec)) planRoundCard

/-- THE SECOND FORM's CARD OF 'bosunlaw10.PlanDecodes'. -/
def planDecodesUptoCard : Claim7 := { stood := { row := planDecodesUptoRow, standIns := [], harness := (true, "e6de2098ce3d890795fdd76b4de9be19a162ab7bf3c1b3fe48d672fa21a4d206"), looks := false }, kinds := [], alts := [], laidByText := true, laidKinds := [.data, .data, .data], laidTests := true, laidLooks := .later }
def PlanDecodesUptoCardSaid : Prop := Claim7.holds Tryd.pinned (.plain (OpenSpec.upto planDecodesSpec)) planDecodesUptoCard

/-- THE SECOND FORM's CARD OF 'bosunlaw10.PlanBytes'. -/
def planBytesUptoCard : Claim7 := { stood := { row := planBytesUptoRow, standIns := [], harness := (true, "e6de2098ce3d890795fdd76b4de9be19a162ab7bf3c1b3fe48d672fa21a4d206"), looks := false }, kinds := [], alts := [], laidByText := true, laidKinds := [.data, .data, .data], laidTests := true, laidLooks := .later }
def PlanBytesUptoCardSaid : Prop := Claim7.holds Tryd.pinned (.plain (OpenSpec.upto planBytesSpec)) planBytesUptoCard

/-- THE SECOND FORM's CARD OF 'bosunlaw10.PlanFair'. -/
def planFairUptoCard : Claim7 := { stood := { row := planFairUptoRow, standIns := [], harness := (true, "e6de2098ce3d890795fdd76b4de9be19a162ab7bf3c1b3fe48d672fa21a4d206"), looks := false }, kinds := [], alts := [], laidByText := true, laidKinds := [.data, .data, .data], laidTests := true, laidLooks := .later }
def PlanFairUptoCardSaid : Prop := Claim7.holds Tryd.pinned (.plain (OpenSpec.upto planFairSpec)) planFairUptoCard

/-- THE SECOND FORM's CARD OF 'bosunlaw10.PlanRound'. -/
def planRoundUptoCard : Claim7 := { stood := { row := planRoundUptoRow, standIns := [], harness := (true, "e6de2098ce3d890795fdd76b4de9be19a162ab7bf3c1b3fe48d672fa21a4d206"), looks := false }, kinds := [], alts := [], laidByText := true, laidKinds := [.data, .data, .data], laidTests := true, laidLooks := .later }
def PlanRoundUptoCardSaid : Prop := Claim7.holds Tryd.pinned (.plain (OpenSpec.upto planRoundSpec)) planRoundUptoCard
end Rows
end Go.Proofs.YtjohbnfeijhcmaaDoor
