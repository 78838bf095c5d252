/-
  DERIVED. GIVEN WITH THE SEED: THE CARDS: each row of YtalnokbfffhhnaaDoorRows.lean that lists a variable, with what it lists TIED to the program's text (the seventh form; the later family's looks); each row that meets fmt, with fmt's text TOLD by the authors' own Lean function (tested against real Go, not proved from fmt's source: count such statements apart). THE CARD IS WHAT COUNTS. Prove the row's statement (the work); the ties are given (YtalnokbfffhhnaaDoorTie.lean); close each card by the builder's one call (the guide's Derived/Test/ToyasCard.lean, 'card_holds'). Laid BY PROGRAM, IN A SANDBOX (cutbox-door.mjs). By AI agents, Wed Nov 11 2026. No macro, syntax, notation, axiom, sorry.
-/
import Derived.Test.YtalnokbfffhhnaaDoorRows
import GoSem.ClaimSeven
namespace Go.Proofs.YtalnokbfffhhnaaDoor
namespace Rows

/-- THE TIED CARD OF 'bosunlaw22.SeatTargets'. -/
def seatTargetsCard : Claim7 := { stood := { row := seatTargetsRow, standIns := [], harness := (true, "7057da88a9ce42903a07f0c1a06523c5e72bc95b0f75583fc823d9829db3abd7"), looks := false }, kinds := [], alts := [], laidByText := true, laidKinds := [.data], laidTests := true, laidLooks := .later }
def SeatTargetsCardSaid : Prop := Claim7.holds Tryd.pinned (.plain (OpenSpec.ofChange seatTargetsSpec)) seatTargetsCard

/-- THE TIED CARD OF 'bosunlaw22.SeatIdlest'. -/
def seatIdlestCard : Claim7 := { stood := { row := seatIdlestRow, standIns := [], harness := (true, "7057da88a9ce42903a07f0c1a06523c5e72bc95b0f75583fc823d9829db3abd7"), looks := false }, kinds := [], alts := [], laidByText := true, laidKinds := [.data], laidTests := true, laidLooks := .later }
def SeatIdlestCardSaid : Prop := Claim7.holds Tryd.pinned (.plain (OpenSpec.ofChange seatIdlestSpec)) seatIdlestCard

/-- THE TIED CARD OF 'bosunlaw22.SeatSpreads'. -/
def seatSpreadsCard : Claim7 := { stood := { row := seatSpreadsRow, standIns := [], harness := (true, "7057da88a9ce42903a07f0c1a06523c5e72bc95b0f75583fc823d9829db3abd7"), looks := false }, kinds := [], alts := [], laidByText := true, laidKinds := [.data], laidTests := true, laidLooks := .later }
def SeatSpreadsCardSaid : Prop := Claim7.holds Tryd.pinned (.plain (OpenSpec.ofChange seatSpreadsSpec)) seatSpreadsCard

/-- THE TIED CARD OF 'bosunlaw22.SeatAllows'. -/
def seatAllowsCard : Claim7 := { stood := { row := seatAllowsRow, standIns := [], harness := (true, "7057da88a9ce42903a07f0c1a06523c5e72bc95b0f75583fc823d9829db3abd7"), looks := false }, kinds := [], alts := [], laidByText := true, laidKinds := [.data], laidTests := true, laidLooks := .later }
def SeatAllowsCardSaid : Prop := Claim7.holds Tryd.pinned (.plain (OpenSpec.ofChange seatAllowsSpec)) seatAllowsCard

/-- THE SECOND FORM's CARD OF 'bosunlaw22.SeatTargets'. -/
def seatTargetsUptoCard : Claim7 := { stood := { row := seatTargetsUptoRow, standIns := [], harness := (true, "7057da88a9ce42903a07f0c1a06523c5e72bc95b0f75583fc823d9829db3abd7"), looks := false }, kinds := [], alts := [], laidByText := true, laidKinds := [.data], laidTests := true, laidLooks := .later }
def SeatTargetsUptoCardSaid : Prop := Claim7.holds Tryd.pinned (.plain (OpenSpec.upto seatTargetsSpec)) seatTargetsUptoCard

/-- THE SECOND FORM's CARD OF 'bosunlaw22.SeatIdlest'. -/
def seatIdlestUptoCard : Claim7 := { stood := { row := seatIdlestUptoRow, standIns := [], harness := (true, "7057da88a9ce42903a07f0c1a06523c5e72bc95b0f75583fc823d9829db3abd7"), looks := false }, kinds := [], alts := [], laidByText := true, laidKinds := [.data], laidTests := true, laidLooks := .later }
def SeatIdlestUptoCardSaid : Prop := Claim7.holds Tryd.pinned (.plain (OpenSpec.upto seatIdlestSpec)) seatIdlestUptoCard

/-- THE SECOND FORM's CARD OF 'bosunlaw22.SeatSpreads'. -/
def seatSpreadsUptoCard : Claim7 := { stood := { row := seatSpreadsUptoRow, standIns := [], harness := (true, "7057da88a9ce42903a07f0c1a06523c5e72bc95b0f75583fc823d9829db3abd7"), looks := false }, kinds := [], alts := [], laidByText := true, laidKinds := [.data], laidTests := true, laidLooks := .later }
def SeatSpreadsUptoCardSaid : Prop := Claim7.holds Tryd.pinned (.plain (OpenSpec.upto seatSpreadsSpec)) seatSpreadsUptoCard

/-- THE SECOND FORM's CARD OF 'bosunlaw22.SeatAllows'. -/
def seatAllowsUptoCard : Claim7 := { stood := { row := seatAllowsUptoRow, standIns := [], harness := (true, "7057da88a9ce42903a07f0c1a06523c5e72bc95b0f75583fc823d9829db3abd7"), looks := false }, kinds := [], alts := [], laidByText := true, laidKinds := [.data], laidTests := true, laidLooks := .later }
def SeatAllowsUptoCardSaid : Prop := Claim7.holds Tryd.pinned (.plain (OpenSpec.upto seatAllowsSpec)) seatAllowsUptoCard
end Rows
end Go.Proofs.YtalnokbfffhhnaaDoor
