/-
  DERIVED. GIVEN WITH THE SEED: THE CARDS: each row of YtjdbgohfedjifaaDoorRows.lean that lists a variable, with what it lists TIED to the program's text (the seventh form; the later family's looks); each row that meets fmt, with fmt's text TOLD by the authors' own Lean function (tested against real Go, not proved from fmt's source: count such statements apart). THE CARD IS WHAT COUNTS. Prove the row's statement (the work); the ties are given (YtjdbgohfedjifaaDoorTie.lean); close each card by the builder's one call (the guide's Derived/Test/ToyasCard.lean, 'card_holds'). Laid BY PROGRAM, IN A SANDBOX (cutbox-door.mjs). By AI agents, Wed Nov 11 2026. No macro, syntax, notation, axiom, sorry.
-/
import Derived.Test.YtjdbgohfedjifaaDoorRows
import GoSem.ClaimSeven
namespace Go.Proofs.YtjdbgohfedjifaaDoor
namespace Rows

/-- THE TIED CARD OF 'bosunlaw18.RackBest'. -/
def rackBestCard : Claim7 := { stood := { row := rackBestRow, standIns := [], harness := (true, "f2ac015cfcad8b9e9ba530f5d489e61c0ce65f5fd1c151d9bebe3db744648638"), looks := false }, kinds := [], alts := [], laidByText := true, laidKinds := [.data], laidTests := true, laidLooks := .later }
def RackBestCardSaid : Prop := Claim7.holds Tryd.pinned (.plain (OpenSpec.ofChange rackBestSpec)) rackBestCard

/-- THE TIED CARD OF 'bosunlaw18.RackSweeps'. -/
def rackSweepsCard : Claim7 := { stood := { row := rackSweepsRow, standIns := [], harness := (true, "f2ac015cfcad8b9e9ba530f5d489e61c0ce65f5fd1c151d9bebe3db744648638"), looks := false }, kinds := [], alts := [], laidByText := true, laidKinds := [.data], laidTests := true, laidLooks := .later }
def RackSweepsCardSaid : Prop := Claim7.holds Tryd.pinned (.plain (OpenSpec.ofChange rackSweepsSpec)) rackSweepsCard

/-- THE TIED CARD OF 'bosunlaw18.RackOnce'. -/
def rackOnceCard : Claim7 := { stood := { row := rackOnceRow, standIns := [], harness := (true, "f2ac015cfcad8b9e9ba530f5d489e61c0ce65f5fd1c151d9bebe3db744648638"), looks := false }, kinds := [], alts := [], laidByText := true, laidKinds := [.data], laidTests := true, laidLooks := .later }
def RackOnceCardSaid : Prop := Claim7.holds Tryd.pinned (.plain (OpenSpec.ofChange rackOnceSpec)) rackOnceCard

/-- THE TIED CARD OF 'bosunlaw18.RackNil'. -/
def rackNilCard : Claim7 := { stood := { row := rackNilRow, standIns := [], harness := (true, "f2ac015cfcad8b9e9ba530f5d489e61c0ce65f5fd1c151d9bebe3db744648638"), looks := false }, kinds := [], alts := [], laidByText := true, laidKinds := [.data], laidTests := true, laidLooks := .later }
def RackNilCardSaid : Prop := Claim7.holds Tryd.pinned (.plain (OpenSpec.ofChange rackNilSpec)) rackNilCard

/-- THE SECOND FORM's CARD OF 'bosunlaw18.RackBest'. -/
def rackBestUptoCard : Claim7 := { stood := { row := rackBestUptoRow, standIns := [], harness := (true, "f2ac015cfcad8b9e9ba530f5d489e61c0ce65f5fd1c151d9bebe3db744648638"), looks := false }, kinds := [], alts := [], laidByText := true, laidKinds := [.data], laidTests := true, laidLooks := .later }
def RackBestUptoCardSaid : Prop := Claim7.holds Tryd.pinned (.plain (OpenSpec.upto rackBestSpec)) rackBestUptoCard

/-- THE SECOND FORM's CARD OF 'bosunlaw18.RackSweeps'. -/
def rackSweepsUptoCard : Claim7 := { stood := { row := rackSweepsUptoRow, standIns := [], harness := (true, "f2ac015cfcad8b9e9ba530f5d489e61c0ce65f5fd1c151d9bebe3db744648638"), looks := false }, kinds := [], alts := [], laidByText := true, laidKinds := [.data], laidTests := true, laidLooks := .later }
def RackSweepsUptoCardSaid : Prop := Claim7.holds Tryd.pinned (.plain (OpenSpec.upto rackSweepsSpec)) rackSweepsUptoCard

/-- THE SECOND FORM's CARD OF 'bosunlaw18.RackOnce'. -/
def rackOnceUptoCard : Claim7 := { stood := { row := rackOnceUptoRow, standIns := [], harness := (true, "f2ac015cfcad8b9e9ba530f5d489e61c0ce65f5fd1c151d9bebe3db744648638"), looks := false }, kinds := [], alts := [], laidByText := true, laidKinds := [.data], laidTests := true, laidLooks := .later }
def RackOnceUptoCardSaid : Prop := Claim7.holds Tryd.pinned (.plain (OpenSpec.upto rackOnceSpec)) rackOnceUptoCard

/-- THE SECOND FORM's CARD OF 'bosunlaw18.RackNil'. -/
def rackNilUptoCard : Claim7 := { stood := { row := rackNilUptoRow, standIns := [], harness := (true, "f2ac015cfcad8b9e9ba530f5d489e61c0ce65f5fd1c151d9bebe3db744648638"), looks := false }, kinds := [], alts := [], laidByText := true, laidKinds := [.data], laidTests := true, laidLooks := .later }
def RackNilUptoCardSaid : Prop := Claim7.holds Tryd.pinned (.plain (OpenSpec.upto rackNilSpec)) rackNilUptoCard
end Rows
end Go.Proofs.YtjdbgohfedjifaaDoor
