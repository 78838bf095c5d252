/-
  DERIVED. GIVEN WITH THE SEED: THE CARDS: each row of YtlbgabbgfgcppaaDoorRows.lean that lists a variable, with what it lists TIED to the program's text (the seventh form; the later family's looks); each row that meets fmt, with fmt's text TOLD by the authors' own Lean function (tested against real Go, not proved from fmt's source: count such statements apart). THE CARD IS WHAT COUNTS. Prove the row's statement (the work); the ties are given (YtlbgabbgfgcppaaDoorTie.lean); close each card by the builder's one call (the guide's Derived/Test/ToyasCard.lean, 'card_holds'). Laid BY PROGRAM, IN A SANDBOX (cutbox-door.mjs). By AI agents, Wed Nov 11 2026. No macro, syntax, notation, axiom, sorry.
-/
import Derived.Test.YtlbgabbgfgcppaaDoorRows
import GoSem.ClaimSeven
namespace Go.Proofs.YtlbgabbgfgcppaaDoor
namespace Rows

/-- THE TIED CARD OF 'bosunlaw01.SetsEach'. -/
def setsEachCard : Claim7 := { stood := { row := setsEachRow, standIns := [], harness := (true, "f412ae04edb3699844b072074c396e5d62d48be4b51588c9e7cc68f957b23d4e"), looks := false }, kinds := [], alts := [], laidByText := true, laidKinds := [.data, .data, .data], laidTests := true, laidLooks := .later }
def SetsEachCardSaid : Prop := Claim7.holds Tryd.pinned (.plain (OpenSpec.ofChange setsEachSpec)) setsEachCard

/-- THE TIED CARD OF 'bosunlaw01.SetsHold'. -/
def setsHoldCard : Claim7 := { stood := { row := setsHoldRow, standIns := [], harness := (true, "f412ae04edb3699844b072074c396e5d62d48be4b51588c9e7cc68f957b23d4e"), looks := false }, kinds := [], alts := [], laidByText := true, laidKinds := [.data, .data, .data], laidTests := true, laidLooks := .later }
def SetsHoldCardSaid : Prop := Claim7.holds Tryd.pinned (.plain (OpenSpec.ofChange setsHoldSpec)) setsHoldCard

/-- THE TIED CARD OF 'bosunlaw01.SetsTell'. -/
def setsTellCard : Claim7 := { stood := { row := setsTellRow, standIns := [], harness := (true, "f412ae04edb3699844b072074c396e5d62d48be4b51588c9e7cc68f957b23d4e"), looks := false }, kinds := [], alts := [], laidByText := true, laidKinds := [.data, .data, .data], laidTests := true, laidLooks := .later }
def SetsTellCardSaid : Prop := Claim7.holds Tryd.pinned (.plain (OpenSpec.ofChange setsTellSpec)) setsTellCard

/-- THE TIED CARD OF 'bosunlaw01.SetsRound'. -/
def setsRoundCard : Claim7 := { stood := { row := setsRoundRow, standIns := [], harness := (true, "f412ae04edb3699844b072074c396e5d62d48be4b51588c9e7cc68f957b23d4e"), looks := false }, kinds := [], alts := [], laidByText := true, laidKinds := [.data, .data, .data], laidTests := true, laidLooks := .later }
def SetsRoundCardSaid : Prop := Claim7.holds Tryd.pinned (.plain (OpenSpec.ofChange setsRoundSpec)) setsRoundCard

/-- THE SECOND FORM's CARD OF 'bosunlaw01.SetsEach'. -/
def setsEachUptoCard : Claim7 := { stood := { row := setsEachUptoRow, standIns := [], harness := (true, "f412ae04edb3699844b072074c396e5d62d48be4b51588c9e7cc68f957b23d4e"), looks := false }, kinds := [], alts := [], laidByText := true, laidKinds := [.data, .data, .data], laidTests := true, laidLooks := .later }
def SetsEachUptoCardSaid : Prop := Claim7.holds Tryd.pinned (.plain (OpenSpec.upto setsEachSpec)) setsEachUptoCard

/-- THE SECOND FORM's CARD OF 'bosunlaw01.SetsHold'. -/
def setsHoldUptoCard : Claim7 := { stood := { row := setsHoldUptoRow, standIns := [], harness := (true, "f412ae04edb3699844b072074c396e5d62d48be4b51588c9e7cc68f957b23d4e"), looks := false }, kinds := [], alts := [], laidByText := true, laidKinds := [.data, .data, .data], laidTests := true, laidLooks := .later }
def SetsHoldUptoCardSaid : Prop := Claim7.holds Tryd.pinned (.plain (OpenSpec.upto setsHoldSpec)) setsHoldUptoCard

/-- THE SECOND FORM's CARD OF 'bosunlaw01.SetsTell'. -/
def setsTellUptoCard : Claim7 := { stood := { row := setsTellUptoRow, standIns := [], harness := (true, "f412ae04edb3699844b072074c396e5d62d48be4b51588c9e7cc68f957b23d4e"), looks := false }, kinds := [], alts := [], laidByText := true, laidKinds := [.data, .data, .data], laidTests := true, laidLooks := .later }
def SetsTellUptoCardSaid : Prop := Claim7.holds Tryd.pinned (.plain (OpenSpec.upto setsTellSpec)) setsTellUptoCard

/-- THE SECOND FORM's CARD OF 'bosunlaw01.SetsRound'. -/
def setsRoundUptoCard : Claim7 := { stood := { row := setsRoundUptoRow, standIns := [], harness := (true, "f412ae04edb3699844b072074c396e5d62d48be4b51588c9e7cc68f957b23d4e"), looks := false }, kinds := [], alts := [], laidByText := true, laidKinds := [.data, .data, .data], laidTests := true, laidLooks := .later }
def SetsRoundUptoCardSaid : Prop := Claim7.holds Tryd.pinned (.plain (OpenSpec.upto setsRoundSpec)) setsRoundUptoCard
end Rows
end Go.Proofs.YtlbgabbgfgcppaaDoor
