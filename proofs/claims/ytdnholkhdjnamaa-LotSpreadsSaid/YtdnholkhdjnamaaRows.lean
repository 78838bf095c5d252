/-
  No cell of these rows narrows 'for every input' (looked for: loops, veiled, ifaces, maps, wideKeys, modest, calm, conditions, laid).
  DERIVED. THE GIVEN ROWS OF THIS SEAT. 3 by the template 'for every input the law returns true; each argument reads behind the call as it read before'; 0 by the template 'total and deterministic' (their statements: YtdnholkhdjnamaaTotals.lean).
  GIVEN WITH THE SEED: the statements are not yours to turn. If you find one false, say at which input.
  Laid BY PROGRAM, IN A SANDBOX (cutbox-rows.mjs): the forced cells as the released guide's own fill.sh prints them over the translation c6d80f377346feb5… (all of the seat's roots in one cut). By AI agents, Wed Nov 11 2026. No macro, syntax, notation, axiom, sorry.
-/
import Derived.Test.YtdnholkhdjnamaaChecked
import GoSem.Claim
import GoSem.ClaimJoined
import GoSem.ClaimMapViews
import Derived.JoinedTies
import Derived.KernelRfl
namespace Go.Proofs.Ytdnholkhdjnamaa
/- THE CELL 'sum', in the pinned program and in every row, IS THE sha256 OF THE DUMP (.gsa) THAT YtdnholkhdjnamaaProg.lean LOADS. Nothing in Lean hashes anything: it is a label: what it is worth is what the hold of that sum in a sandbox is worth. -/
noncomputable def Try.pinned : Pinned := { name := "ytdnholkhdjnamaa", sum := "c6d80f377346feb5539ef60b3c2eba5ff12b48a3178bb2f0d3f2bdc3645d014c", checked := Try.checked }
namespace Rows
def none {H : Type} : Left H := { results := [], args := [] }

/-- 'bosunlaw11.LotVictims': WHATEVER THE INPUT: true; the input reads as it did. -/
def lotVictimsSpec : ChangeSpec := { name := "lotVictims", fn := fun _ => fun
  | [d1, d2] => { results := [.lit (.bool true)], args := [d1, d2] }
  | _ => none }
def lotVictimsRow : OpenClaim := { program := "ytdnholkhdjnamaa", sum := "c6d80f377346feb5539ef60b3c2eba5ff12b48a3178bb2f0d3f2bdc3645d014c", func := "bosun/bosunlaw11.LotVictims", spec := "lotVictims", apart := false }
def LotVictimsSaid : Prop := lotVictimsRow.holds Try.pinned (OpenSpec.ofChange lotVictimsSpec)

/-- ITS FALSE NEIGHBOUR: 'it returns false'. Refute it at one input. -/
def lotVictimsWrong : ChangeSpec := { name := "lotVictims", fn := fun _ => fun
  | [d1, d2] => { results := [.lit (.bool false)], args := [d1, d2] }
  | _ => none }
def LotVictimsWrongFalsely : Prop := lotVictimsRow.holds Try.pinned (OpenSpec.ofChange lotVictimsWrong)

/-- 'bosunlaw11.LotOrders': WHATEVER THE INPUT: true; the input reads as it did. -/
def lotOrdersSpec : ChangeSpec := { name := "lotOrders", fn := fun _ => fun
  | [d1, d2, d3] => { results := [.lit (.bool true)], args := [d1, d2, d3] }
  | _ => none }
def lotOrdersRow : OpenClaim := { program := "ytdnholkhdjnamaa", sum := "c6d80f377346feb5539ef60b3c2eba5ff12b48a3178bb2f0d3f2bdc3645d014c", func := "bosun/bosunlaw11.LotOrders", spec := "lotOrders", apart := false }
def LotOrdersSaid : Prop := lotOrdersRow.holds Try.pinned (OpenSpec.ofChange lotOrdersSpec)

/-- ITS FALSE NEIGHBOUR: 'it returns false'. Refute it at one input. -/
def lotOrdersWrong : ChangeSpec := { name := "lotOrders", fn := fun _ => fun
  | [d1, d2, d3] => { results := [.lit (.bool false)], args := [d1, d2, d3] }
  | _ => none }
def LotOrdersWrongFalsely : Prop := lotOrdersRow.holds Try.pinned (OpenSpec.ofChange lotOrdersWrong)

/-- 'bosunlaw11.LotSpreads': WHATEVER THE INPUT: true; the input reads as it did. -/
def lotSpreadsSpec : ChangeSpec := { name := "lotSpreads", fn := fun _ => fun
  | [d1, d2] => { results := [.lit (.bool true)], args := [d1, d2] }
  | _ => none }
def lotSpreadsRow : OpenClaim := { program := "ytdnholkhdjnamaa", sum := "c6d80f377346feb5539ef60b3c2eba5ff12b48a3178bb2f0d3f2bdc3645d014c", func := "bosun/bosunlaw11.LotSpreads", spec := "lotSpreads", apart := false }
def LotSpreadsSaid : Prop := lotSpreadsRow.holds Try.pinned (OpenSpec.ofChange lotSpreadsSpec)

/-- ITS FALSE NEIGHBOUR: 'it returns false'. Refute it at one input. -/
def lotSpreadsWrong : ChangeSpec := { name := "lotSpreads", fn := fun _ => fun
  | [d1, d2] => { results := [.lit (.bool false)], args := [d1, d2] }
  | _ => none }
def LotSpreadsWrongFalsely : Prop := lotSpreadsRow.holds Try.pinned (OpenSpec.ofChange lotSpreadsWrong)

/- THE SECOND FORM. 'bulk': how many values and letters a reading holds, each counted each time it is reached (what is shared counts as often as it is met; a slice's spare places count too). A statement '..UptoSaid' is the law's where the arguments, and the package variables that the reading takes, are together of bulk at most 1048576: NARROWER than '..Said'. Prove '..Said' where nothing that the law and all that it calls make is longer than what came in: it says more and counts as full. Else prove '..UptoSaid'. A law counts once. -/
mutual
def uptoBulk {H : Type} : DataW H → Nat
  | .lit (.string bytes) => bytes.length + 1
  | .lit _ => 1
  | .nil => 1
  | .ptr d => uptoBulk d + 1
  | .slice elems spare => uptoBulkAll elems + uptoBulkAll spare + 1
  | .agg parts => uptoBulkAll parts + 1
  | .iface _ d => uptoBulk d + 1
  | .map entries => uptoBulkEntries entries + 1
  | .held _ => 1
def uptoBulkAll {H : Type} : List (DataW H) → Nat
  | [] => 0
  | d :: r => uptoBulk d + uptoBulkAll r
def uptoBulkEntries {H : Type} : List (Lit × DataW H) → Nat
  | [] => 0
  | x :: r => uptoBulkEntry x + uptoBulkEntries r
def uptoBulkEntry {H : Type} : Lit × DataW H → Nat
  | (.string bytes, d) => bytes.length + uptoBulk d + 1
  | (_, d) => uptoBulk d + 1
 end
def uptoSmall : (H : Type) → List (DataW H) → Bool := fun _ ds => decide (uptoBulkAll ds ≤ 1048576)
def OpenSpec.upto (s : _root_.Go.ChangeSpec) : _root_.Go.OpenSpec := { _root_.Go.OpenSpec.ofChange s with cond := some uptoSmall }

/-- 'bosunlaw11.LotVictims', WHERE WHAT IT READS IS OF BULK AT MOST 1048576: true; the input reads as it did. -/
def lotVictimsUptoRow : OpenClaim := { program := "ytdnholkhdjnamaa", sum := "c6d80f377346feb5539ef60b3c2eba5ff12b48a3178bb2f0d3f2bdc3645d014c", func := "bosun/bosunlaw11.LotVictims", spec := "lotVictims", apart := false, narrowed := true }
def LotVictimsUptoSaid : Prop := lotVictimsUptoRow.holds Try.pinned (OpenSpec.upto lotVictimsSpec)

/-- 'bosunlaw11.LotOrders', WHERE WHAT IT READS IS OF BULK AT MOST 1048576: true; the input reads as it did. -/
def lotOrdersUptoRow : OpenClaim := { program := "ytdnholkhdjnamaa", sum := "c6d80f377346feb5539ef60b3c2eba5ff12b48a3178bb2f0d3f2bdc3645d014c", func := "bosun/bosunlaw11.LotOrders", spec := "lotOrders", apart := false, narrowed := true }
def LotOrdersUptoSaid : Prop := lotOrdersUptoRow.holds Try.pinned (OpenSpec.upto lotOrdersSpec)

/-- 'bosunlaw11.LotSpreads', WHERE WHAT IT READS IS OF BULK AT MOST 1048576: true; the input reads as it did. -/
def lotSpreadsUptoRow : OpenClaim := { program := "ytdnholkhdjnamaa", sum := "c6d80f377346feb5539ef60b3c2eba5ff12b48a3178bb2f0d3f2bdc3645d014c", func := "bosun/bosunlaw11.LotSpreads", spec := "lotSpreads", apart := false, narrowed := true }
def LotSpreadsUptoSaid : Prop := lotSpreadsUptoRow.holds Try.pinned (OpenSpec.upto lotSpreadsSpec)

end Rows
end Go.Proofs.Ytdnholkhdjnamaa
