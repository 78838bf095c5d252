/-
  No cell of these rows narrows 'for every input' (looked for: loops, veiled, ifaces, maps, wideKeys, modest, calm, conditions, laid).
  DERIVED. THE GIVEN ROWS OF THIS SEAT. 3 by the template 'for every input the law returns true; each argument reads behind the call as it read before'; 0 by the template 'total and deterministic' (their statements: YtiidlbicdkmloaaTotals.lean).
  GIVEN WITH THE SEED: the statements are not yours to turn. If you find one false, say at which input.
  Laid BY PROGRAM, IN A SANDBOX (cutbox-rows.mjs): the forced cells as the released guide's own fill.sh prints them over the translation 8445bf8647ee96b9… (all of the seat's roots in one cut). By AI agents, Wed Nov 11 2026. No macro, syntax, notation, axiom, sorry.
-/
import Derived.Test.YtiidlbicdkmloaaChecked
import GoSem.Claim
import GoSem.ClaimJoined
import GoSem.ClaimMapViews
import Derived.JoinedTies
import Derived.KernelRfl
namespace Go.Proofs.Ytiidlbicdkmloaa
/- THE CELL 'sum', in the pinned program and in every row, IS THE sha256 OF THE DUMP (.gsa) THAT YtiidlbicdkmloaaProg.lean LOADS. Nothing in Lean hashes anything: it is a label: what it is worth is what the hold of that sum in a sandbox is worth. -/
noncomputable def Try.pinned : Pinned := { name := "ytiidlbicdkmloaa", sum := "8445bf8647ee96b9e687b6b9aeb91ae7cc5ca67ac5ce780ec4e9797d1ebb22d8", checked := Try.checked }
namespace Rows
def none {H : Type} : Left H := { results := [], args := [] }

/-- 'bosunlaw28.KinPlays': WHATEVER THE INPUT: true; the input reads as it did. -/
def kinPlaysSpec : ChangeSpec := { name := "kinPlays", fn := fun _ => fun
  | [d1, d2] => { results := [.lit (.bool true)], args := [d1, d2] }
  | _ => none }
def kinPlaysRow : OpenClaim := { program := "ytiidlbicdkmloaa", sum := "8445bf8647ee96b9e687b6b9aeb91ae7cc5ca67ac5ce780ec4e9797d1ebb22d8", func := "bosun/bosunlaw28.KinPlays", spec := "kinPlays", apart := false }
def KinPlaysSaid : Prop := kinPlaysRow.holds Try.pinned (OpenSpec.ofChange kinPlaysSpec)

/-- ITS FALSE NEIGHBOUR: 'it returns false'. Refute it at one input. -/
def kinPlaysWrong : ChangeSpec := { name := "kinPlays", fn := fun _ => fun
  | [d1, d2] => { results := [.lit (.bool false)], args := [d1, d2] }
  | _ => none }
def KinPlaysWrongFalsely : Prop := kinPlaysRow.holds Try.pinned (OpenSpec.ofChange kinPlaysWrong)

/-- 'bosunlaw28.KinOnce': WHATEVER THE INPUT: true; the input reads as it did. -/
def kinOnceSpec : ChangeSpec := { name := "kinOnce", fn := fun _ => fun
  | [d1, d2, d3, d4] => { results := [.lit (.bool true)], args := [d1, d2, d3, d4] }
  | _ => none }
def kinOnceRow : OpenClaim := { program := "ytiidlbicdkmloaa", sum := "8445bf8647ee96b9e687b6b9aeb91ae7cc5ca67ac5ce780ec4e9797d1ebb22d8", func := "bosun/bosunlaw28.KinOnce", spec := "kinOnce", apart := false }
def KinOnceSaid : Prop := kinOnceRow.holds Try.pinned (OpenSpec.ofChange kinOnceSpec)

/-- ITS FALSE NEIGHBOUR: 'it returns false'. Refute it at one input. -/
def kinOnceWrong : ChangeSpec := { name := "kinOnce", fn := fun _ => fun
  | [d1, d2, d3, d4] => { results := [.lit (.bool false)], args := [d1, d2, d3, d4] }
  | _ => none }
def KinOnceWrongFalsely : Prop := kinOnceRow.holds Try.pinned (OpenSpec.ofChange kinOnceWrong)

/-- 'bosunlaw28.KinNil': WHATEVER THE INPUT: true; the input reads as it did. -/
def kinNilSpec : ChangeSpec := { name := "kinNil", fn := fun _ => fun
  | [d1, d2] => { results := [.lit (.bool true)], args := [d1, d2] }
  | _ => none }
def kinNilRow : OpenClaim := { program := "ytiidlbicdkmloaa", sum := "8445bf8647ee96b9e687b6b9aeb91ae7cc5ca67ac5ce780ec4e9797d1ebb22d8", func := "bosun/bosunlaw28.KinNil", spec := "kinNil", apart := false }
def KinNilSaid : Prop := kinNilRow.holds Try.pinned (OpenSpec.ofChange kinNilSpec)

/-- ITS FALSE NEIGHBOUR: 'it returns false'. Refute it at one input. -/
def kinNilWrong : ChangeSpec := { name := "kinNil", fn := fun _ => fun
  | [d1, d2] => { results := [.lit (.bool false)], args := [d1, d2] }
  | _ => none }
def KinNilWrongFalsely : Prop := kinNilRow.holds Try.pinned (OpenSpec.ofChange kinNilWrong)

/- THE SECOND FORM. 'bulk': how many values and letters a reading holds, each counted each time it is reached (what is shared counts as often as it is met; a slice's spare places count too). A statement '..UptoSaid' is the law's where the arguments, and the package variables that the reading takes, are together of bulk at most 1048576: NARROWER than '..Said'. Prove '..Said' where nothing that the law and all that it calls make is longer than what came in: it says more and counts as full. Else prove '..UptoSaid'. A law counts once. -/
mutual
def uptoBulk {H : Type} : DataW H → Nat
  | .lit (.string bytes) => bytes.length + 1
  | .lit _ => 1
  | .nil => 1
  | .ptr d => uptoBulk d + 1
  | .slice elems spare => uptoBulkAll elems + uptoBulkAll spare + 1
  | .agg parts => uptoBulkAll parts + 1
  | .iface _ d => uptoBulk d + 1
  | .map entries => uptoBulkEntries entries + 1
  | .held _ => 1
def uptoBulkAll {H : Type} : List (DataW H) → Nat
  | [] => 0
  | d :: r => uptoBulk d + uptoBulkAll r
def uptoBulkEntries {H : Type} : List (Lit × DataW H) → Nat
  | [] => 0
  | x :: r => uptoBulkEntry x + uptoBulkEntries r
def uptoBulkEntry {H : Type} : Lit × DataW H → Nat
  | (.string bytes, d) => bytes.length + uptoBulk d + 1
  | (_, d) => uptoBulk d + 1
 end
def uptoSmall : (H : Type) → List (DataW H) → Bool := fun _ ds => decide (uptoBulkAll ds ≤ 1048576)
def OpenSpec.upto (s : _root_.Go.ChangeSpec) : _root_.Go.OpenSpec := { _root_.Go.OpenSpec.ofChange s with cond := some uptoSmall }

/-- 'bosunlaw28.KinPlays', WHERE WHAT IT READS IS OF BULK AT MOST 1048576: true; the input reads as it did. -/
def kinPlaysUptoRow : OpenClaim := { program := "ytiidlbicdkmloaa", sum := "8445bf8647ee96b9e687b6b9aeb91ae7cc5ca67ac5ce780ec4e9797d1ebb22d8", func := "bosun/bosunlaw28.KinPlays", spec := "kinPlays", apart := false, narrowed := true }
def KinPlaysUptoSaid : Prop := kinPlaysUptoRow.holds Try.pinned (OpenSpec.upto kinPlaysSpec)

/-- 'bosunlaw28.KinOnce', WHERE WHAT IT READS IS OF BULK AT MOST 1048576: true; the input reads as it did. -/
def kinOnceUptoRow : OpenClaim := { program := "ytiidlbicdkmloaa", sum := "8445bf8647ee96b9e687b6b9aeb91ae7cc5ca67ac5ce780ec4e9797d1ebb22d8", func := "bosun/bosunlaw28.KinOnce", spec := "kinOnce", apart := false, narrowed := true }
def KinOnceUptoSaid : Prop := kinOnceUptoRow.holds Try.pinned (OpenSpec.upto kinOnceSpec)

/-- 'bosunlaw28.KinNil', WHERE WHAT IT READS IS OF BULK AT MOST 1048576: true; the input reads as it did. -/
def kinNilUptoRow : OpenClaim := { program := "ytiidlbicdkmloaa", sum := "8445bf8647ee96b9e687b6b9aeb91ae7cc5ca67ac5ce780ec4e9797d1ebb22d8", func := "bosun/bosunlaw28.KinNil", spec := "kinNil", apart := false, narrowed := true }
def KinNilUptoSaid : Prop := kinNilUptoRow.holds Try.pinned (OpenSpec.upto kinNilSpec)

end Rows
end Go.Proofs.Ytiidlbicdkmloaa
