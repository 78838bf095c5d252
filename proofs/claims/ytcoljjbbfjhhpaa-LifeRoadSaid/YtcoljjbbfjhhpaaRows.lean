/-
  No cell of these rows narrows 'for every input' (looked for: loops, veiled, ifaces, maps, wideKeys, modest, calm, conditions, laid).
  DERIVED. THE GIVEN ROWS OF THIS SEAT. 4 by the template 'for every input the law returns true; each argument reads behind the call as it read before'; 0 by the template 'total and deterministic' (their statements: YtcoljjbbfjhhpaaTotals.lean).
  GIVEN WITH THE SEED: the statements are not yours to turn. If you find one false, say at which input.
  Laid BY PROGRAM, IN A SANDBOX (cutbox-rows.mjs): the forced cells as the released guide's own fill.sh prints them over the translation d54be47a25263365… (all of the seat's roots in one cut). By AI agents, Wed Nov 11 2026. No macro, syntax, notation, axiom, sorry.
-/
import Derived.Test.YtcoljjbbfjhhpaaChecked
import GoSem.Claim
import GoSem.ClaimJoined
import GoSem.ClaimMapViews
import Derived.JoinedTies
import Derived.KernelRfl
namespace Go.Proofs.Ytcoljjbbfjhhpaa
/- THE CELL 'sum', in the pinned program and in every row, IS THE sha256 OF THE DUMP (.gsa) THAT YtcoljjbbfjhhpaaProg.lean LOADS. Nothing in Lean hashes anything: it is a label: what it is worth is what the hold of that sum in a sandbox is worth. -/
noncomputable def Try.pinned : Pinned := { name := "ytcoljjbbfjhhpaa", sum := "d54be47a25263365e74603e8f5c379bb2e851e321e9defc14e4307d0862b1c81", checked := Try.checked }
namespace Rows
def none {H : Type} : Left H := { results := [], args := [] }

/-- 'bosunlaw21.LifeRoad': WHATEVER THE INPUT: true; the input reads as it did. -/
def lifeRoadSpec : ChangeSpec := { name := "lifeRoad", fn := fun _ => fun
  | [d1, d2] => { results := [.lit (.bool true)], args := [d1, d2] }
  | _ => none }
def lifeRoadRow : OpenClaim := { program := "ytcoljjbbfjhhpaa", sum := "d54be47a25263365e74603e8f5c379bb2e851e321e9defc14e4307d0862b1c81", func := "bosun/bosunlaw21.LifeRoad", spec := "lifeRoad", apart := false }
def LifeRoadSaid : Prop := lifeRoadRow.holds Try.pinned (OpenSpec.ofChange lifeRoadSpec)

/-- ITS FALSE NEIGHBOUR: 'it returns false'. Refute it at one input. -/
def lifeRoadWrong : ChangeSpec := { name := "lifeRoad", fn := fun _ => fun
  | [d1, d2] => { results := [.lit (.bool false)], args := [d1, d2] }
  | _ => none }
def LifeRoadWrongFalsely : Prop := lifeRoadRow.holds Try.pinned (OpenSpec.ofChange lifeRoadWrong)

/-- 'bosunlaw21.LifeMoves': WHATEVER THE INPUT: true; the input reads as it did. -/
def lifeMovesSpec : ChangeSpec := { name := "lifeMoves", fn := fun _ => fun
  | [d1, d2] => { results := [.lit (.bool true)], args := [d1, d2] }
  | _ => none }
def lifeMovesRow : OpenClaim := { program := "ytcoljjbbfjhhpaa", sum := "d54be47a25263365e74603e8f5c379bb2e851e321e9defc14e4307d0862b1c81", func := "bosun/bosunlaw21.LifeMoves", spec := "lifeMoves", apart := false }
def LifeMovesSaid : Prop := lifeMovesRow.holds Try.pinned (OpenSpec.ofChange lifeMovesSpec)

/-- ITS FALSE NEIGHBOUR: 'it returns false'. Refute it at one input. -/
def lifeMovesWrong : ChangeSpec := { name := "lifeMoves", fn := fun _ => fun
  | [d1, d2] => { results := [.lit (.bool false)], args := [d1, d2] }
  | _ => none }
def LifeMovesWrongFalsely : Prop := lifeMovesRow.holds Try.pinned (OpenSpec.ofChange lifeMovesWrong)

/-- 'bosunlaw21.LifeWalks': WHATEVER THE INPUT: true; the input reads as it did. -/
def lifeWalksSpec : ChangeSpec := { name := "lifeWalks", fn := fun _ => fun
  | [d1, d2] => { results := [.lit (.bool true)], args := [d1, d2] }
  | _ => none }
def lifeWalksRow : OpenClaim := { program := "ytcoljjbbfjhhpaa", sum := "d54be47a25263365e74603e8f5c379bb2e851e321e9defc14e4307d0862b1c81", func := "bosun/bosunlaw21.LifeWalks", spec := "lifeWalks", apart := false }
def LifeWalksSaid : Prop := lifeWalksRow.holds Try.pinned (OpenSpec.ofChange lifeWalksSpec)

/-- ITS FALSE NEIGHBOUR: 'it returns false'. Refute it at one input. -/
def lifeWalksWrong : ChangeSpec := { name := "lifeWalks", fn := fun _ => fun
  | [d1, d2] => { results := [.lit (.bool false)], args := [d1, d2] }
  | _ => none }
def LifeWalksWrongFalsely : Prop := lifeWalksRow.holds Try.pinned (OpenSpec.ofChange lifeWalksWrong)

/-- 'bosunlaw21.LifeWays': WHATEVER THE INPUT: true; the input reads as it did. -/
def lifeWaysSpec : ChangeSpec := { name := "lifeWays", fn := fun _ => fun
  | [d1, d2] => { results := [.lit (.bool true)], args := [d1, d2] }
  | _ => none }
def lifeWaysRow : OpenClaim := { program := "ytcoljjbbfjhhpaa", sum := "d54be47a25263365e74603e8f5c379bb2e851e321e9defc14e4307d0862b1c81", func := "bosun/bosunlaw21.LifeWays", spec := "lifeWays", apart := false }
def LifeWaysSaid : Prop := lifeWaysRow.holds Try.pinned (OpenSpec.ofChange lifeWaysSpec)

/-- ITS FALSE NEIGHBOUR: 'it returns false'. Refute it at one input. -/
def lifeWaysWrong : ChangeSpec := { name := "lifeWays", fn := fun _ => fun
  | [d1, d2] => { results := [.lit (.bool false)], args := [d1, d2] }
  | _ => none }
def LifeWaysWrongFalsely : Prop := lifeWaysRow.holds Try.pinned (OpenSpec.ofChange lifeWaysWrong)

/- THE SECOND FORM. 'bulk': how many values and letters a reading holds, each counted each time it is reached (what is shared counts as often as it is met; a slice's spare places count too). A statement '..UptoSaid' is the law's where the arguments, and the package variables that the reading takes, are together of bulk at most 1048576: NARROWER than '..Said'. Prove '..Said' where nothing that the law and all that it calls make is longer than what came in: it says more and counts as full. Else prove '..UptoSaid'. A law counts once. -/
mutual
def uptoBulk {H : Type} : DataW H → Nat
  | .lit (.string bytes) => bytes.length + 1
  | .lit _ => 1
  | .nil => 1
  | .ptr d => uptoBulk d + 1
  | .slice elems spare => uptoBulkAll elems + uptoBulkAll spare + 1
  | .agg parts => uptoBulkAll parts + 1
  | .iface _ d => uptoBulk d + 1
  | .map entries => uptoBulkEntries entries + 1
  | .held _ => 1
def uptoBulkAll {H : Type} : List (DataW H) → Nat
  | [] => 0
  | d :: r => uptoBulk d + uptoBulkAll r
def uptoBulkEntries {H : Type} : List (Lit × DataW H) → Nat
  | [] => 0
  | x :: r => uptoBulkEntry x + uptoBulkEntries r
def uptoBulkEntry {H : Type} : Lit × DataW H → Nat
  | (.string bytes, d) => bytes.length + uptoBulk d + 1
  | (_, d) => uptoBulk d + 1
 end
def uptoSmall : (H : Type) → List (DataW H) → Bool := fun _ ds => decide (uptoBulkAll ds ≤ 1048576)
def OpenSpec.upto (s : _root_.Go.ChangeSpec) : _root_.Go.OpenSpec := { _root_.Go.OpenSpec.ofChange s with cond := some uptoSmall }

/-- 'bosunlaw21.LifeRoad', WHERE WHAT IT READS IS OF BULK AT MOST 1048576: true; the input reads as it did. -/
def lifeRoadUptoRow : OpenClaim := { program := "ytcoljjbbfjhhpaa", sum := "d54be47a25263365e74603e8f5c379bb2e851e321e9defc14e4307d0862b1c81", func := "bosun/bosunlaw21.LifeRoad", spec := "lifeRoad", apart := false, narrowed := true }
def LifeRoadUptoSaid : Prop := lifeRoadUptoRow.holds Try.pinned (OpenSpec.upto lifeRoadSpec)

/-- 'bosunlaw21.LifeMoves', WHERE WHAT IT READS IS OF BULK AT MOST 1048576: true; the input reads as it did. -/
def lifeMovesUptoRow : OpenClaim := { program := "ytcoljjbbfjhhpaa", sum := "d54be47a25263365e74603e8f5c379bb2e851e321e9defc14e4307d0862b1c81", func := "bosun/bosunlaw21.LifeMoves", spec := "lifeMoves", apart := false, narrowed := true }
def LifeMovesUptoSaid : Prop := lifeMovesUptoRow.holds Try.pinned (OpenSpec.upto lifeMovesSpec)

/-- 'bosunlaw21.LifeWalks', WHERE WHAT IT READS IS OF BULK AT MOST 1048576: true; the input reads as it did. -/
def lifeWalksUptoRow : OpenClaim := { program := "ytcoljjbbfjhhpaa", sum := "d54be47a25263365e74603e8f5c379bb2e851e321e9defc14e4307d0862b1c81", func := "bosun/bosunlaw21.LifeWalks", spec := "lifeWalks", apart := false, narrowed := true }
def LifeWalksUptoSaid : Prop := lifeWalksUptoRow.holds Try.pinned (OpenSpec.upto lifeWalksSpec)

/-- 'bosunlaw21.LifeWays', WHERE WHAT IT READS IS OF BULK AT MOST 1048576: true; the input reads as it did. -/
def lifeWaysUptoRow : OpenClaim := { program := "ytcoljjbbfjhhpaa", sum := "d54be47a25263365e74603e8f5c379bb2e851e321e9defc14e4307d0862b1c81", func := "bosun/bosunlaw21.LifeWays", spec := "lifeWays", apart := false, narrowed := true }
def LifeWaysUptoSaid : Prop := lifeWaysUptoRow.holds Try.pinned (OpenSpec.upto lifeWaysSpec)

end Rows
end Go.Proofs.Ytcoljjbbfjhhpaa
