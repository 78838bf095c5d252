/-
  No cell of these rows narrows 'for every input' (looked for: loops, veiled, ifaces, maps, wideKeys, modest, calm, conditions, laid).
  DERIVED. THE GIVEN ROWS OF THIS SEAT. 5 by the template 'for every input the law returns true; each argument reads behind the call as it read before'; 0 by the template 'total and deterministic' (their statements: YtknfpnifhpbojaaTotals.lean).
  GIVEN WITH THE SEED: the statements are not yours to turn. If you find one false, say at which input.
  Laid BY PROGRAM, IN A SANDBOX (cutbox-rows.mjs): the forced cells as the released guide's own fill.sh prints them over the translation fcefd4f94a16dc36… (all of the seat's roots in one cut). By AI agents, Wed Nov 11 2026. No macro, syntax, notation, axiom, sorry.
-/
import Derived.Test.YtknfpnifhpbojaaChecked
import GoSem.Claim
import GoSem.ClaimJoined
import GoSem.ClaimMapViews
import Derived.JoinedTies
import Derived.KernelRfl
namespace Go.Proofs.Ytknfpnifhpbojaa
/- THE CELL 'sum', in the pinned program and in every row, IS THE sha256 OF THE DUMP (.gsa) THAT YtknfpnifhpbojaaProg.lean LOADS. Nothing in Lean hashes anything: it is a label: what it is worth is what the hold of that sum in a sandbox is worth. -/
noncomputable def Try.pinned : Pinned := { name := "ytknfpnifhpbojaa", sum := "fcefd4f94a16dc364697997ae43d1e6e470fe0b5f9ec7c91556c499ad9b57fc7", checked := Try.checked }
namespace Rows
def none {H : Type} : Left H := { results := [], args := [] }

/-- 'bosunlaw12.GaugeMixes': WHATEVER THE INPUT: true; the input reads as it did. -/
def gaugeMixesSpec : ChangeSpec := { name := "gaugeMixes", fn := fun _ => fun
  | [d1, d2, d3] => { results := [.lit (.bool true)], args := [d1, d2, d3] }
  | _ => none }
def gaugeMixesRow : OpenClaim := { program := "ytknfpnifhpbojaa", sum := "fcefd4f94a16dc364697997ae43d1e6e470fe0b5f9ec7c91556c499ad9b57fc7", func := "bosun/bosunlaw12.GaugeMixes", spec := "gaugeMixes", inPlace := ["math.Float64bits", "math.Float64frombits"], apart := false }
def GaugeMixesSaid : Prop := gaugeMixesRow.holds Try.pinned (OpenSpec.ofChange gaugeMixesSpec)

/-- ITS FALSE NEIGHBOUR: 'it returns false'. Refute it at one input. -/
def gaugeMixesWrong : ChangeSpec := { name := "gaugeMixes", fn := fun _ => fun
  | [d1, d2, d3] => { results := [.lit (.bool false)], args := [d1, d2, d3] }
  | _ => none }
def GaugeMixesWrongFalsely : Prop := gaugeMixesRow.holds Try.pinned (OpenSpec.ofChange gaugeMixesWrong)

/-- 'bosunlaw12.GaugeBetween': WHATEVER THE INPUT: true; the input reads as it did. -/
def gaugeBetweenSpec : ChangeSpec := { name := "gaugeBetween", fn := fun _ => fun
  | [d1, d2, d3] => { results := [.lit (.bool true)], args := [d1, d2, d3] }
  | _ => none }
def gaugeBetweenRow : OpenClaim := { program := "ytknfpnifhpbojaa", sum := "fcefd4f94a16dc364697997ae43d1e6e470fe0b5f9ec7c91556c499ad9b57fc7", func := "bosun/bosunlaw12.GaugeBetween", spec := "gaugeBetween", inPlace := ["math.Float64bits", "math.Float64frombits"], apart := false }
def GaugeBetweenSaid : Prop := gaugeBetweenRow.holds Try.pinned (OpenSpec.ofChange gaugeBetweenSpec)

/-- ITS FALSE NEIGHBOUR: 'it returns false'. Refute it at one input. -/
def gaugeBetweenWrong : ChangeSpec := { name := "gaugeBetween", fn := fun _ => fun
  | [d1, d2, d3] => { results := [.lit (.bool false)], args := [d1, d2, d3] }
  | _ => none }
def GaugeBetweenWrongFalsely : Prop := gaugeBetweenRow.holds Try.pinned (OpenSpec.ofChange gaugeBetweenWrong)

/-- 'bosunlaw12.GaugeHeavy': WHATEVER THE INPUT: true; the input reads as it did. -/
def gaugeHeavySpec : ChangeSpec := { name := "gaugeHeavy", fn := fun _ => fun
  | [d1, d2, d3, d4] => { results := [.lit (.bool true)], args := [d1, d2, d3, d4] }
  | _ => none }
def gaugeHeavyRow : OpenClaim := { program := "ytknfpnifhpbojaa", sum := "fcefd4f94a16dc364697997ae43d1e6e470fe0b5f9ec7c91556c499ad9b57fc7", func := "bosun/bosunlaw12.GaugeHeavy", spec := "gaugeHeavy", inPlace := ["math.Float64bits", "math.Float64frombits"], apart := false }
def GaugeHeavySaid : Prop := gaugeHeavyRow.holds Try.pinned (OpenSpec.ofChange gaugeHeavySpec)

/-- ITS FALSE NEIGHBOUR: 'it returns false'. Refute it at one input. -/
def gaugeHeavyWrong : ChangeSpec := { name := "gaugeHeavy", fn := fun _ => fun
  | [d1, d2, d3, d4] => { results := [.lit (.bool false)], args := [d1, d2, d3, d4] }
  | _ => none }
def GaugeHeavyWrongFalsely : Prop := gaugeHeavyRow.holds Try.pinned (OpenSpec.ofChange gaugeHeavyWrong)

/-- 'bosunlaw12.GaugeOrders': WHATEVER THE INPUT: true; the input reads as it did. -/
def gaugeOrdersSpec : ChangeSpec := { name := "gaugeOrders", fn := fun _ => fun
  | [d1, d2, d3] => { results := [.lit (.bool true)], args := [d1, d2, d3] }
  | _ => none }
def gaugeOrdersRow : OpenClaim := { program := "ytknfpnifhpbojaa", sum := "fcefd4f94a16dc364697997ae43d1e6e470fe0b5f9ec7c91556c499ad9b57fc7", func := "bosun/bosunlaw12.GaugeOrders", spec := "gaugeOrders", inPlace := ["math.Float64frombits", "math.Float64bits"], apart := false }
def GaugeOrdersSaid : Prop := gaugeOrdersRow.holds Try.pinned (OpenSpec.ofChange gaugeOrdersSpec)

/-- ITS FALSE NEIGHBOUR: 'it returns false'. Refute it at one input. -/
def gaugeOrdersWrong : ChangeSpec := { name := "gaugeOrders", fn := fun _ => fun
  | [d1, d2, d3] => { results := [.lit (.bool false)], args := [d1, d2, d3] }
  | _ => none }
def GaugeOrdersWrongFalsely : Prop := gaugeOrdersRow.holds Try.pinned (OpenSpec.ofChange gaugeOrdersWrong)

/-- 'bosunlaw12.GaugeFolds': WHATEVER THE INPUT: true; the input reads as it did. -/
def gaugeFoldsSpec : ChangeSpec := { name := "gaugeFolds", fn := fun _ => fun
  | [d1, d2, d3] => { results := [.lit (.bool true)], args := [d1, d2, d3] }
  | _ => none }
def gaugeFoldsRow : OpenClaim := { program := "ytknfpnifhpbojaa", sum := "fcefd4f94a16dc364697997ae43d1e6e470fe0b5f9ec7c91556c499ad9b57fc7", func := "bosun/bosunlaw12.GaugeFolds", spec := "gaugeFolds", inPlace := ["math.Float64bits", "math.Float64frombits"], apart := false }
def GaugeFoldsSaid : Prop := gaugeFoldsRow.holds Try.pinned (OpenSpec.ofChange gaugeFoldsSpec)

/-- ITS FALSE NEIGHBOUR: 'it returns false'. Refute it at one input. -/
def gaugeFoldsWrong : ChangeSpec := { name := "gaugeFolds", fn := fun _ => fun
  | [d1, d2, d3] => { results := [.lit (.bool false)], args := [d1, d2, d3] }
  | _ => none }
def GaugeFoldsWrongFalsely : Prop := gaugeFoldsRow.holds Try.pinned (OpenSpec.ofChange gaugeFoldsWrong)

/- THE SECOND FORM. 'bulk': how many values and letters a reading holds, each counted each time it is reached (what is shared counts as often as it is met; a slice's spare places count too). A statement '..UptoSaid' is the law's where the arguments, and the package variables that the reading takes, are together of bulk at most 1048576: NARROWER than '..Said'. Prove '..Said' where nothing that the law and all that it calls make is longer than what came in: it says more and counts as full. Else prove '..UptoSaid'. A law counts once. -/
mutual
def uptoBulk {H : Type} : DataW H → Nat
  | .lit (.string bytes) => bytes.length + 1
  | .lit _ => 1
  | .nil => 1
  | .ptr d => uptoBulk d + 1
  | .slice elems spare => uptoBulkAll elems + uptoBulkAll spare + 1
  | .agg parts => uptoBulkAll parts + 1
  | .iface _ d => uptoBulk d + 1
  | .map entries => uptoBulkEntries entries + 1
  | .held _ => 1
def uptoBulkAll {H : Type} : List (DataW H) → Nat
  | [] => 0
  | d :: r => uptoBulk d + uptoBulkAll r
def uptoBulkEntries {H : Type} : List (Lit × DataW H) → Nat
  | [] => 0
  | x :: r => uptoBulkEntry x + uptoBulkEntries r
def uptoBulkEntry {H : Type} : Lit × DataW H → Nat
  | (.string bytes, d) => bytes.length + uptoBulk d + 1
  | (_, d) => uptoBulk d + 1
 end
def uptoSmall : (H : Type) → List (DataW H) → Bool := fun _ ds => decide (uptoBulkAll ds ≤ 1048576)
def OpenSpec.upto (s : _root_.Go.ChangeSpec) : _root_.Go.OpenSpec := { _root_.Go.OpenSpec.ofChange s with cond := some uptoSmall }

/-- 'bosunlaw12.GaugeMixes', WHERE WHAT IT READS IS OF BULK AT MOST 1048576: true; the input reads as it did. -/
def gaugeMixesUptoRow : OpenClaim := { program := "ytknfpnifhpbojaa", sum := "fcefd4f94a16dc364697997ae43d1e6e470fe0b5f9ec7c91556c499ad9b57fc7", func := "bosun/bosunlaw12.GaugeMixes", spec := "gaugeMixes", inPlace := ["math.Float64bits", "math.Float64frombits"], apart := false, narrowed := true }
def GaugeMixesUptoSaid : Prop := gaugeMixesUptoRow.holds Try.pinned (OpenSpec.upto gaugeMixesSpec)

/-- 'bosunlaw12.GaugeBetween', WHERE WHAT IT READS IS OF BULK AT MOST 1048576: true; the input reads as it did. -/
def gaugeBetweenUptoRow : OpenClaim := { program := "ytknfpnifhpbojaa", sum := "fcefd4f94a16dc364697997ae43d1e6e470fe0b5f9ec7c91556c499ad9b57fc7", func := "bosun/bosunlaw12.GaugeBetween", spec := "gaugeBetween", inPlace := ["math.Float64bits", "math.Float64frombits"], apart := false, narrowed := true }
def GaugeBetweenUptoSaid : Prop := gaugeBetweenUptoRow.holds Try.pinned (OpenSpec.upto gaugeBetweenSpec)

/-- 'bosunlaw12.GaugeHeavy', WHERE WHAT IT READS IS OF BULK AT MOST 1048576: true; the input reads as it did. -/
def gaugeHeavyUptoRow : OpenClaim := { program := "ytknfpnifhpbojaa", sum := "fcefd4f94a16dc364697997ae43d1e6e470fe0b5f9ec7c91556c499ad9b57fc7", func := "bosun/bosunlaw12.GaugeHeavy", spec := "gaugeHeavy", inPlace := ["math.Float64bits", "math.Float64frombits"], apart := false, narrowed := true }
def GaugeHeavyUptoSaid : Prop := gaugeHeavyUptoRow.holds Try.pinned (OpenSpec.upto gaugeHeavySpec)

/-- 'bosunlaw12.GaugeOrders', WHERE WHAT IT READS IS OF BULK AT MOST 1048576: true; the input reads as it did. -/
def gaugeOrdersUptoRow : OpenClaim := { program := "ytknfpnifhpbojaa", sum := "fcefd4f94a16dc364697997ae43d1e6e470fe0b5f9ec7c91556c499ad9b57fc7", func := "bosun/bosunlaw12.GaugeOrders", spec := "gaugeOrders", inPlace := ["math.Float64frombits", "math.Float64bits"], apart := false, narrowed := true }
def GaugeOrdersUptoSaid : Prop := gaugeOrdersUptoRow.holds Try.pinned (OpenSpec.upto gaugeOrdersSpec)

/-- 'bosunlaw12.GaugeFolds', WHERE WHAT IT READS IS OF BULK AT MOST 1048576: true; the input reads as it did. -/
def gaugeFoldsUptoRow : OpenClaim := { program := "ytknfpnifhpbojaa", sum := "fcefd4f94a16dc364697997ae43d1e6e470fe0b5f9ec7c91556c499ad9b57fc7", func := "bosun/bosunlaw12.GaugeFolds", spec := "gaugeFolds", inPlace := ["math.Float64bits", "math.Float64frombits"], apart := false, narrowed := true }
def GaugeFoldsUptoSaid : Prop := gaugeFoldsUptoRow.holds Try.pinned (OpenSpec.upto gaugeFoldsSpec)

end Rows
end Go.Proofs.Ytknfpnifhpbojaa
