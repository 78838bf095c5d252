/- How many words a deque has, and which, plainly. No program in sight. -/
import Derived.Test.YtcempigpphmchaaDqP
namespace Bosun
open Go
/-- How many words a deque has, and which. -/
def lenD (base : Int) (cap : Nat) (W : List Nat) : Nat := (min (max (ahd (getA W (base + 1)) (getA W base)) 0) (cap : Int)).toNat
def allD (base : Int) (cap : Nat) (W : List Nat) : List Nat := (List.range (lenD base cap W)).map fun i => getA W (plc base cap ((getA W (base + 1) + (18446744073709551616 - lenD base cap W) + i) % 18446744073709551616))
theorem lenD_le (base : Int) (cap : Nat) (W : List Nat) : lenD base cap W ≤ cap := by unfold lenD; omega
end Bosun
