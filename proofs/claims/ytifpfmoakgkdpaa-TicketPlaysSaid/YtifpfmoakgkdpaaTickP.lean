/- ticket: what a step and a release come to, in plain Lean. -/
import Derived.Test.YtifpfmoakgkdpaaMemP
namespace Bosun
def stW (base : Int) (W : List Nat) (st : Int) : List Nat := if st = 0 then setA W base ((getA W base + 1) % 18446744073709551616) else W
def stU (base : Int) (W : List Nat) (u : Nat) (st : Int) : Nat := if st = 0 then tick W base u else if st = 1 then tick W (base + 1) u else u
def stS (base : Int) (W : List Nat) (st : Int) (mine : Nat) : Int := if st = 0 then 1 else if st = 1 then (if getA W (base + 1) = mine then 2 else 1) else st
def stM (base : Int) (W : List Nat) (st : Int) (mine : Nat) : Nat := if st = 0 then getA W base else mine
def frW (base : Int) (W : List Nat) (st : Int) (mine : Nat) : List Nat := if st = 2 then setA W (base + 1) ((mine + 1) % 18446744073709551616) else W
def frU (base : Int) (W : List Nat) (u : Nat) (st : Int) : Nat := if st = 2 then tick W (base + 1) u else u
def frS (st : Int) : Int := if st = 2 then 0 else st
def frM (st : Int) (mine : Nat) : Nat := if st = 2 then 0 else mine
/-- A hand's state is one of three. -/
def St (st : Int) : Prop := st = 0 ∨ st = 1 ∨ st = 2
theorem stS_St {base : Int} {W : List Nat} {st : Int} {mine : Nat} (h : St st) : St (stS base W st mine) := by
  unfold stS St at *
  split
  · simp
  · split
    · split <;> simp
    · exact h
theorem frS_St {st : Int} (h : St st) : St (frS st) := by
  unfold frS St at *
  split
  · simp
  · exact h
theorem stW_length (base : Int) (W : List Nat) (st : Int) : (stW base W st).length = W.length := by unfold stW; split <;> simp [setA_length]
theorem frW_length (base : Int) (W : List Nat) (st : Int) (mine : Nat) : (frW base W st mine).length = W.length := by unfold frW; split <;> simp [setA_length]
theorem stM_lt {base : Int} {W : List Nat} {st : Int} {mine : Nat} (hW : Small W) (h : mine < 18446744073709551616) : stM base W st mine < 18446744073709551616 := by
  unfold stM; split
  · exact hW.getA _
  · exact h
theorem frM_lt {st : Int} {mine : Nat} (h : mine < 18446744073709551616) : frM st mine < 18446744073709551616 := by
  unfold frM; split <;> omega
/-- How many tickets are ahead of one. -/
def aheadN (W : List Nat) (base : Int) (t : Nat) : Nat := if hasA W (base + 1) then (t + (18446744073709551616 - getA W (base + 1))) % 18446744073709551616 else t
end Bosun
