/- life: what the page says of states and moves, in plain Lean. -/
import Derived.Test.YtcoljjbbfjhhpaaBase
namespace Bosun

/-- Where a move leads; none: it is not there. -/
def goes (s m : Int) : Option Int :=
  if m = 0 then (if s = 0 then some 1 else none)
  else if m = 1 then (if s = 1 then some 2 else none)
  else if m = 2 then (if s = 2 then some 1 else none)
  else if m = 3 then (if s = 2 then some 3 else none)
  else if m = 4 then (if s = 2 then some 4 else none)
  else if m = 5 then (if s = 2 then some 5 else none)
  else if m = 6 then (if s = 3 ∨ s = 4 ∨ s = 5 then some 1 else none)
  else if m = 7 then (if s = 2 then some 6 else none)
  else if m = 8 then (if s = 6 then some 0 else none)
  else if m = 9 then (if s = 2 then some 0 else none)
  else none
theorem goes_out (s m : Int) (h : m < 0 ∨ 10 ≤ m) : goes s m = none := by
  unfold goes
  repeat rw [if_neg (by omega)]
/-- The states a move leads out of (three, some alike), and where it leads. -/
def ruleOf (m : Int) : Int × Int × Int × Int :=
  if m = 0 then (0, 0, 0, 1) else if m = 1 then (1, 1, 1, 2) else if m = 2 then (2, 2, 2, 1) else if m = 3 then (2, 2, 2, 3) else if m = 4 then (2, 2, 2, 4)
  else if m = 5 then (2, 2, 2, 5) else if m = 6 then (3, 4, 5, 1) else if m = 7 then (2, 2, 2, 6) else if m = 8 then (6, 6, 6, 0) else (2, 2, 2, 0)
theorem goes_rule (s : Int) (m : Nat) (h : m < 10) : goes s m = if s = (ruleOf m).1 ∨ s = (ruleOf m).2.1 ∨ s = (ruleOf m).2.2.1 then some (ruleOf m).2.2.2 else none := by
  rcases (show m = 0 ∨ m = 1 ∨ m = 2 ∨ m = 3 ∨ m = 4 ∨ m = 5 ∨ m = 6 ∨ m = 7 ∨ m = 8 ∨ m = 9 by omega) with h | h | h | h | h | h | h | h | h | h <;> subst h <;> simp [goes, ruleOf]
theorem goes_range {s m x : Int} (h : goes s m = some x) : 0 ≤ x ∧ x ≤ 6 := by
  unfold goes at h
  repeat' split at h
  all_goals first | (cases h; omega) | (cases h)
end Bosun
