/- Plain facts on sets of numbers below 64, kept as a number whose bits say which are in it; and rows of 64 truths. No program in sight. -/
import Derived.WalkKit
namespace Bosun
open Go

/-- The number whose bits below n are those of f. -/
def ofBits : Nat → (Nat → Bool) → Nat
  | 0, _ => 0
  | n + 1, f => 2 * ofBits n (fun j => f (j + 1)) + (f 0).toNat

theorem ofBits_testBit (n : Nat) : ∀ (f : Nat → Bool) (j : Nat), (ofBits n f).testBit j = (decide (j < n) && f j) := by
  induction n with
  | zero => intro f j; simp [ofBits]
  | succ n ih =>
    intro f j
    cases j with
    | zero =>
      simp only [ofBits, Nat.testBit_zero]
      cases f 0 <;> simp <;> omega
    | succ j =>
      have : (2 * ofBits n (fun j => f (j + 1)) + (f 0).toNat) / 2 = ofBits n (fun j => f (j + 1)) := by
        cases f 0 <;> simp <;> omega
      rw [ofBits, Nat.testBit_succ, this, ih]
      simp

theorem ofBits_lt (n : Nat) : ∀ f, ofBits n f < 2 ^ n := by
  induction n with
  | zero => intro f; simp [ofBits]
  | succ n ih =>
    intro f
    have := ih (fun j => f (j + 1))
    rw [ofBits, Nat.pow_succ]
    cases f 0 <;> simp <;> omega

theorem lt_of_bits {s : Nat} (h : ∀ j, 64 ≤ j → s.testBit j = false) : s < 18446744073709551616 := by
  have : s < 2 ^ 64 := Nat.lt_pow_two_of_testBit s h
  simpa using this
theorem bits_above {s : Nat} (h : s < 18446744073709551616) {j : Nat} (hj : 64 ≤ j) : s.testBit j = false := by
  apply Nat.testBit_lt_two_pow
  refine Nat.lt_of_lt_of_le h ?_
  have : 2 ^ 64 ≤ 2 ^ j := Nat.pow_le_pow_right (by decide) hj
  simpa using this
theorem ofBits_self {s : Nat} (h : s < 18446744073709551616) : ofBits 64 s.testBit = s := by
  apply Nat.eq_of_testBit_eq
  intro j
  rw [ofBits_testBit]
  by_cases hj : j < 64
  · simp [hj]
  · simp [hj, bits_above h (by omega : 64 ≤ j)]
theorem ofBits_congr {n : Nat} {f g : Nat → Bool} (h : ∀ j, j < n → f j = g j) : ofBits n f = ofBits n g := by
  apply Nat.eq_of_testBit_eq
  intro j
  rw [ofBits_testBit, ofBits_testBit]
  by_cases hj : j < n
  · simp [hj, h j hj]
  · simp [hj]

/-- A set: is a number in it; the set with or without a number; all numbers below one; its members, rising. -/
def has (s : Nat) (i : Int) : Bool := decide (0 ≤ i) && (decide (i < 64) && s.testBit i.toNat)
def put (s : Nat) (i : Int) (b : Bool) : Nat := ofBits 64 fun j => if (j : Int) = i then b else s.testBit j
def allBelow (n : Int) : Nat := ofBits 64 fun j => decide ((j : Int) < n)
def members (s : Nat) : List Nat := (List.range 64).filter s.testBit

theorem put_testBit (s : Nat) (i : Int) (b : Bool) (j : Nat) : (put s i b).testBit j = (decide (j < 64) && if (j : Int) = i then b else s.testBit j) := by
  simp [put, ofBits_testBit]
theorem put_lt (s : Nat) (i : Int) (b : Bool) : put s i b < 18446744073709551616 := by unfold put; simpa using ofBits_lt 64 (fun j => if (j : Int) = i then b else s.testBit j)
theorem allBelow_lt (n : Int) : allBelow n < 18446744073709551616 := by unfold allBelow; simpa using ofBits_lt 64 (fun j => decide ((j : Int) < n))
theorem put_out {s : Nat} (h : s < 18446744073709551616) {i : Int} (hi : i < 0 ∨ 64 ≤ i) (b : Bool) : put s i b = s := by
  rw [put, ofBits_congr (g := s.testBit) (fun j hj => by rw [if_neg (by omega)]), ofBits_self h]
theorem allBelow_step (k : Nat) (_hk : k < 64) : put (allBelow k) k true = allBelow (k + 1) := by
  refine ofBits_congr fun j hj => ?_
  simp only [allBelow, ofBits_testBit]
  by_cases h : (j : Int) = k
  · rw [if_pos h]; simp; omega
  · rw [if_neg h]
    simp only [hj, decide_true, Bool.true_and]
    congr 1
    apply propext
    omega

theorem allBelow_zero : allBelow ((0 : Nat) : Int) = 0 := by
  apply Nat.eq_of_testBit_eq
  intro j
  simp [allBelow, ofBits_testBit]
/-- The members below a number. -/
def membersTo (s k : Nat) : List Nat := (List.range k).filter s.testBit
theorem membersTo_zero (s : Nat) : membersTo s 0 = [] := rfl
theorem membersTo_yes (s k : Nat) (h : s.testBit k = true) : membersTo s (k + 1) = membersTo s k ++ [k] := by
  simp [membersTo, List.range_succ, List.filter_append, h]
theorem membersTo_no (s k : Nat) (h : s.testBit k = false) : membersTo s (k + 1) = membersTo s k := by
  simp [membersTo, List.range_succ, List.filter_append, h]
theorem membersTo_len (s k : Nat) : (membersTo s k).length ≤ k := by
  have := List.length_filter_le s.testBit (List.range k)
  simpa [membersTo] using this
/-- Whole numbers as values. -/
def nats (l : List Nat) : List Value := l.map fun i => Value.int .i64 ((i : Nat) : Int)
def ints (l : List Int) : List Value := l.map (Value.int .i64)
def words (l : List Nat) : List Value := l.map fun i => Value.int .u64 ((i : Nat) : Int)
theorem nats_len (l : List Nat) : (nats l).length = l.length := by simp [nats]
theorem ints_len (l : List Int) : (ints l).length = l.length := by simp [ints]
theorem words_len (l : List Nat) : (words l).length = l.length := by simp [words]
theorem ints_get (l : List Int) {j : Nat} (h : j < l.length) : (ints l)[j]? = some (.int .i64 l[j]) := by simp [ints, h]
theorem nats_get (l : List Nat) {j : Nat} (h : j < l.length) : (nats l)[j]? = some (.int .i64 (l[j] : Nat)) := by simp [nats, h]
theorem words_get (l : List Nat) {j : Nat} (h : j < l.length) : (words l)[j]? = some (.int .u64 (l[j] : Nat)) := by simp [words, h]
theorem words_snoc (l : List Nat) (i : Nat) : words (l ++ [i]) = words l ++ [Value.int .u64 ((i : Nat) : Int)] := by simp [words]
theorem nats_snoc (l : List Nat) (i : Nat) : nats (l ++ [i]) = nats l ++ [Value.int .i64 ((i : Nat) : Int)] := by simp [nats]
theorem ints_snoc (l : List Int) (i : Int) : ints (l ++ [i]) = ints l ++ [Value.int .i64 i] := by simp [ints]
theorem nats_ints (l : List Nat) : nats l = ints (l.map fun i => ((i : Nat) : Int)) := by simp [nats, ints]

/-- A row of 64 truths, as the cells of an array. -/
def boolRow (f : Nat → Bool) : Array Value := ((List.range 64).map fun i => Value.bool (f i)).toArray
theorem boolRow_size (f : Nat → Bool) : (boolRow f).size = 64 := by simp [boolRow]
theorem boolRow_get (f : Nat → Bool) {j : Nat} (h : j < 64) : (boolRow f)[j]? = some (.bool (f j)) := by simp [boolRow, h]
theorem boolRow_congr {f g : Nat → Bool} (h : ∀ j, j < 64 → f j = g j) : boolRow f = boolRow g := by
  simp only [boolRow]
  congr 1
  refine List.map_congr_left fun j hj => ?_
  rw [h j (by simpa using hj)]
theorem boolRow_set (f : Nat → Bool) (k : Nat) (b : Bool) : (boolRow f).setIfInBounds k (.bool b) = boolRow (fun j => if j = k then b else f j) := by
  apply Array.ext
  · simp [boolRow]
  · intro i h1 h2
    simp only [boolRow_size, Array.size_setIfInBounds] at h1
    rw [Array.getElem_setIfInBounds (by simpa [boolRow_size] using h1)]
    simp only [boolRow, List.getElem_toArray, List.getElem_map, List.getElem_range]
    by_cases h : k = i
    · subst h; simp
    · rw [if_neg h, if_neg (Ne.symm h)]
theorem boolRow_one (f : Nat → Bool) : (boolRow f).all (·.oneCell') = true := by
  simp [boolRow, Value.oneCell']

/-- Of a row the part from a place on, as a number. -/
def fromBit (f : Nat → Bool) (i : Nat) : Nat := ofBits (64 - i) fun j => f (i + j)
theorem fromBit_step (f : Nat → Bool) (i : Nat) (h : i < 64) : fromBit f i = 2 * fromBit f (i + 1) + (f i).toNat := by
  unfold fromBit
  rw [show 64 - i = (64 - (i + 1)) + 1 from by omega, ofBits]
  simp only [Nat.add_zero]
  congr 2
  refine ofBits_congr fun j _ => ?_
  congr 1
  omega
theorem fromBit_end (f : Nat → Bool) : fromBit f 64 = 0 := rfl
theorem fromBit_zero (f : Nat → Bool) : fromBit f 0 = ofBits 64 f := by simp [fromBit]
theorem fromBit_lt (f : Nat → Bool) (i : Nat) : fromBit f i < 2 ^ (64 - i) := ofBits_lt _ _
theorem fromBit_lt' (f : Nat → Bool) (i : Nat) (h : 1 ≤ i) : fromBit f i < 9223372036854775808 := by
  have h1 := fromBit_lt f i
  have h2 : (2 : Nat) ^ (64 - i) ≤ 2 ^ 63 := Nat.pow_le_pow_right (by decide) (by omega)
  have h3 : (2 : Nat) ^ 63 = 9223372036854775808 := by decide
  omega

end Bosun
