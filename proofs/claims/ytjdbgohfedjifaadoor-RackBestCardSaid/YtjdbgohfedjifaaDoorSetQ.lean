/- A set's bit, all numbers below one, what is left from a number on, plainly. No program in sight. -/
import Derived.Test.YtjdbgohfedjifaaDoorSetP
namespace Bosun
open Go
theorem allBelow_neg {n : Int} (h : n ≤ 0) : allBelow n = 0 := by
  apply Nat.eq_of_testBit_eq
  intro j
  rw [allBelow, ofBits_testBit, Nat.zero_testBit]
  simp; omega
theorem allBelow_big {n : Int} (h : 64 ≤ n) : allBelow n = 18446744073709551615 := by
  apply Nat.eq_of_testBit_eq
  intro j
  rw [allBelow, ofBits_testBit, show (18446744073709551615 : Nat) = 2 ^ 64 - 1 from rfl, Nat.testBit_two_pow_sub_one]
  by_cases hj : j < 64
  · simp [hj]; omega
  · simp [hj]
theorem allBelow_mid {n : Nat} (h : n < 64) : allBelow n = 2 ^ n - 1 := by
  apply Nat.eq_of_testBit_eq
  intro j
  rw [allBelow, ofBits_testBit, Nat.testBit_two_pow_sub_one]
  by_cases hj : j < n
  · simp [hj]; omega
  · simp [hj]
/-- Of a set the part from a number on. -/
def fromN (s : Nat) (i : Int) : Nat := ofBits 64 fun j => s.testBit j && !decide ((j : Int) < i)
theorem fromN_lt (s : Nat) (i : Int) : fromN s i < 18446744073709551616 := by unfold fromN; simpa using ofBits_lt 64 (fun j => s.testBit j && !decide ((j : Int) < i))
theorem fromN_and {s : Nat} (hs : s < 18446744073709551616) (i : Int) : s &&& (18446744073709551615 - allBelow i) = fromN s i := by
  have hb : allBelow i < 2 ^ 64 := by simpa using allBelow_lt i
  apply Nat.eq_of_testBit_eq
  intro j
  rw [Nat.testBit_and, show 18446744073709551615 - allBelow i = 2 ^ 64 - (allBelow i + 1) from by omega, Nat.testBit_two_pow_sub_succ hb, allBelow, ofBits_testBit, fromN, ofBits_testBit]
  by_cases hj : j < 64
  · simp [hj]
  · simp [hj]
theorem members_from (s : Nat) (i : Int) : members (fromN s i) = (members s).filter (fun j : Nat => !decide ((j : Int) < i)) := by
  unfold members
  rw [List.filter_filter]
  refine List.filter_congr fun j hj => ?_
  have : j < 64 := by simpa using hj
  rw [fromN, ofBits_testBit]
  simp [this, Bool.and_comm]
theorem members_and (s : Nat) (n : Int) : members (s &&& allBelow n) = (members s).filter (fun j : Nat => decide ((j : Int) < n)) := by
  unfold members
  rw [List.filter_filter]
  refine List.filter_congr fun j hj => ?_
  have : j < 64 := by simpa using hj
  rw [Nat.testBit_and, allBelow, ofBits_testBit]
  simp [this, Bool.and_comm]
/-- The next member, going round. -/
def nextI (s : Nat) (i : Int) : Int := if fromN s i ≠ 0 then leastI (fromN s i) else leastI s
def bitN (i : Int) : Nat := if 0 ≤ i ∧ i < 64 then 2 ^ i.toNat else 0
theorem bitN_lt (i : Int) : bitN i < 18446744073709551616 := by
  unfold bitN
  split
  · have : 2 ^ i.toNat ≤ 2 ^ 63 := Nat.pow_le_pow_right (by omega) (by omega)
    have e : (2 : Nat) ^ 63 = 9223372036854775808 := by decide
    omega
  · omega
theorem and_pow {s k : Nat} : (s &&& 2 ^ k ≠ 0) ↔ s.testBit k = true := by
  constructor
  · intro h
    cases hb : s.testBit k with
    | true => rfl
    | false =>
      exfalso
      apply h
      apply Nat.eq_of_testBit_eq
      intro j
      rw [Nat.testBit_and, Nat.testBit_two_pow, Nat.zero_testBit]
      by_cases e : k = j
      · subst e; rw [hb]; rfl
      · simp [e]
  · intro h e
    have : (s &&& 2 ^ k).testBit k = true := by rw [Nat.testBit_and, h, Nat.testBit_two_pow]; simp
    rw [e, Nat.zero_testBit] at this
    cases this
theorem has_bit (s : Nat) (i : Int) : (s &&& bitN i ≠ 0) ↔ has s i = true := by
  unfold bitN has
  by_cases h : 0 ≤ i ∧ i < 64
  · rw [if_pos h, and_pow]
    simp [h]
  · rw [if_neg h, Nat.and_zero]
    simp
    intro h1 h2
    omega
end Bosun
