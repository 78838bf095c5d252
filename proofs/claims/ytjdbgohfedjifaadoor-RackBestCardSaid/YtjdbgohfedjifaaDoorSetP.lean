/- The least member of a set; a set without its least member; one of the members, plainly. No program in sight. -/
import Derived.Test.YtjdbgohfedjifaaDoorPop
import Derived.Lib.TrailingZeros
namespace Bosun
open Go
/-- The first of the numbers below n that p holds of is k: the others are those behind it. -/
theorem filter_first {p : Nat → Bool} {k : Nat} (hk : p k = true) (hb : ∀ j, j < k → p j = false) (n : Nat) :
    (List.range n).filter p = if k < n then k :: (List.range n).filter (fun j => decide (k < j) && p j) else [] := by
  induction n with
  | zero => simp
  | succ n ih =>
    rw [List.range_succ, List.filter_append, List.filter_append, ih]
    rcases Nat.lt_trichotomy k n with h | h | h
    · rw [if_pos h, if_pos (by omega)]
      simp [h, List.filter_cons]
    · subst h
      rw [if_neg (by omega), if_pos (by omega)]
      have : (List.range k).filter (fun j => decide (k < j) && p j) = [] := by
        rw [List.filter_eq_nil_iff]
        intro j hj
        have : j < k := by simpa using hj
        simp; omega
      rw [this]
      simp [hk]
    · rw [if_neg (by omega), if_neg (by omega)]
      simp [hb n h]
theorem tb_split (k c r j : Nat) (hr : r < 2 ^ k) : (2 ^ k * c + r).testBit j = if j < k then r.testBit j else c.testBit (j - k) := Nat.testBit_two_pow_mul_add c hr j
/-- The lowest bit. -/
theorem low_bit {s : Nat} (h0 : s ≠ 0) (h : s < 18446744073709551616) : s.testBit (Lib.ctz 64 s) = true ∧ (∀ j, j < Lib.ctz 64 s → s.testBit j = false) ∧ Lib.ctz 64 s < 64 ∧
    ∀ j, (s &&& (s - 1)).testBit j = (decide (Lib.ctz 64 s < j) && s.testBit j) := by
  obtain ⟨m, hm, hk⟩ := Lib.ctzFrom_spec 64 s (by omega) (by simpa using h)
  have hc : Lib.ctz 64 s = Lib.ctzFrom 64 s := by unfold Lib.ctz; rw [if_neg h0]
  rw [hc]
  generalize Lib.ctzFrom 64 s = k at *
  have hp : 0 < 2 ^ k := Nat.two_pow_pos k
  have es : ∀ j, s.testBit j = if j < k then false else (2 * m + 1).testBit (j - k) := fun j => by
    have := tb_split k (2 * m + 1) 0 j hp
    rw [Nat.add_zero, ← hm] at this
    rw [this, Nat.zero_testBit]
  have e1 : s - 1 = 2 ^ k * (2 * m) + (2 ^ k - 1) := by rw [hm, Nat.mul_add, Nat.mul_one]; omega
  have e2 : ∀ j, (s - 1).testBit j = if j < k then (2 ^ k - 1).testBit j else (2 * m).testBit (j - k) := fun j => by rw [e1]; exact tb_split k (2 * m) (2 ^ k - 1) j (by omega)
  have odd : (2 * m + 1).testBit 0 = true := by simp [Nat.testBit_zero]
  have even : (2 * m).testBit 0 = false := by simp [Nat.testBit_zero]
  have up : ∀ i, (2 * m).testBit (i + 1) = (2 * m + 1).testBit (i + 1) := fun i => by
    rw [Nat.testBit_succ, Nat.testBit_succ, show 2 * m / 2 = m from by omega, show (2 * m + 1) / 2 = m from by omega]
  refine ⟨?_, fun j hj => by rw [es, if_pos hj], hk, fun j => ?_⟩
  · rw [es, if_neg (by omega), Nat.sub_self]; exact odd
  · rw [Nat.testBit_and, es, e2]
    by_cases h1 : j < k
    · rw [if_pos h1, if_pos h1]; simp
    · rw [if_neg h1, if_neg h1]
      by_cases h2 : j = k
      · subst h2; rw [Nat.sub_self, even]; simp
      · obtain ⟨i, hi⟩ : ∃ i, j - k = i + 1 := ⟨j - k - 1, by omega⟩
        rw [hi, up, decide_eq_true (show k < j by omega)]; simp
theorem members_low {s : Nat} (h0 : s ≠ 0) (h : s < 18446744073709551616) : members s = Lib.ctz 64 s :: members (s &&& (s - 1)) := by
  obtain ⟨a, b, c, d⟩ := low_bit h0 h
  unfold members
  rw [filter_first a b, if_pos c]
  congr 1
  refine List.filter_congr fun j _ => ?_
  rw [d]
theorem members_zero : members 0 = [] := by decide
theorem members_nil_iff {s : Nat} (h : s < 18446744073709551616) : members s = [] ↔ s = 0 := by
  constructor
  · intro hs
    by_cases h0 : s = 0
    · exact h0
    · rw [members_low h0 h] at hs; cases hs
  · intro hs; subst hs; exact members_zero
/-- The least member; -1: there is none. -/
def leastI (s : Nat) : Int := match members s with | [] => -1 | a :: _ => (a : Nat)
theorem leastI_zero : leastI 0 = -1 := by unfold leastI; rw [members_zero]
theorem leastI_low {s : Nat} (h0 : s ≠ 0) (h : s < 18446744073709551616) : leastI s = (Lib.ctz 64 s : Nat) := by unfold leastI; rw [members_low h0 h]
theorem drop_least {l : List Nat} {k : Nat} (hk : k < l.length) {s : Nat} (hs : members s = l.drop k) : leastI s = (l[k] : Nat) := by
  unfold leastI
  rw [hs, List.drop_eq_getElem_cons hk]
theorem members_le (s : Nat) : (members s).length ≤ 64 := by
  have := List.length_filter_le s.testBit (List.range 64)
  simpa [members] using this
theorem members_mem {s a : Nat} (h : a ∈ members s) : a < 64 ∧ s.testBit a = true := by
  simp only [members, List.mem_filter, List.mem_range] at h
  exact h
/-- One more turn: the list loses its head. -/
theorem drop_turn {l : List Nat} {k : Nat} (hk : k < l.length) {s : Nat} (h : s < 18446744073709551616) (hs : members s = l.drop k) : s ≠ 0 ∧ members (s &&& (s - 1)) = l.drop (k + 1) := by
  have h0 : s ≠ 0 := fun e => by
    subst e
    rw [members_zero, List.drop_eq_getElem_cons hk] at hs
    cases hs
  refine ⟨h0, ?_⟩
  rw [members_low h0 h, List.drop_eq_getElem_cons hk] at hs
  injection hs
end Bosun
