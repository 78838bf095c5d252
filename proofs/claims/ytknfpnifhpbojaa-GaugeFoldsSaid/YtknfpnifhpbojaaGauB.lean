/- Averages of whole loads by 64ths, plainly; the order of numbers; the lightest one; totals. No program in sight. -/
import Derived.Test.YtknfpnifhpbojaaGauP
namespace Bosun
open Ieee
def c68 : Nat := 1068
theorem c68_le : c68 + 6 ≤ 2044 := by decide
theorem pow6 : (2 : Nat) ^ (c68 + 6) = 64 * 2 ^ c68 := by rw [Nat.pow_add, Nat.mul_comm]
/-- The word of a whole number; of a number of 64ths. -/
def flW (a : Nat) : Nat := rung a 0
def shW (k : Nat) : Nat := rung k (-6)
theorem flW_val {a : Nat} (h : a ≤ 1048576) : mg (flW a) = a * 2 ^ (c68 + 6) ∧ flW a < 9218868437227405312 := rung_val (b := -1074) (by omega) (by have := c68_le; omega) (by omega) (by omega) (by rw [show ((0 : Int) - -1074).toNat = c68 + 6 from rfl, show ((-1074 : Int) - -1074).toNat = 0 from rfl, Nat.pow_zero, Nat.mul_one])
theorem shW_val {k : Nat} (h : k ≤ 64) : mg (shW k) = k * 2 ^ c68 ∧ shW k < 9218868437227405312 := rung_val (b := -1074) (by omega) (by have := c68_le; omega) (by omega) (by omega) (by rw [show ((-6 : Int) - -1074).toNat = c68 from rfl, show ((-1074 : Int) - -1074).toNat = 0 from rfl, Nat.pow_zero, Nat.mul_one])
theorem shW_zero : shW 0 = 0 := rfl
theorem shW_one : shW 64 = 4607182418800017408 := by decide +kernel
theorem mg_one : mg 4607182418800017408 = 64 * 2 ^ c68 := by rw [← shW_one]; exact (shW_val (by omega)).1
theorem shW_le {k : Nat} (h : k ≤ 64) : shW k ≤ 4607182418800017408 := by
  refine Nat.le_of_not_lt fun hlt => ?_
  have h1 := mg_lt hlt
  rw [mg_one, (shW_val h).1] at h1
  have h2 : k * 2 ^ c68 ≤ 64 * 2 ^ c68 := Nat.mul_le_mul_right _ h
  omega
theorem shW_share {k : Nat} (h : k ≤ 64) : shareB (shW k) = true := decide_eq_true (.inl (shW_le h))
theorem flW_load {a : Nat} (h : a ≤ 1048576) : loadB (flW a) = true := decide_eq_true (.inl (flW_val h).2)
theorem between_val {a b k : Nat} (ha : a ≤ 1048576) (hb : b ≤ 1048576) (hk : k ≤ 64) :
    mg (mixW (flW a) (flW b) (shW k)) = (a * k + b * (64 - k)) * 2 ^ c68 ∧ mixW (flW a) (flW b) (shW k) < 9218868437227405312 := by
  obtain ⟨a1, a2⟩ := flW_val ha
  obtain ⟨b1, b2⟩ := flW_val hb
  obtain ⟨k1, k2⟩ := shW_val hk
  have lk : loadB (shW k) = true := decide_eq_true (.inl k2)
  have hk' : 64 - k ≤ 64 := Nat.sub_le _ _
  obtain ⟨c1, c2⟩ := shW_val hk'
  have ak : a * k ≤ 1048576 * 64 := Nat.mul_le_mul ha hk
  have bk : b * (64 - k) ≤ 1048576 * 64 := Nat.mul_le_mul hb hk'
  have hs : double.sub 4607182418800017408 (shW k) = some (shW (64 - k)) := by
    rw [(sub_share (shW_share hk)).1]
    refine congrArg some ?_
    rw [mg_one, lv_lo k2, k1, ← Nat.sub_mul]
    refine rung_congr (b := -1074) (by omega) (by omega) (by omega) ?_
    rw [show ((-6 : Int) - -1074).toNat = c68 from rfl, show ((-1074 : Int) - -1074).toNat = 0 from rfl, Nat.pow_zero, Nat.mul_one]
  have prod : ∀ {x j : Nat}, x ≤ 1048576 → j ≤ 64 → ∃ r, double.mul (flW x) (shW j) = some r ∧ loadB r = true ∧ lv r = x * j * 2 ^ c68 := fun {x j} hx hj => by
    obtain ⟨x1, x2⟩ := flW_val hx
    obtain ⟨j1, j2⟩ := shW_val hj
    obtain ⟨r, r1, r2, r3⟩ := mul_load (flW_load hx) (show loadB (shW j) = true from decide_eq_true (.inl j2))
    rw [lv_lo x2, lv_lo j2, x1, j1] at r3
    have xj : x * j ≤ 1048576 * 64 := Nat.mul_le_mul hx hj
    have v := rung_val (mag := x * 2 ^ (c68 + 6) * (j * 2 ^ c68)) (n := x * j) (p := c68) (place := -2148) (b := -2148) (by omega) (by have := c68_le; omega) (by omega) (by omega) (by
      rw [show ((-2148 : Int) - -2148).toNat = 0 from rfl, show ((-1074 : Int) - -2148).toNat = c68 + 6 from rfl, Nat.pow_zero, Nat.mul_one]
      generalize (2 : Nat) ^ (c68 + 6) = A
      generalize (2 : Nat) ^ c68 = B
      rw [Nat.mul_assoc x A, Nat.mul_left_comm A j B, ← Nat.mul_assoc x j, Nat.mul_comm A B, ← Nat.mul_assoc])
    refine ⟨r, r1, ?_, by unfold lv; rw [r3]; exact v.1⟩
    rcases nn_cases r2 with h | h
    · rcases Nat.lt_or_eq_of_le h with h | h
      · exact decide_eq_true (.inl h)
      · exfalso
        rw [h, (word_lo (by omega)).1] at r3
        omega
    · exact decide_eq_true (.inr h)
  obtain ⟨p, p1, p2, p3⟩ := prod ha hk
  obtain ⟨q, q1, q2, q3⟩ := prod hb hk'
  obtain ⟨s, s1, s2, s3⟩ := add_load p2 q2
  rw [p3, q3, ← Nat.add_mul] at s3
  have v := rung_val (mag := (a * k + b * (64 - k)) * 2 ^ c68) (n := a * k + b * (64 - k)) (p := c68) (place := -1074) (b := -1074) (by omega) (by have := c68_le; omega) (by omega) (by omega) rfl
  have hm : mixW (flW a) (flW b) (shW k) = tellW s := by
    unfold mixW
    rw [if_pos (flW_load hb), shW_share hk, flW_load ha, p1, hs]
    simp only [Bool.and_self, if_true, Option.getD_some]
    rw [q1]
    simp only [Option.getD_some]
    rw [s1]
    rfl
  have hs2 : tellW s = rung ((a * k + b * (64 - k)) * 2 ^ c68) (-1074) := by
    rw [← s3]
    rcases nn_cases s2 with h | h
    · rw [(word_lo (show s < 9223372036854775808 by omega)).1] at s3 ⊢
      refine tellW_lo ?_
      omega
    · subst h; decide
  rw [hm, hs2]
  exact v
theorem between_zero {a b : Nat} (ha : a ≤ 1048576) (hb : b ≤ 1048576) : mixW (flW a) (flW b) 0 = flW b := by
  have h := between_val ha hb (show 0 ≤ 64 by omega)
  rw [shW_zero] at h
  refine mg_inj ?_
  rw [h.1, (flW_val hb).1, Nat.mul_zero, Nat.zero_add, Nat.sub_zero, pow6, ← Nat.mul_assoc]
theorem between_one {a b : Nat} (ha : a ≤ 1048576) (hb : b ≤ 1048576) : mixW (flW a) (flW b) 4607182418800017408 = flW a := by
  have h := between_val ha hb (show 64 ≤ 64 by omega)
  rw [shW_one] at h
  refine mg_inj ?_
  rw [h.1, (flW_val ha).1, Nat.sub_self, Nat.mul_zero, Nat.add_zero, pow6, ← Nat.mul_assoc]
theorem flW_le {a b : Nat} (hb : b ≤ 1048576) (h : a ≤ b) : flW a ≤ flW b := by
  refine Nat.le_of_not_lt fun hlt => ?_
  have h1 := mg_lt hlt
  rw [(flW_val hb).1, (flW_val (show a ≤ 1048576 by omega)).1] at h1
  have h2 : a * 2 ^ (c68 + 6) ≤ b * 2 ^ (c68 + 6) := Nat.mul_le_mul_right _ h
  omega
/-- It lies between the two. -/
theorem between {a b k : Nat} (ha : a ≤ 1048576) (hb : b ≤ 1048576) (hk : k ≤ 64) :
    min (flW a) (flW b) ≤ mixW (flW a) (flW b) (shW k) ∧ mixW (flW a) (flW b) (shW k) ≤ max (flW a) (flW b) := by
  obtain ⟨v1, v2⟩ := between_val ha hb hk
  have e6 := pow6
  obtain ⟨a1, a2⟩ := flW_val ha
  obtain ⟨b1, b2⟩ := flW_val hb
  rw [e6, ← Nat.mul_assoc] at a1 b1
  have lin : ∀ {x y : Nat}, x ≤ y → x * 2 ^ c68 ≤ y * 2 ^ c68 := fun h => Nat.mul_le_mul_right _ h
  have up : ∀ {m n : Nat}, mg m ≤ mg n → m ≤ n := fun {m n} h => by
    refine Nat.le_of_not_lt fun hlt => ?_
    have := mg_lt hlt
    omega
  obtain ⟨j, hj⟩ : ∃ j, k + j = 64 := ⟨64 - k, by omega⟩
  rw [show 64 - k = j from by omega] at v1
  have n1 : ∀ {x y z : Nat}, z ≤ x → z ≤ y → z * 64 ≤ x * k + y * j := fun {x y z} h1 h2 => by
    rw [← hj, Nat.mul_add]
    exact Nat.add_le_add (Nat.mul_le_mul_right _ h1) (Nat.mul_le_mul_right _ h2)
  have n2 : ∀ {x y z : Nat}, x ≤ z → y ≤ z → x * k + y * j ≤ z * 64 := fun {x y z} h1 h2 => by
    rw [← hj, Nat.mul_add]
    exact Nat.add_le_add (Nat.mul_le_mul_right _ h1) (Nat.mul_le_mul_right _ h2)
  constructor
  · rcases Nat.le_total a b with h | h
    · refine Nat.le_trans (Nat.min_le_left _ _) (up ?_)
      rw [v1, a1]; exact lin (n1 (Nat.le_refl _) h)
    · refine Nat.le_trans (Nat.min_le_right _ _) (up ?_)
      rw [v1, b1]; exact lin (n1 h (Nat.le_refl _))
  · rcases Nat.le_total a b with h | h
    · refine Nat.le_trans (up ?_) (Nat.le_max_right _ _)
      rw [v1, b1]; exact lin (n2 h (Nat.le_refl _))
    · refine Nat.le_trans (up ?_) (Nat.le_max_left _ _)
      rw [v1, a1]; exact lin (n2 (Nat.le_refl _) h)
/-- Division by 64. -/
theorem div64 : ∀ k, k < 65 → double.div (double.nearest false k 0) 4634204016564240384 = some (shW k) := by decide +kernel
end Bosun
