/- The order of two numbers, and which load is heavy beside another one, plainly. No program in sight. -/
import Derived.Test.YtknfpnifhpbojaaGauB
namespace Bosun
open Ieee
/-- NaN stands behind all. -/
def kx (x : Nat) : Int := if nan x then 18446744073709551616 else key x
def ordW (a b : Nat) : Int := if kx a < kx b then -1 else if kx b < kx a then 1 else 0
theorem key_lt (x : Nat) : key x < 18446744073709551616 := by
  have h : rn x < 9223372036854775808 := Nat.mod_lt _ (by omega)
  unfold key
  split <;> omega
theorem ordW_nn {a b : Nat} (ha : nan a) (hb : nan b) : ordW a b = 0 := by
  unfold ordW kx; rw [if_pos ha, if_pos hb, if_neg (by omega), if_neg (by omega)]
theorem ordW_ny {a b : Nat} (ha : ¬ nan a) (hb : nan b) : ordW a b = -1 := by
  have := key_lt a
  unfold ordW kx; rw [if_neg ha, if_pos hb, if_pos this]
theorem ordW_yn {a b : Nat} (ha : nan a) (hb : ¬ nan b) : ordW a b = 1 := by
  have := key_lt b
  unfold ordW kx; rw [if_pos ha, if_neg hb, if_neg (by omega), if_pos this]
theorem ordW_yy {a b : Nat} (ha : ¬ nan a) (hb : ¬ nan b) : ordW a b = if key a < key b then -1 else if key b < key a then 1 else 0 := by
  unfold ordW kx; rw [if_neg ha, if_neg hb]
theorem ordW_opp (a b : Nat) : ordW b a = -ordW a b := by
  unfold ordW
  split <;> split <;> (try split) <;> omega
theorem ordW_same (a : Nat) : ordW a a = 0 := by
  unfold ordW; rw [if_neg (by omega), if_neg (by omega)]
theorem ordW_neg {a b : Nat} : ordW a b < 0 ↔ kx a < kx b := by
  unfold ordW
  split
  · simp [*]
  · split <;> omega
theorem ordW_zero {a b : Nat} : ordW a b = 0 ↔ kx a = kx b := by
  unfold ordW
  split
  · omega
  · split <;> omega
/-- The bar: a product; nought, if there is none. -/
def barW (b ratio : Nat) : Nat := (double.mul b ratio).getD 0
def hvB (a b ratio : Nat) : Bool := loadB a && loadB b && nnB ratio && decide (key (barW b ratio) < key a)
theorem mul_nn {b ratio : Nat} (hb : loadB b = true) (hr : nnB ratio = true) : (∃ r, double.mul b ratio = some r ∧ nnB r = true) ∨ double.mul b ratio = none := by
  by_cases h : loadB ratio = true
  · obtain ⟨r, h1, h2, _⟩ := mul_load hb h
    exact .inl ⟨r, h1, h2⟩
  · have hi : ratio = 9218868437227405312 := by
      rcases nn_cases hr with h2 | h2
      · have : ¬ (ratio < 9218868437227405312 ∨ ratio = 9223372036854775808) := fun hh => h (decide_eq_true hh)
        omega
      · exact absurd (decide_eq_true (.inr h2)) h
    subst hi
    have ri : double.read 9218868437227405312 = .infinity false := by rw [read_inf (by decide)]; rfl
    obtain ⟨m, e, h3, h4⟩ := read_num (sg_load hb).1
    unfold Format.mul
    rw [ri, h3]
    unfold Datum.product
    dsimp only
    by_cases hm : m = 0
    · rw [if_pos hm]; exact .inr rfl
    · rw [if_neg hm]
      have hs : sg b = false := by
        rcases (sg_load hb).2 with ⟨a, _⟩ | ⟨_, c⟩
        · exact a
        · rw [c, mg_zero] at h4
          have := Nat.mul_pos (Nat.pos_of_ne_zero hm) (Nat.two_pow_pos e)
          omega
      rw [hs]
      exact .inl ⟨9218868437227405312, rfl, by decide⟩
theorem nan_nn {x : Nat} (h : nnB x = true) : ¬ nan x := by
  rcases nn_cases h with h | h
  · rw [nan_lo (by omega)]; omega
  · subst h; decide
theorem key_nn {x : Nat} (h : nnB x = true) : key x = rn x := by
  rcases nn_cases h with h | h
  · rw [key_lo (by omega), (word_lo (by omega)).1]
  · subst h; decide
theorem lt0 {x : Nat} (hx : x < 18446744073709551616) (h : ¬ nan x) : (double.order x 0 == some .lt) = !nnB x := by
  rw [ord_lt]
  unfold nnB
  rw [← decide_not]
  refine decide_eq_decide.2 ?_
  by_cases h2 : x < 9223372036854775808
  · rw [nan_lo h2] at h
    rw [nan_lo h2, key_lo h2, key_c0]; simp only [nan_c0, not_false_eq_true, true_and]; omega
  · rw [nan_hi h2 hx] at h
    rw [nan_hi h2 hx, key_hi h2 hx, key_c0]; simp only [nan_c0, not_false_eq_true, true_and]; omega
theorem nan_nn' {x : Nat} (h : nan x) : nnB x = false := by
  cases h2 : nnB x with
  | false => rfl
  | true => exact absurd h (nan_nn h2)
/-- A greater ratio makes none heavier. -/
theorem hv_mono {a b ratio more : Nat} (h0 : nnB ratio = true) (h1 : nnB more = true) (h2 : key ratio ≤ key more) (h3 : loadB more = true) (h : hvB a b more = true) : hvB a b ratio = true := by
  unfold hvB at h ⊢
  rw [Bool.and_eq_true, Bool.and_eq_true, Bool.and_eq_true] at h
  obtain ⟨⟨⟨l1, l2⟩, _⟩, l4⟩ := h
  have l4 := of_decide_eq_true l4
  rw [l1, l2, h0]
  simp only [Bool.and_self, Bool.true_and]
  refine decide_eq_true (Int.lt_of_le_of_lt ?_ l4)
  rw [key_nn h0, key_nn h1] at h2
  have hr : loadB ratio = true := by
    rcases nn_cases h0 with h | h
    · obtain ⟨q, _⟩ := sg_load h3
      rw [(word_lo (show ratio < 9223372036854775808 by omega)).1] at h2
      exact decide_eq_true (.inl (by omega))
    · exact decide_eq_true (.inr h)
  obtain ⟨r, r1, r2, r3⟩ := mul_load l2 hr
  obtain ⟨s, s1, s2, s3⟩ := mul_load l2 h3
  unfold barW
  rw [r1, s1]
  simp only [Option.getD_some]
  rw [key_nn r2, key_nn s2, r3, s3]
  have : lv ratio ≤ lv more := mg_le (by omega)
  have := rung_mono (mag := lv b * lv ratio) (mag' := lv b * lv more) (place := -2148) (place' := -2148) (b := -2148) (by omega) (by omega) (by omega) (Nat.mul_le_mul_right _ (Nat.mul_le_mul_left _ this))
  omega
theorem cmp_le {x y : Nat} : (double.order x y == some .gt || double.order x y == some .eq) = decide (¬ nan x ∧ ¬ nan y ∧ key y ≤ key x) := by
  rw [ord_gt, ord_eq, ← Bool.decide_or]
  refine decide_eq_decide.2 ⟨fun h => ?_, fun h => ?_⟩
  · rcases h with ⟨a, b, c⟩ | ⟨a, b, c⟩
    · exact ⟨a, b, by omega⟩
    · exact ⟨a, b, by omega⟩
  · obtain ⟨a, b, c⟩ := h
    by_cases hq : key x = key y
    · exact .inr ⟨a, b, hq⟩
    · exact .inl ⟨a, b, by omega⟩
end Bosun
