/- Double words, plainly: their order is that of their keys; to round is monotone, and exact where it can be. No program in sight. -/
import Derived.Test.YtknfpnifhpbojaaProg
import Ieee.Arith
import Derived.Laws.FloatBits
namespace Bosun
open Ieee
/-- The magnitude of a rung, as a multiple of the least one. -/
def mg (r : Nat) : Nat := if r < 4503599627370496 then r else (4503599627370496 + r % 4503599627370496) * 2 ^ (r / 4503599627370496 - 1)
theorem mg_low {r : Nat} (h : r < 4503599627370496) : mg r = r := if_pos h
theorem mg_high {r : Nat} (h : ¬ r < 4503599627370496) : mg r = (4503599627370496 + r % 4503599627370496) * 2 ^ (r / 4503599627370496 - 1) := if_neg h
theorem mg_zero : mg 0 = 0 := rfl
theorem mg_lt {a b : Nat} (h : a < b) : mg a < mg b := by
  by_cases hb : b < 4503599627370496
  · rw [mg_low hb, mg_low (by omega)]; exact h
  · rw [mg_high hb]
    by_cases ha : a < 4503599627370496
    · rw [mg_low ha]
      have h1 : 1 ≤ 2 ^ (b / 4503599627370496 - 1) := Nat.one_le_two_pow
      have h2 : (4503599627370496 + b % 4503599627370496) * 1 ≤ (4503599627370496 + b % 4503599627370496) * 2 ^ (b / 4503599627370496 - 1) := Nat.mul_le_mul_left _ h1
      omega
    · rw [mg_high ha]
      by_cases hq : a / 4503599627370496 = b / 4503599627370496
      · rw [hq]
        exact Nat.mul_lt_mul_of_pos_right (by omega) (Nat.two_pow_pos _)
      · have h1 : 2 ^ (a / 4503599627370496 - 1 + 1) ≤ 2 ^ (b / 4503599627370496 - 1) := Nat.pow_le_pow_right (by omega) (by omega)
        rw [Nat.pow_succ] at h1
        have h0 : 0 < 2 ^ (a / 4503599627370496 - 1) := Nat.two_pow_pos _
        have h2 : (4503599627370496 + a % 4503599627370496) * 2 ^ (a / 4503599627370496 - 1) < (2 * 4503599627370496) * 2 ^ (a / 4503599627370496 - 1) := Nat.mul_lt_mul_of_pos_right (by omega) h0
        have h3 : 4503599627370496 * 2 ^ (b / 4503599627370496 - 1) ≤ (4503599627370496 + b % 4503599627370496) * 2 ^ (b / 4503599627370496 - 1) := Nat.mul_le_mul_right _ (by omega)
        generalize 2 ^ (a / 4503599627370496 - 1) = p at *
        generalize 2 ^ (b / 4503599627370496 - 1) = q at *
        omega
theorem mg_le {a b : Nat} (h : a ≤ b) : mg a ≤ mg b := by
  rcases Nat.lt_or_eq_of_le h with h | rfl
  · exact Nat.le_of_lt (mg_lt h)
  · exact Nat.le_refl _
theorem mg_lt_iff {a b : Nat} : mg a < mg b ↔ a < b := ⟨fun h => by rcases Nat.lt_or_ge a b with h1 | h1; exact h1; have := mg_le h1; omega, mg_lt⟩
theorem mg_inj {a b : Nat} (h : mg a = mg b) : a = b := by
  rcases Nat.lt_trichotomy a b with h1 | h1 | h1
  · have := mg_lt h1; omega
  · exact h1
  · have := mg_lt h1; omega
/-- Each number of so many digits has a rung. -/
theorem mg_ex : ∀ p n : Nat, n < 9007199254740992 → ∃ r, mg r = n * 2 ^ p := by
  intro p
  induction p with
  | zero =>
    intro n hn
    refine ⟨n, ?_⟩
    by_cases h : n < 4503599627370496
    · rw [mg_low h]; omega
    · rw [mg_high h, show n / 4503599627370496 - 1 = 0 from by omega]; omega
  | succ p ih =>
    intro n hn
    by_cases h : n < 4503599627370496
    · obtain ⟨r, hr⟩ := ih (2 * n) (by omega)
      refine ⟨r, ?_⟩
      rw [hr, Nat.pow_succ]
      rw [Nat.mul_comm 2 n, Nat.mul_assoc, Nat.mul_comm 2]
    · refine ⟨(p + 1) * 4503599627370496 + n, ?_⟩
      rw [mg_high (by omega)]
      rw [show ((p + 1) * 4503599627370496 + n) / 4503599627370496 - 1 = p + 1 from by omega, show 4503599627370496 + ((p + 1) * 4503599627370496 + n) % 4503599627370496 = n from by omega]

theorem d_binade : double.binade = 4503599627370496 := rfl
theorem d_inf : double.infRung = 9218868437227405312 := rfl
theorem d_sign : double.signWeight = 9223372036854775808 := rfl
theorem d_least : double.leastPlace = -1074 := rfl
/-- A word's rung; its sign; which are NaN. -/
def rn (x : Nat) : Nat := x % 9223372036854775808
def sg (x : Nat) : Bool := x / 9223372036854775808 % 2 == 1
def nan (x : Nat) : Prop := 9218868437227405312 < rn x
instance (x : Nat) : Decidable (nan x) := by unfold nan; infer_instance
/-- A number that stands for the order of words. -/
def key (x : Nat) : Int := if sg x then -(rn x : Int) else rn x
theorem read_num {x : Nat} (h : rn x < 9218868437227405312) : ∃ m e : Nat, double.read x = .number (sg x) m (-1074 + (e : Int)) ∧ m * 2 ^ e = mg (rn x) := by
  unfold Format.read
  rw [d_sign, d_binade, d_inf, d_least]
  unfold rn at h
  dsimp only
  by_cases h1 : x % 9223372036854775808 < 4503599627370496
  · rw [if_pos h1]
    exact ⟨_, 0, rfl, by unfold rn; rw [mg_low h1]; omega⟩
  · rw [if_neg h1, if_pos h]
    exact ⟨_, _, rfl, by unfold rn; rw [mg_high h1]⟩
theorem read_inf {x : Nat} (h : rn x = 9218868437227405312) : double.read x = .infinity (sg x) := by
  unfold Format.read
  rw [d_sign, d_binade, d_inf, d_least]
  unfold rn at h
  dsimp only
  rw [if_neg (by omega), if_neg (by omega), if_pos h]
  rfl
theorem read_nan {x : Nat} (h : nan x) : ∃ s t, double.read x = .nan s t := by
  unfold Format.read
  rw [d_sign, d_binade, d_inf, d_least]
  unfold nan rn at h
  dsimp only
  rw [if_neg (by omega), if_neg (by omega), if_neg (by omega)]
  exact ⟨_, _, rfl⟩
def sval (s : Bool) (n : Nat) : Int := if s then -(n : Int) else n
theorem signed_eq (s : Bool) (m u : Nat) : signed s m u = sval s (m * 2 ^ u) := by
  unfold signed sval
  rw [Nat.shiftLeft_eq]
theorem sval_mul (s : Bool) (n c : Nat) : sval s (n * c) = sval s n * c := by
  unfold sval
  cases s
  · simp
  · simp [Int.neg_mul]
theorem cmp_int (a b : Int) : compare a b = if a < b then .lt else if a = b then .eq else .gt := rfl
theorem cmp_scale (a b : Int) (c : Nat) (hc : 0 < c) : compare (a * c) (b * c) = compare a b := by
  have hc' : (0 : Int) < c := by omega
  rw [cmp_int, cmp_int]
  by_cases h1 : a < b
  · rw [if_pos h1, if_pos (Int.mul_lt_mul_of_pos_right h1 hc')]
  · rw [if_neg h1, if_neg (fun h => h1 (Int.lt_of_mul_lt_mul_right h (Int.le_of_lt hc')))]
    by_cases h2 : a = b
    · rw [if_pos h2, if_pos (by rw [h2])]
    · rw [if_neg h2, if_neg (fun h => h2 (Int.eq_of_mul_eq_mul_right (by omega) h))]
theorem up_split (e d : Nat) (m : Nat) : m * 2 ^ e = m * 2 ^ (e - min e d) * 2 ^ (min e d) := by
  rw [Nat.mul_assoc, ← Nat.pow_add, show e - min e d + min e d = e from by omega]
theorem order_num {x y : Nat} (hx : rn x < 9218868437227405312) (hy : rn y < 9218868437227405312) : double.order x y = some (compare (sval (sg x) (mg (rn x))) (sval (sg y) (mg (rn y)))) := by
  obtain ⟨m, e, h1, h2⟩ := read_num hx
  obtain ⟨n, d, h3, h4⟩ := read_num hy
  unfold Format.order
  rw [h1, h3]
  unfold Datum.order
  dsimp only
  rw [show (-1074 + (e : Int) - min (-1074 + (e : Int)) (-1074 + (d : Int))).toNat = e - min e d from by omega, show (-1074 + (d : Int) - min (-1074 + (e : Int)) (-1074 + (d : Int))).toNat = d - min e d from by omega]
  rw [signed_eq, signed_eq, ← cmp_scale _ _ (2 ^ (min e d)) (Nat.two_pow_pos _), ← sval_mul, ← sval_mul, ← up_split, h2]
  have := up_split d e n
  rw [show min d e = min e d from Nat.min_comm _ _] at this
  rw [← this, h4]
theorem cmp_sval (s t : Bool) (a b : Nat) : compare (sval s (mg a)) (sval t (mg b)) = compare (sval s a) (sval t b) := by
  have h1 := @mg_lt_iff a b
  have h2 := @mg_lt_iff b a
  have h3 := @mg_lt_iff 0 a
  have h4 := @mg_lt_iff 0 b
  rw [mg_zero] at h3 h4
  rw [cmp_int, cmp_int]
  unfold sval
  cases s <;> cases t <;> simp only [Bool.false_eq_true, if_false, if_true] <;> (repeat' split) <;> first | rfl | omega
theorem key_sval (x : Nat) : key x = sval (sg x) (rn x) := rfl
theorem order_key (x y : Nat) : double.order x y = if nan x ∨ nan y then none else some (compare (key x) (key y)) := by
  by_cases hx : nan x
  · obtain ⟨s, t, h⟩ := read_nan hx
    rw [if_pos (.inl hx)]
    unfold Format.order
    rw [h]; rfl
  by_cases hy : nan y
  · obtain ⟨s, t, h⟩ := read_nan hy
    rw [if_pos (.inr hy)]
    unfold Format.order
    rw [h]
    cases double.read x <;> rfl
  rw [if_neg (by rintro (h | h); exact hx h; exact hy h)]
  rw [key_sval, key_sval]
  unfold nan at hx hy
  by_cases hx1 : rn x = 9218868437227405312
  · by_cases hy1 : rn y = 9218868437227405312
    · unfold Format.order
      rw [read_inf hx1, read_inf hy1, hx1, hy1]
      cases sg x <;> cases sg y <;> rfl
    · obtain ⟨n, d, h3, h4⟩ := read_num (show rn y < 9218868437227405312 by omega)
      unfold Format.order
      rw [read_inf hx1, h3, hx1]
      unfold Datum.order sval
      rw [cmp_int]
      cases sg x <;> cases sg y <;> simp only [Bool.false_eq_true, if_false, if_true] <;> (repeat' split) <;> first | rfl | omega
  · by_cases hy1 : rn y = 9218868437227405312
    · obtain ⟨n, d, h3, h4⟩ := read_num (show rn x < 9218868437227405312 by omega)
      unfold Format.order
      rw [read_inf hy1, h3, hy1]
      unfold Datum.order sval
      rw [cmp_int]
      cases sg x <;> cases sg y <;> simp only [Bool.false_eq_true, if_false, if_true] <;> (repeat' split) <;> first | rfl | omega
    · rw [order_num (by omega) (by omega), cmp_sval]
theorem ord_lt (x y : Nat) : (double.order x y == some .lt) = decide (¬ nan x ∧ ¬ nan y ∧ key x < key y) := by
  rw [order_key, cmp_int]
  by_cases hx : nan x <;> by_cases hy : nan y <;> simp [hx, hy]
  by_cases h : key x < key y
  · simp [h]
  · simp only [h, if_false, decide_false]
    split <;> rfl
theorem ord_eq (x y : Nat) : (double.order x y == some .eq) = decide (¬ nan x ∧ ¬ nan y ∧ key x = key y) := by
  rw [order_key, cmp_int]
  by_cases hx : nan x <;> by_cases hy : nan y <;> simp [hx, hy]
  by_cases h : key x = key y
  · simp [h]
  · simp only [h, if_false, decide_false]
    split <;> rfl
theorem ord_gt (x y : Nat) : (double.order x y == some .gt) = decide (¬ nan x ∧ ¬ nan y ∧ key y < key x) := by
  rw [order_key, cmp_int]
  by_cases hx : nan x <;> by_cases hy : nan y <;> simp [hx, hy]
  by_cases h : key x < key y
  · simp [h]; omega
  · by_cases h2 : key x = key y
    · simp [h2]
    · simp [h, h2]; omega

/-! ### To round -/
theorem cut_iff (s : Bool) (n drop k : Nat) : k < Toward.even.cut s n drop ↔ (2 * k + 1) * 2 ^ drop < 2 * n ∨ ((2 * k + 1) * 2 ^ drop = 2 * n ∧ k % 2 = 1) := by
  unfold Toward.cut
  dsimp only
  rw [Nat.shiftLeft_eq, Nat.one_mul]
  have hlog : n < 2 ^ (n.log2 + 1) := Nat.lt_log2_self
  have hk : (2 * k + 1) * 2 ^ drop = 2 * (k * 2 ^ drop) + 2 ^ drop := by rw [Nat.add_mul, Nat.one_mul, Nat.mul_assoc]
  by_cases hd : drop ≤ n.log2 + 2
  · rw [Nat.min_eq_left hd]
    have hD : 0 < 2 ^ drop := Nat.two_pow_pos _
    rw [hk]
    generalize 2 ^ drop = D at *
    have hn : D * (n / D) + n % D = n := Nat.div_add_mod n D
    have hr : n % D < D := Nat.mod_lt _ hD
    rw [Nat.mul_comm] at hn
    generalize n / D = low at *
    generalize n % D = rest at *
    have hm : (decide (D < 2 * rest) || (D == 2 * rest && low % 2 == 1)).toNat = if D < 2 * rest ∨ (D = 2 * rest ∧ low % 2 = 1) then 1 else 0 := by
      by_cases h1 : D < 2 * rest
      · simp [h1]
      · by_cases h2 : D = 2 * rest
        · by_cases h3 : low % 2 = 1
          · simp [h1, h2, h3]
          · simp [h1, h3]
        · simp [h1, h2]
    rw [hm]
    rcases Nat.lt_trichotomy k low with h | h | h
    · have h1 : (k + 1) * D ≤ low * D := Nat.mul_le_mul_right _ h
      rw [Nat.add_mul, Nat.one_mul] at h1
      constructor
      · intro _; left; omega
      · intro _; omega
    · subst h
      split <;> rename_i h2 <;> constructor <;> intro h3 <;> omega
    · have h1 : (low + 1) * D ≤ k * D := Nat.mul_le_mul_right _ h
      rw [Nat.add_mul, Nat.one_mul] at h1
      constructor
      · intro h2; split at h2 <;> omega
      · intro h2; omega
  · rw [Nat.min_eq_right (by omega)]
    have h1 : 2 ^ (n.log2 + 2) = 2 * 2 ^ (n.log2 + 1) := by rw [Nat.pow_succ, Nat.mul_comm]
    have h2 : 2 ^ (n.log2 + 2) ≤ 2 ^ drop := Nat.pow_le_pow_right (by omega) (by omega)
    rw [hk]
    rw [Nat.div_eq_of_lt (by omega), Nat.mod_eq_of_lt (by omega)]
    have hm : (decide (2 ^ (n.log2 + 2) < 2 * n) || (2 ^ (n.log2 + 2) == 2 * n && 0 % 2 == 1)).toNat = 0 := by
      have a : ¬ 2 ^ (n.log2 + 2) < 2 * n := by omega
      simp [a]
    rw [hm]
    constructor
    · intro h; omega
    · intro h; omega
end Bosun
