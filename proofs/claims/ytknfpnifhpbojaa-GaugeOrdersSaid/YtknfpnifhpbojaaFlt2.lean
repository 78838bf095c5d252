/- To round, plainly: the nearest word's rung hangs on the number alone, rises with it, and is exact where there is one. No program in sight. -/
import Derived.Test.YtknfpnifhpbojaaFlt
namespace Bosun
open Ieee
/-- Where the last digit stands that is kept. -/
def lastP (mag : Nat) (place : Int) : Int := max (place + mag.log2 - 52) (-1074)
def keptP (mag : Nat) (place : Int) : Nat := Toward.even.cut false (mag <<< (place - lastP mag place).toNat) (lastP mag place - place).toNat
/-- The rung of the word nearest to a number. -/
def rung (mag : Nat) (place : Int) : Nat := if mag = 0 then 0 else min ((lastP mag place + 1074).toNat * 4503599627370496 + keptP mag place) 9218868437227405312
theorem rung_zero (place : Int) : rung 0 place = 0 := rfl
theorem rung_le (mag : Nat) (place : Int) : rung mag place ≤ 9218868437227405312 := by
  unfold rung
  split
  · omega
  · exact Nat.min_le_right _ _
theorem nearest_rung (s : Bool) (mag : Nat) (place : Int) : double.nearest s mag place = double.word s (rung mag place) := by
  unfold Format.nearest rung
  rw [d_binade, d_inf, d_least]
  split
  · rfl
  · rfl
theorem kept_iff {mag : Nat} {place b last : Int} (h1 : b ≤ place) (h2 : b ≤ last) (k : Nat) :
    k < Toward.even.cut false (mag <<< (place - last).toNat) (last - place).toNat ↔ (2 * k + 1) * 2 ^ (last - b).toNat < 2 * (mag * 2 ^ (place - b).toNat) ∨ ((2 * k + 1) * 2 ^ (last - b).toNat = 2 * (mag * 2 ^ (place - b).toNat) ∧ k % 2 = 1) := by
  rw [cut_iff, Nat.shiftLeft_eq]
  have e1 : (last - b).toNat = (last - place).toNat + (min place last - b).toNat := by omega
  have e2 : (place - b).toNat = (place - last).toNat + (min place last - b).toNat := by omega
  rw [e1, e2, Nat.pow_add, Nat.pow_add, ← Nat.mul_assoc, ← Nat.mul_assoc, ← Nat.mul_assoc]
  have hc : 0 < 2 ^ (min place last - b).toNat := Nat.two_pow_pos _
  generalize 2 ^ (min place last - b).toNat = c at *
  generalize (2 * k + 1) * 2 ^ (last - place).toNat = p
  rw [← Nat.mul_assoc] 
  generalize 2 * (mag * 2 ^ (place - last).toNat) = q
  rw [Nat.mul_lt_mul_right hc, Nat.mul_left_inj (by omega)]
theorem mag_bounds {mag : Nat} (h : mag ≠ 0) (d : Nat) : 2 ^ (mag.log2 + d) ≤ mag * 2 ^ d ∧ mag * 2 ^ d < 2 ^ (mag.log2 + d + 1) := by
  have h1 := Nat.log2_self_le h
  have h2 : mag < 2 ^ (mag.log2 + 1) := Nat.lt_log2_self
  have h0 : 0 < 2 ^ d := Nat.two_pow_pos _
  refine ⟨?_, ?_⟩
  · rw [Nat.pow_add]; exact Nat.mul_le_mul_right _ h1
  · rw [show mag.log2 + d + 1 = mag.log2 + 1 + d from by omega, Nat.pow_add]; exact Nat.mul_lt_mul_of_pos_right h2 h0
theorem kept_up {K D M P : Nat} (h5 : (2 * K + 1) * D < 2 * M ∨ ((2 * K + 1) * D = 2 * M ∧ K % 2 = 1)) (hM : M < P) (h6 : P ≤ K * D) : False := by
  rw [Nat.add_mul, Nat.one_mul, Nat.mul_assoc] at h5
  generalize K * D = A at *
  omega
theorem kept_dn {K D M P : Nat} (hM : P ≤ M) (h6 : (K + 1) * D ≤ P) (hD : 0 < D) : (2 * K + 1) * D < 2 * M := by
  rw [Nat.add_mul, Nat.one_mul] at h6
  rw [Nat.add_mul, Nat.one_mul, Nat.mul_assoc]
  generalize K * D = A at *
  omega
theorem two53 : (2 : Nat) ^ 53 = 9007199254740992 := by decide
theorem two52 : (2 : Nat) ^ 52 = 4503599627370495 + 1 := by decide
theorem keptP_iff {mag : Nat} {place b : Int} (h1 : b ≤ place) (h2 : b ≤ lastP mag place) (k : Nat) :
    k < keptP mag place ↔ (2 * k + 1) * 2 ^ (lastP mag place - b).toNat < 2 * (mag * 2 ^ (place - b).toNat) ∨ ((2 * k + 1) * 2 ^ (lastP mag place - b).toNat = 2 * (mag * 2 ^ (place - b).toNat) ∧ k % 2 = 1) := kept_iff h1 h2 k
theorem lastP_ge (mag : Nat) (place : Int) : place + mag.log2 - 52 ≤ lastP mag place ∧ -1074 ≤ lastP mag place := by unfold lastP; omega
theorem lastP_eq (mag : Nat) (place : Int) : lastP mag place = place + mag.log2 - 52 ∨ lastP mag place = -1074 := by unfold lastP; omega
theorem kept_le {mag : Nat} (m0 : mag ≠ 0) {place b : Int} (h1 : b ≤ place) (h3 : b ≤ -1074) : keptP mag place ≤ 9007199254740992 := by
  have hg := lastP_ge mag place
  obtain ⟨a1, a2⟩ := mag_bounds m0 (place - b).toNat
  refine Nat.le_of_not_lt fun hlt => kept_up ((keptP_iff h1 (by omega) _).1 hlt) a2 ?_
  rw [← two53, ← Nat.pow_add]
  exact Nat.pow_le_pow_right (by omega) (by omega)
theorem kept_ge {mag : Nat} (m0 : mag ≠ 0) {place b : Int} (h1 : b ≤ place) (h3 : b ≤ -1074) (hl : -1074 < lastP mag place) : 4503599627370495 < keptP mag place := by
  have hg := lastP_eq mag place
  obtain ⟨a1, a2⟩ := mag_bounds m0 (place - b).toNat
  refine (keptP_iff h1 (by omega) _).2 (.inl (kept_dn a1 ?_ (Nat.two_pow_pos _)))
  rw [← two52, ← Nat.pow_add]
  exact Nat.pow_le_pow_right (by omega) (by omega)
theorem asm1 (e B I : Nat) {k k' : Nat} (h : k ≤ k') : min (e * B + k) I ≤ min (e * B + k') I := by
  generalize e * B = A
  omega
theorem asm2 {e e' B I k k' : Nat} (he : e < e') (hk : k ≤ 2 * B) (hk' : B ≤ k') : min (e * B + k) I ≤ min (e' * B + k') I := by
  have h : (e + 1) * B ≤ e' * B := Nat.mul_le_mul_right _ he
  rw [Nat.add_mul, Nat.one_mul] at h
  generalize e * B = A at *
  generalize e' * B = A' at *
  omega
/-- A greater number has no lower rung. -/
theorem rung_mono {mag mag' : Nat} {place place' b : Int} (h1 : b ≤ place) (h2 : b ≤ place') (h3 : b ≤ -1074) (h : mag * 2 ^ (place - b).toNat ≤ mag' * 2 ^ (place' - b).toNat) : rung mag place ≤ rung mag' place' := by
  by_cases m0 : mag = 0
  · rw [m0, rung_zero]; omega
  by_cases m1 : mag' = 0
  · rw [m1, Nat.zero_mul] at h
    have := Nat.mul_pos (Nat.pos_of_ne_zero m0) (Nat.two_pow_pos (place - b).toNat)
    omega
  obtain ⟨a1, a2⟩ := mag_bounds m0 (place - b).toNat
  obtain ⟨a3, a4⟩ := mag_bounds m1 (place' - b).toNat
  have hA : mag.log2 + (place - b).toNat < mag'.log2 + (place' - b).toNat + 1 := (Nat.pow_lt_pow_iff_right (by omega : 1 < 2)).1 (by omega)
  unfold rung
  rw [if_neg m0, if_neg m1]
  have g1 := lastP_ge mag place
  have g2 := lastP_ge mag' place'
  have g3 := lastP_eq mag place
  have hl : lastP mag place ≤ lastP mag' place' := by omega
  have k1 := keptP_iff (mag := mag) h1 (by omega) (keptP mag' place')
  have k2 := keptP_iff (mag := mag') h2 (by omega) (keptP mag' place')
  by_cases he : lastP mag place = lastP mag' place'
  · have : keptP mag place ≤ keptP mag' place' := by
      refine Nat.le_of_not_lt fun hlt => ?_
      have h5 := k1.1 hlt
      rw [he] at h5
      have h6 := k2.2 (by
        rcases h5 with h5 | ⟨h5, h6⟩
        · left; omega
        · by_cases hq : mag * 2 ^ (place - b).toNat = mag' * 2 ^ (place' - b).toNat
          · right; rw [← hq]; exact ⟨h5, h6⟩
          · left; omega)
      exact Nat.lt_irrefl _ h6
    rw [he]; exact asm1 _ _ _ this
  · have u1 := kept_le m0 h1 h3
    have u2 := kept_ge m1 h2 h3 (by omega)
    exact asm2 (by omega) u1 u2
theorem rung_congr {mag mag' : Nat} {place place' b : Int} (h1 : b ≤ place) (h2 : b ≤ place') (h3 : b ≤ -1074) (h : mag * 2 ^ (place - b).toNat = mag' * 2 ^ (place' - b).toNat) : rung mag place = rung mag' place' :=
  Nat.le_antisymm (rung_mono h1 h2 h3 (by omega)) (rung_mono h2 h1 h3 (by omega))
theorem cut_zero (n : Nat) : Toward.even.cut false n 0 = n := by
  have h := fun k => cut_iff false n 0 k
  refine Nat.le_antisymm (Nat.le_of_not_lt fun hlt => ?_) (Nat.le_of_not_lt fun hlt => ?_)
  · have := (h n).1 hlt; omega
  · have := (h _).2 (.inl (by rw [Nat.pow_zero]; omega : (2 * Toward.even.cut false n 0 + 1) * 2 ^ 0 < 2 * n)); omega
theorem rung_canon {r : Nat} (h : r < 9218868437227405312) : ∃ m e : Nat, m * 2 ^ e = mg r ∧ rung m (-1074 + (e : Int)) = r := by
  by_cases h1 : r < 4503599627370496
  · refine ⟨r, 0, by rw [mg_low h1]; omega, ?_⟩
    by_cases h0 : r = 0
    · rw [h0]; rfl
    · have hl : r.log2 < 52 := (Nat.log2_lt h0).2 h1
      unfold rung
      rw [if_neg h0]
      have hp : lastP r (-1074 + ((0 : Nat) : Int)) = -1074 := by unfold lastP; omega
      unfold keptP
      rw [hp]
      simp only [Int.natCast_zero, Int.add_zero, Int.sub_self, Int.toNat_zero, Nat.shiftLeft_zero, cut_zero]
      omega
  · refine ⟨_, _, (mg_high h1).symm, ?_⟩
    generalize hm : 4503599627370496 + r % 4503599627370496 = m
    generalize he : r / 4503599627370496 - 1 = e
    have h0 : m ≠ 0 := by omega
    have hl : m.log2 = 52 := by
      have a := (Nat.log2_lt h0 (k := 53)).2 (by omega)
      have c : 52 ≤ m.log2 := (Nat.le_log2 h0).2 (by omega)
      omega
    unfold rung
    rw [if_neg h0]
    have hp : lastP m (-1074 + (e : Int)) = -1074 + (e : Int) := by unfold lastP; omega
    unfold keptP
    rw [hp]
    simp only [Int.sub_self, Int.toNat_zero, Nat.shiftLeft_zero, cut_zero]
    omega
theorem rung_exact {r mag : Nat} {place b : Int} (h : r < 9218868437227405312) (h1 : b ≤ place) (h3 : b ≤ -1074) (hv : mag * 2 ^ (place - b).toNat = mg r * 2 ^ (-1074 - b).toNat) : rung mag place = r := by
  obtain ⟨m, e, h4, h5⟩ := rung_canon h
  rw [← h5]
  refine rung_congr h1 (by omega) h3 ?_
  rw [hv, ← h4, Nat.mul_assoc, ← Nat.pow_add]
  congr 2
  omega
theorem mg_inf {q : Nat} (hq : q = 2046) : mg 9218868437227405312 = 4503599627370496 * 2 ^ q := by
  have e1 : 9218868437227405312 / 4503599627370496 - 1 = q := by omega
  have e2 : 4503599627370496 + 9218868437227405312 % 4503599627370496 = 4503599627370496 := by omega
  rw [mg_high (by omega), e1, e2]
theorem rung_val {mag n p : Nat} {place b : Int} (hn : n < 9007199254740992) (hp : p ≤ 2044) (h1 : b ≤ place) (h3 : b ≤ -1074) (hv : mag * 2 ^ (place - b).toNat = n * 2 ^ p * 2 ^ (-1074 - b).toNat) : mg (rung mag place) = n * 2 ^ p ∧ rung mag place < 9218868437227405312 := by
  obtain ⟨r, hr⟩ := mg_ex p n hn
  have hi : r < 9218868437227405312 := by
    obtain ⟨z, hz⟩ : ∃ z, z = 2044 := ⟨_, rfl⟩
    rw [← mg_lt_iff, hr, mg_inf (q := z + 2) (by omega)]
    have h4 : 2 ^ p ≤ 2 ^ z := Nat.pow_le_pow_right (by omega) (by omega)
    have h5 : n * 2 ^ p ≤ n * 2 ^ z := Nat.mul_le_mul_left _ h4
    have h6 : n * 2 ^ z < 9007199254740992 * 2 ^ z := Nat.mul_lt_mul_of_pos_right hn (Nat.two_pow_pos _)
    rw [Nat.pow_add]
    generalize (2 : Nat) ^ z = Z at *
    omega
  have he : rung mag place = r := rung_exact hi h1 h3 (by rw [hv, hr])
  rw [he]
  exact ⟨hr, hi⟩
/-! ### The operations -/
theorem opp_num (s : Bool) (m : Nat) (e : Int) : (Datum.number s m e).opposite = .number (!s) m e := rfl
theorem sum_num (s t : Bool) (m e n d : Nat) : ((Datum.number s m (-1074 + (e : Int))).sum (.number t n (-1074 + (d : Int)))).map double.write =
    some (double.word (if sval s (m * 2 ^ e) + sval t (n * 2 ^ d) = 0 then s && t else decide (sval s (m * 2 ^ e) + sval t (n * 2 ^ d) < 0)) (rung (sval s (m * 2 ^ e) + sval t (n * 2 ^ d)).natAbs (-1074))) := by
  unfold Datum.sum
  dsimp only
  rw [show (-1074 + (e : Int) - min (-1074 + (e : Int)) (-1074 + (d : Int))).toNat = e - min e d from by omega, show (-1074 + (d : Int) - min (-1074 + (e : Int)) (-1074 + (d : Int))).toNat = d - min e d from by omega, show min (-1074 + (e : Int)) (-1074 + (d : Int)) = -1074 + ((min e d : Nat) : Int) from by omega]
  rw [signed_eq, signed_eq, up_split e d m]
  have h2 := up_split d e n
  rw [show min d e = min e d from Nat.min_comm _ _] at h2
  rw [h2]
  rw [sval_mul s (m * 2 ^ (e - min e d)), sval_mul t (n * 2 ^ (d - min e d)), ← Int.add_mul]
  generalize sval s (m * 2 ^ (e - min e d)) + sval t (n * 2 ^ (d - min e d)) = T
  have hc : (0 : Int) < ((2 ^ (min e d) : Nat) : Int) := by have := Nat.two_pow_pos (min e d); omega
  have z1 : T * ((2 ^ (min e d) : Nat) : Int) = 0 ↔ T = 0 := ⟨fun h => by rcases Int.mul_eq_zero.1 h with h | h; exact h; omega, fun h => by rw [h, Int.zero_mul]⟩
  have z2 : T * ((2 ^ (min e d) : Nat) : Int) < 0 ↔ T < 0 := ⟨fun h => by rcases Int.lt_or_le T 0 with h1 | h1; exact h1; have := Int.mul_nonneg h1 (Int.le_of_lt hc); omega, fun h => Int.mul_neg_of_neg_of_pos h hc⟩
  simp only [z1, z2, Option.map_some, Format.write, nearest_rung]
  congr 2
  refine rung_congr (place := -1074 + ((min e d : Nat) : Int)) (place' := -1074) (b := -1074) (by omega) (by omega) (by omega) ?_
  rw [Int.natAbs_mul, Int.natAbs_natCast]
  rw [show (-1074 + ((min e d : Nat) : Int) - -1074).toNat = min e d from by omega, show ((-1074 : Int) - -1074).toNat = 0 from rfl, Nat.pow_zero, Nat.mul_one]
theorem add_num {x y : Nat} (hx : rn x < 9218868437227405312) (hy : rn y < 9218868437227405312) : double.add x y =
    some (double.word (if sval (sg x) (mg (rn x)) + sval (sg y) (mg (rn y)) = 0 then sg x && sg y else decide (sval (sg x) (mg (rn x)) + sval (sg y) (mg (rn y)) < 0)) (rung (sval (sg x) (mg (rn x)) + sval (sg y) (mg (rn y))).natAbs (-1074))) := by
  obtain ⟨m, e, h1, h2⟩ := read_num hx
  obtain ⟨n, d, h3, h4⟩ := read_num hy
  unfold Format.add
  rw [h1, h3, sum_num, h2, h4]
theorem sub_num {x y : Nat} (hx : rn x < 9218868437227405312) (hy : rn y < 9218868437227405312) : double.sub x y =
    some (double.word (if sval (sg x) (mg (rn x)) + sval (!sg y) (mg (rn y)) = 0 then sg x && !sg y else decide (sval (sg x) (mg (rn x)) + sval (!sg y) (mg (rn y)) < 0)) (rung (sval (sg x) (mg (rn x)) + sval (!sg y) (mg (rn y))).natAbs (-1074))) := by
  obtain ⟨m, e, h1, h2⟩ := read_num hx
  obtain ⟨n, d, h3, h4⟩ := read_num hy
  unfold Format.sub
  rw [h1, h3, opp_num, sum_num, h2, h4]
theorem mul_num {x y : Nat} (hx : rn x < 9218868437227405312) (hy : rn y < 9218868437227405312) : double.mul x y =
    some (double.word (sg x ^^ sg y) (rung (mg (rn x) * mg (rn y)) (-2148))) := by
  obtain ⟨m, e, h1, h2⟩ := read_num hx
  obtain ⟨n, d, h3, h4⟩ := read_num hy
  unfold Format.mul
  rw [h1, h3]
  unfold Datum.product
  simp only [Option.map_some, Format.write, nearest_rung]
  congr 2
  refine rung_congr (b := -2148) (by omega) (by omega) (by omega) ?_
  rw [show (-1074 + (e : Int) + (-1074 + (d : Int)) - -2148).toNat = e + d from by omega, show ((-2148 : Int) - -2148).toNat = 0 from rfl, Nat.pow_zero, Nat.mul_one, ← h2, ← h4, Nat.pow_add]
  rw [Nat.mul_assoc, Nat.mul_assoc]
  congr 1
  rw [← Nat.mul_assoc, Nat.mul_comm n, Nat.mul_assoc]
end Bosun
