/- Loads and averages, plainly. No program in sight. -/
import Derived.Test.YtknfpnifhpbojaaFlt2
namespace Bosun
open Ieee
/-- Which words are loads, shares, not below nought (and no NaN). -/
def loadB (x : Nat) : Bool := decide (x < 9218868437227405312 ∨ x = 9223372036854775808)
def shareB (x : Nat) : Bool := decide (x ≤ 4607182418800017408 ∨ x = 9223372036854775808)
def nnB (x : Nat) : Bool := decide (x ≤ 9218868437227405312 ∨ x = 9223372036854775808)
theorem word_lo {x : Nat} (h : x < 9223372036854775808) : rn x = x ∧ sg x = false := by
  unfold rn sg
  refine ⟨Nat.mod_eq_of_lt h, ?_⟩
  rw [Nat.div_eq_of_lt h]; rfl
theorem word_hi {x : Nat} (h : ¬ x < 9223372036854775808) (h2 : x < 18446744073709551616) : rn x = x - 9223372036854775808 ∧ sg x = true := by
  unfold rn sg
  refine ⟨by omega, ?_⟩
  rw [show x / 9223372036854775808 = 1 from by omega]; rfl
theorem key_lo {x : Nat} (h : x < 9223372036854775808) : key x = x := by
  unfold key
  rw [(word_lo h).1, (word_lo h).2]; rfl
theorem key_hi {x : Nat} (h : ¬ x < 9223372036854775808) (h2 : x < 18446744073709551616) : key x = -((x : Int) - 9223372036854775808) := by
  unfold key
  rw [(word_hi h h2).1, (word_hi h h2).2, if_pos rfl]; omega
theorem nan_lo {x : Nat} (h : x < 9223372036854775808) : nan x ↔ 9218868437227405312 < x := by
  unfold nan
  rw [(word_lo h).1]
theorem nan_hi {x : Nat} (h : ¬ x < 9223372036854775808) (h2 : x < 18446744073709551616) : nan x ↔ 18442240474082181120 < x := by
  unfold nan
  rw [(word_hi h h2).1]; omega
theorem key_c0 : key 0 = 0 := rfl
theorem key_c1 : key 4607182418800017408 = 4607182418800017408 := by decide
theorem key_cm : key 9218868437227405311 = 9218868437227405311 := by decide
theorem nan_c0 : ¬ nan 0 := by decide
theorem nan_c1 : ¬ nan 4607182418800017408 := by decide
theorem nan_cm : ¬ nan 9218868437227405311 := by decide
theorem ge0 {x : Nat} (hx : x < 18446744073709551616) : (double.order x 0 == some .gt || double.order x 0 == some .eq) = nnB x := by
  rw [ord_gt, ord_eq]
  unfold nnB
  rw [← Bool.decide_or]
  refine decide_eq_decide.2 ?_
  by_cases h : x < 9223372036854775808
  · rw [nan_lo h, key_lo h, key_c0]; simp only [nan_c0, not_false_eq_true, true_and]; omega
  · rw [nan_hi h hx, key_hi h hx, key_c0]; simp only [nan_c0, not_false_eq_true, true_and]; omega
theorem nn_cases {x : Nat} (h : nnB x = true) : (x ≤ 9218868437227405312) ∨ x = 9223372036854775808 := of_decide_eq_true h
theorem load_cases {x : Nat} (h : loadB x = true) : (x < 9218868437227405312) ∨ x = 9223372036854775808 := of_decide_eq_true h
theorem share_cases {x : Nat} (h : shareB x = true) : (x ≤ 4607182418800017408) ∨ x = 9223372036854775808 := of_decide_eq_true h
theorem le1 {x : Nat} (hx : nnB x = true) : (double.order x 4607182418800017408 == some .lt || double.order x 4607182418800017408 == some .eq) = shareB x := by
  rw [ord_lt, ord_eq]
  unfold shareB
  rw [← Bool.decide_or]
  refine decide_eq_decide.2 ?_
  rcases nn_cases hx with h | h
  · have h' : x < 9223372036854775808 := by omega
    rw [nan_lo h', key_lo h', key_c1]; simp only [nan_c1, not_false_eq_true, true_and]; omega
  · have h' : ¬ x < 9223372036854775808 := by omega
    rw [nan_hi h' (by omega), key_hi h' (by omega), key_c1]; simp only [nan_c1, not_false_eq_true, true_and]; omega
theorem lemax {x : Nat} (hx : nnB x = true) : (double.order x 9218868437227405311 == some .lt || double.order x 9218868437227405311 == some .eq) = loadB x := by
  rw [ord_lt, ord_eq]
  unfold loadB
  rw [← Bool.decide_or]
  refine decide_eq_decide.2 ?_
  rcases nn_cases hx with h | h
  · have h' : x < 9223372036854775808 := by omega
    rw [nan_lo h', key_lo h', key_cm]; simp only [nan_cm, not_false_eq_true, true_and]; omega
  · have h' : ¬ x < 9223372036854775808 := by omega
    rw [nan_hi h' (by omega), key_hi h' (by omega), key_cm]; simp only [nan_cm, not_false_eq_true, true_and]; omega
theorem gtmax {x : Nat} (hx : nnB x = true) : (double.order x 9218868437227405311 == some .gt) = !loadB x := by
  rw [ord_gt]
  unfold loadB
  rw [← decide_not]
  refine decide_eq_decide.2 ?_
  rcases nn_cases hx with h | h
  · have h' : x < 9223372036854775808 := by omega
    rw [nan_lo h', key_lo h', key_cm]; simp only [nan_cm, not_false_eq_true, true_and]; omega
  · have h' : ¬ x < 9223372036854775808 := by omega
    rw [nan_hi h' (by omega), key_hi h' (by omega), key_cm]; simp only [nan_cm, not_false_eq_true, true_and]; omega
theorem eq0 {x : Nat} (hx : nnB x = true) : (double.order x 0 == some .eq) = decide (x = 0 ∨ x = 9223372036854775808) := by
  rw [ord_eq]
  refine decide_eq_decide.2 ?_
  rcases nn_cases hx with h | h
  · have h' : x < 9223372036854775808 := by omega
    rw [nan_lo h', key_lo h', key_c0]; simp only [nan_c0, not_false_eq_true, true_and]; omega
  · have h' : ¬ x < 9223372036854775808 := by omega
    rw [nan_hi h' (by omega), key_hi h' (by omega), key_c0]; simp only [nan_c0, not_false_eq_true, true_and]; omega
theorem neq_self (x : Nat) : (double.order x x != some .eq) = decide (nan x) := by
  rw [bne, ord_eq, ← decide_not]
  refine decide_eq_decide.2 ?_
  by_cases h : nan x <;> simp [h]
theorem load_nn {x : Nat} (h : loadB x = true) : nnB x = true := by
  rcases load_cases h with h | h <;> exact decide_eq_true (by omega)
theorem nn_lt {x : Nat} (h : nnB x = true) : x < 18446744073709551616 := by rcases nn_cases h with h | h <;> omega
theorem word_f (r : Nat) : double.word false r = r := rfl
theorem word_t0 : double.word true 0 = 9223372036854775808 := rfl
theorem nn_sg : nnB 9223372036854775808 = true := by decide
theorem rn_sg : rn 9223372036854775808 = 0 := by decide
theorem word_t (r : Nat) : double.word true r = 9223372036854775808 + r := rfl
theorem sg_load {x : Nat} (h : loadB x = true) : rn x < 9218868437227405312 ∧ (sg x = false ∧ rn x = x ∨ sg x = true ∧ rn x = 0) := by
  rcases load_cases h with h | h
  · obtain ⟨a, b⟩ := word_lo (show x < 9223372036854775808 by omega)
    exact ⟨by omega, .inl ⟨b, a⟩⟩
  · subst h
    exact ⟨by decide, .inr ⟨by decide, by decide⟩⟩
theorem nn_rung (m : Nat) (p : Int) : nnB (rung m p) = true := decide_eq_true (.inl (rung_le m p))
/-- The number that a load is, in the least unit. -/
def lv (x : Nat) : Nat := mg (rn x)
theorem lv_lo {x : Nat} (h : x < 9218868437227405312) : lv x = mg x := by unfold lv; rw [(word_lo (by omega)).1]
theorem mul_load {x y : Nat} (hx : loadB x = true) (hy : loadB y = true) : ∃ r, double.mul x y = some r ∧ nnB r = true ∧ rn r = rung (lv x * lv y) (-2148) := by
  obtain ⟨x1, x2⟩ := sg_load hx
  obtain ⟨y1, y2⟩ := sg_load hy
  refine ⟨_, mul_num x1 y1, ?_⟩
  have hz : lv x * lv y = mg (rn x) * mg (rn y) := rfl
  rw [hz]
  have rl : ∀ m p, rn (rung m p) = rung m p := fun m p => (word_lo (by have := rung_le m p; omega)).1
  rcases x2 with ⟨a, b⟩ | ⟨a, b⟩ <;> rcases y2 with ⟨c, d⟩ | ⟨c, d⟩ <;> rw [a, c]
  · rw [show (false ^^ false) = false from rfl, word_f]; exact ⟨nn_rung _ _, rl _ _⟩
  · rw [d, mg_zero, Nat.mul_zero, rung_zero, show (false ^^ true) = true from rfl, word_t0]; exact ⟨nn_sg, rn_sg⟩
  · rw [b, mg_zero, Nat.zero_mul, rung_zero, show (true ^^ false) = true from rfl, word_t0]; exact ⟨nn_sg, rn_sg⟩
  · rw [show (true ^^ true) = false from rfl, word_f]; exact ⟨nn_rung _ _, rl _ _⟩
theorem mg_one_pos : 0 < mg 4607182418800017408 := by have := @mg_lt 0 4607182418800017408 (by omega); rw [mg_zero] at this; exact this
theorem sub_share {k : Nat} (hk : shareB k = true) : double.sub 4607182418800017408 k = some (rung (mg 4607182418800017408 - lv k) (-1074)) ∧ rung (mg 4607182418800017408 - lv k) (-1074) ≤ 4607182418800017408 := by
  have h1 : rn 4607182418800017408 = 4607182418800017408 := by decide
  have h2 : sg 4607182418800017408 = false := by decide
  have hk2 : loadB k = true := by rcases share_cases hk with h | h <;> exact decide_eq_true (by omega)
  obtain ⟨x1, x2⟩ := sg_load hk2
  have hb : rung (mg 4607182418800017408 - lv k) (-1074) ≤ 4607182418800017408 := by
    have e1 : rung (mg 4607182418800017408) (-1074) = 4607182418800017408 := rung_exact (b := -1074) (by omega) (by omega) (by omega) rfl
    have e2 := rung_mono (mag := mg 4607182418800017408 - lv k) (mag' := mg 4607182418800017408) (place := -1074) (place' := -1074) (b := -1074) (by omega) (by omega) (by omega) (Nat.mul_le_mul_right _ (Nat.sub_le _ _))
    omega
  refine ⟨?_, hb⟩
  rw [sub_num (by omega) x1, h1, h2]
  refine congrArg some ?_
  have h3 := mg_one_pos
  have hk3 : lv k ≤ mg 4607182418800017408 := by
    rcases share_cases hk with h | h
    · rw [lv_lo (by omega)]; exact mg_le h
    · subst h; exact Nat.zero_le _
  generalize mg 4607182418800017408 = M at *
  rcases x2 with ⟨a, b⟩ | ⟨a, b⟩
  · have h5 : lv k ≤ M := hk3
    have h6 : sval false M + sval (!sg k) (mg (rn k)) = ((M - lv k : Nat) : Int) := by rw [a]; unfold sval lv; simp; unfold lv at h5; omega
    rw [h6]
    have h7 : (if ((M - lv k : Nat) : Int) = 0 then false && !sg k else decide (((M - lv k : Nat) : Int) < 0)) = false := by split <;> simp <;> omega
    rw [h7, Int.natAbs_natCast, word_f]
  · have h5 : lv k = 0 := by unfold lv; rw [b]; rfl
    have h6 : sval false M + sval (!sg k) (mg (rn k)) = ((M - lv k : Nat) : Int) := by rw [a, b, h5]; unfold sval; simp [mg_zero]
    rw [h6]
    have h7 : (if ((M - lv k : Nat) : Int) = 0 then false && !sg k else decide (((M - lv k : Nat) : Int) < 0)) = false := by split <;> simp <;> omega
    rw [h7, Int.natAbs_natCast, word_f]
theorem sg_nn {x : Nat} (h : nnB x = true) : rn x ≤ 9218868437227405312 ∧ (sg x = false ∧ rn x = x ∨ sg x = true ∧ rn x = 0) := by
  rcases nn_cases h with h | h
  · obtain ⟨a, b⟩ := word_lo (show x < 9223372036854775808 by omega)
    exact ⟨by omega, .inl ⟨b, a⟩⟩
  · subst h
    exact ⟨by decide, .inr ⟨by decide, by decide⟩⟩
theorem sval_nat {s : Bool} {n : Nat} (h : s = true → n = 0) : sval s n = n := by
  unfold sval
  cases s
  · rfl
  · rw [h rfl]; rfl
theorem add_load {x y : Nat} (hx : loadB x = true) (hy : loadB y = true) : ∃ r, double.add x y = some r ∧ nnB r = true ∧ rn r = rung (lv x + lv y) (-1074) := by
  obtain ⟨x1, x2⟩ := sg_load hx
  obtain ⟨y1, y2⟩ := sg_load hy
  refine ⟨_, add_num x1 y1, ?_⟩
  have e1 : sval (sg x) (mg (rn x)) = (lv x : Nat) := sval_nat fun h => by rcases x2 with ⟨a, _⟩ | ⟨_, b⟩; rw [a] at h; cases h; rw [b]; rfl
  have e2 : sval (sg y) (mg (rn y)) = (lv y : Nat) := sval_nat fun h => by rcases y2 with ⟨a, _⟩ | ⟨_, b⟩; rw [a] at h; cases h; rw [b]; rfl
  rw [e1, e2, ← Int.natCast_add, Int.natAbs_natCast]
  have rl : ∀ m p, rn (rung m p) = rung m p := fun m p => (word_lo (by have := rung_le m p; omega)).1
  by_cases h0 : lv x + lv y = 0
  · rw [h0, if_pos (show ((0 : Nat) : Int) = 0 from rfl), rung_zero]
    cases sg x && sg y
    · rw [word_f]; exact ⟨by decide, rfl⟩
    · rw [word_t0]; exact ⟨nn_sg, rn_sg⟩
  · rw [if_neg (by omega), show decide (((lv x + lv y : Nat) : Int) < 0) = false from decide_eq_false (by omega), word_f]
    exact ⟨nn_rung _ _, rl _ _⟩
theorem add_nn {x y : Nat} (hx : nnB x = true) (hy : nnB y = true) : ∃ r, double.add x y = some r ∧ nnB r = true := by
  have num : ∀ {z : Nat}, nnB z = true → z = 9218868437227405312 ∨ loadB z = true := fun {z} hz => by
    rcases nn_cases hz with h | h
    · rcases Nat.lt_or_eq_of_le h with h | h
      · exact .inr (decide_eq_true (.inl h))
      · exact .inl h
    · exact .inr (decide_eq_true (.inr h))
  have ri : double.read 9218868437227405312 = .infinity false := by rw [read_inf (by decide)]; rfl
  have rd : ∀ {z : Nat}, loadB z = true → ∃ s m p, double.read z = .number s m p := fun {z} hz => by
    obtain ⟨m, e, h, _⟩ := read_num (sg_load hz).1
    exact ⟨_, _, _, h⟩
  rcases num hx with rfl | h1
  · rcases num hy with rfl | h2
    · exact ⟨9218868437227405312, by unfold Format.add; rw [ri]; rfl, by decide⟩
    · obtain ⟨s, m, p, h3⟩ := rd h2
      exact ⟨9218868437227405312, by unfold Format.add; rw [ri, h3]; rfl, by decide⟩
  · rcases num hy with rfl | h2
    · obtain ⟨s, m, p, h3⟩ := rd h1
      exact ⟨9218868437227405312, by unfold Format.add; rw [ri, h3]; rfl, by decide⟩
    · obtain ⟨r, a, b, _⟩ := add_load h1 h2
      exact ⟨r, a, b⟩
/-- A number told: not infinite, no nought with a sign. -/
def tellW (x : Nat) : Nat := if x = 9223372036854775808 then 0 else min x 9218868437227405311
theorem tellW_le {x : Nat} : tellW x ≤ 9218868437227405311 := by unfold tellW; split <;> omega
theorem tellW_load {x : Nat} : loadB (tellW x) = true := decide_eq_true (.inl (by have := @tellW_le x; omega))
theorem tellW_lo {x : Nat} (h : x < 9218868437227405312) : tellW x = x := by unfold tellW; rw [if_neg (by omega)]; omega
/-- x + 0. -/
def plus0 (x : Nat) : Nat := if x = 9223372036854775808 then 0 else x
theorem add0 {x : Nat} (hx : nnB x = true) : double.add x 0 = some (plus0 x) := by
  unfold plus0
  rcases nn_cases hx with h | h
  · rw [if_neg (by omega)]
    rcases Nat.lt_or_eq_of_le h with h | h
    · have hl : loadB x = true := decide_eq_true (.inl h)
      obtain ⟨x1, _⟩ := sg_load hl
      obtain ⟨a, b⟩ := word_lo (show x < 9223372036854775808 by omega)
      rw [add_num x1 (by decide), a, b, show sg 0 = false from by decide, show mg (rn 0) = 0 from by decide]
      rw [show sval false (mg x) + sval false 0 = ((mg x : Nat) : Int) from by unfold sval; simp, Int.natAbs_natCast]
      have h7 : (if ((mg x : Nat) : Int) = 0 then false && false else decide (((mg x : Nat) : Int) < 0)) = false := by split <;> simp <;> omega
      rw [h7, word_f, rung_exact (b := -1074) h (by omega) (by omega) rfl]
    · subst h; decide +kernel
  · subst h; decide +kernel
theorem plus0_nn {x : Nat} (hx : nnB x = true) : plus0 x ≤ 9218868437227405312 := by unfold plus0; rcases nn_cases hx with h | h <;> split <;> omega
theorem tell_min (x : Nat) : tellW x = min (plus0 x) 9218868437227405311 := by
  unfold tellW plus0
  split
  · rfl
  · rfl
/-- An average that decays. -/
def mixW (old now keep : Nat) : Nat :=
  if loadB now then
    if shareB keep && loadB old then tellW ((double.add ((double.mul old keep).getD 0) ((double.mul now ((double.sub 4607182418800017408 keep).getD 0)).getD 0)).getD 0) else tellW now
  else 0
theorem mixW_le (old now keep : Nat) : mixW old now keep ≤ 9218868437227405311 := by
  unfold mixW
  split
  · split <;> exact tellW_le
  · omega
theorem mixW_load (old now keep : Nat) : loadB (mixW old now keep) = true := decide_eq_true (.inl (by have := mixW_le old now keep; omega))
theorem mix_parts {old now keep : Nat} (h1 : loadB now = true) (h2 : shareB keep = true) (h3 : loadB old = true) :
    ∃ a b c s, double.mul old keep = some a ∧ double.sub 4607182418800017408 keep = some b ∧ double.mul now b = some c ∧ double.add a c = some s ∧ nnB s = true ∧ mixW old now keep = tellW s := by
  have hk2 : loadB keep = true := by rcases share_cases h2 with h | h <;> exact decide_eq_true (by omega)
  obtain ⟨a, a1, a2, _⟩ := mul_load h3 hk2
  obtain ⟨b1, b2⟩ := sub_share h2
  obtain ⟨c, c1, c2, _⟩ := mul_load h1 (show loadB (rung (mg 4607182418800017408 - lv keep) (-1074)) = true from decide_eq_true (.inl (by omega)))
  obtain ⟨s, s1, s2⟩ := add_nn a2 c2
  refine ⟨a, _, c, s, a1, b1, c1, s1, s2, ?_⟩
  unfold mixW
  rw [if_pos h1, h2, h3, a1, b1]
  simp only [Bool.and_self, if_true, Option.getD_some]
  rw [c1]
  simp only [Option.getD_some]
  rw [s1]
  rfl
end Bosun
