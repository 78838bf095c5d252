/- gauge: the least and the greatest of two loads, by the language's own min and max. -/
import Derived.Test.YtknfpnifhpbojaaGau7
namespace Go.Proofs.Ytknfpnifhpbojaa
open Go.RowKit Bosun
theorem order_lo {x y : Nat} (hx : x < 9218868437227405312) (hy : y < 9218868437227405312) : FloatKind.f64.format.order x y = some (if x < y then .lt else if x = y then .eq else .gt) := by
  have n1 : ¬ nan x := by rw [nan_lo (by omega)]; omega
  have n2 : ¬ nan y := by rw [nan_lo (by omega)]; omega
  rw [show FloatKind.f64.format = Ieee.double from rfl, order_key, if_neg (by rintro (h | h); exact n1 h; exact n2 h), key_lo (by omega), key_lo (by omega), cmp_int]
  refine congrArg some ?_
  by_cases h : x < y
  · rw [if_pos h, if_pos (by omega)]
  · rw [if_neg h, if_neg (by omega)]
    by_cases h : x = y
    · rw [if_pos h, if_pos (by omega)]
    · rw [if_neg h, if_neg (by omega)]
theorem min_run2 {P : Program} (x y : Nat) (hx : x < 9218868437227405312) (hy : y < 9218868437227405312) (w : World) : (Builtin.min2 (.float .f64 x) (.float .f64 y)).run P w = .ok (.float .f64 (min x y)) w := by
  have ho := order_lo hx hy
  rcases Nat.lt_trichotomy x y with h | h | h
  · rw [if_pos h] at ho; rw [Nat.min_eq_left (by omega)]; simp [Builtin.min2, ho]
  · rw [if_neg (by omega), if_pos h] at ho; subst h; simp [Builtin.min2, ho]
  · rw [if_neg (by omega), if_neg (by omega)] at ho; rw [Nat.min_eq_right (by omega)]; simp [Builtin.min2, ho]
theorem max_run2 {P : Program} (x y : Nat) (hx : x < 9218868437227405312) (hy : y < 9218868437227405312) (w : World) : (Builtin.max2 (.float .f64 x) (.float .f64 y)).run P w = .ok (.float .f64 (max x y)) w := by
  have ho := order_lo hx hy
  rcases Nat.lt_trichotomy x y with h | h | h
  · rw [if_pos h] at ho; rw [Nat.max_eq_right (by omega)]; simp [Builtin.max2, ho]
  · rw [if_neg (by omega), if_pos h] at ho; subst h; simp [Builtin.max2, ho]
  · rw [if_neg (by omega), if_neg (by omega)] at ho; rw [Nat.max_eq_left (by omega)]; simp [Builtin.max2, ho]
section
variable {P : Program} {ops : Array Oper} {Q : Exit → Act → World → Prop} {rest : List Oper} {o : Oper} {a : Act} {w : World}
theorem wpList_maxF (hgd : Region.wanted o (yielded ops a.tmps) = true) (x y : Operand) (t t' : TypeId)
    (ho : o.op = .call { callee := .builtin .max, args := #[x, y], argTypes := #[t, t'] }) (p q r : Nat)
    (hx : a.eval x = .float .f64 p) (hy : a.eval y = .float .f64 q) (hr : (Builtin.max2 (.float .f64 p) (.float .f64 q)).run P w = .ok (.float .f64 r) w)
    (h : wpList P ops Q rest (a.put o.dst (.float .f64 r)) w) : wpList P ops Q (o :: rest) a w := by
  refine wpList_valW hgd ?_ h
  simp [execOp, ho, resolve, invoke, builtin, hx, hy, Builtin.max_, hr]
end
theorem ofInt_fl (p : Nat) : floatOfInt .f64 (p : Int) = flW p := by
  have h : floatOfInt .f64 (p : Int) = Ieee.double.nearest (decide ((p : Int) < 0)) (p : Int).natAbs 0 := rfl
  rw [h, decide_eq_false (by omega), Int.natAbs_natCast, nearest_rung, word_f]; rfl
theorem quo64 (q : Nat) (hq : q < 65) : Ieee.double.div (flW q) 4634204016564240384 = some (shW q) := by
  have h := div64 q hq
  rw [nearest_rung, word_f] at h
  exact h
end Go.Proofs.Ytknfpnifhpbojaa
