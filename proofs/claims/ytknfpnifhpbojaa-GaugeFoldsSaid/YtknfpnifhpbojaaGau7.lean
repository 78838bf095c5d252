/- gauge: the page's examples. -/
import Derived.Test.YtknfpnifhpbojaaGau6
namespace Go.Proofs.Ytknfpnifhpbojaa
open Go.RowKit Bosun
theorem mathnan_any (w : World) : Calls Try.prog 31 #[] w fun e w' => e = .returned (fl 9221120237041090561) ∧ w = w' := by
  go_enter Try.func31, Try.ntmps31
  go_wp2_with (simp only [f64from_run])
  go_ret
  exact ⟨rfl, rfl⟩
theorem mathinf_any (w : World) : Calls Try.prog 32 #[.int .i64 1] w fun e w' => e = .returned (fl 9218868437227405312) ∧ w = w' := by
  go_enter Try.func32, Try.ntmps32
  go_wp2_with (simp only [f64from_run])
  go_ret
  exact ⟨rfl, rfl⟩
theorem ev1 : mixW 4616189618054758400 0 4602678819172646912 = 4611686018427387904 := by decide +kernel
theorem ev2 : mixW 9221120237041090561 4613937818241073152 4602678819172646912 = 4613937818241073152 := by decide +kernel
theorem ev3 : hvB 4607182418800017408 0 9218868437227405312 = true := by decide +kernel
theorem ev4 : lightTo [9221120237041090561, 0, 0] 3 1 := by
  have k0 : kx 9221120237041090561 = 18446744073709551616 := by decide
  have k1 : kx 0 = 0 := by decide
  refine .inr ⟨1, rfl, by omega, fun i hi => ?_, fun i hi => ?_⟩
  · match i, hi with
    | 0, _ => show kx 0 ≤ kx 9221120237041090561; rw [k0, k1]; omega
    | 1, _ => exact Int.le_refl _
    | 2, _ => exact Int.le_refl _
  · obtain rfl : i = 0 := by omega
    show kx 0 < kx 9221120237041090561
    rw [k0, k1]; omega
theorem ev5 (x : Nat) (h : nnB x = true) : (FloatKind.f64.format.order x x == some .eq) = true := by
  have e : (FloatKind.f64.format.order x x == some .eq) = _ := ord_eq x x
  rw [e]
  exact decide_eq_true ⟨nan_nn h, nan_nn h, rfl⟩
set_option maxHeartbeats 1000000 in
theorem awake_any (w : World) : Calls Try.prog 15 #[] w fun e w' => e = .returned (.bool true) ∧ Chg [] w w' := by
  have g1 := ev5 4611686018427387904 (by decide)
  have g2 := ev5 4613937818241073152 (by decide)
  go_enter Try.func15, Try.ntmps15
  go_wp2_with fail
  refine (mathnan_any _).mono ?_
  rintro e w1 ⟨rfl, rfl⟩
  go_wp2_with fail
  refine (mix_any _ _ _ (by omega) (by omega) (by omega) _).mono ?_
  rw [ev1]
  rintro e w1 ⟨rfl, rfl⟩
  go_wp2_with fail
  refine (mix_any _ _ _ (by omega) (by omega) (by omega) _).mono ?_
  rw [ev2]
  rintro e w1 ⟨rfl, rfl⟩
  go_wp2_with fail
  refine (mathinf_any _).mono ?_
  rintro e w1 ⟨rfl, rfl⟩
  go_wp2_with fail
  refine (heavier_any _ _ _ (by omega) (by omega) (by omega) _).mono ?_
  rw [ev3]
  rintro e w1 ⟨rfl, C1⟩
  go_wp2_with fail
  refine (lightest_any _ [9221120237041090561, 0, 0] _ ((Blk.new _ _ _).reads 3 3 (by simp) (by simp [maxLen]) rfl)).mono ?_
  rintro e w2 ⟨⟨a, rfl, ha⟩, rfl⟩
  obtain rfl : a = 1 := light_uniq ha ev4
  clear ha
  go_wp2_with fail
  go_ret
  exact ⟨rfl, C1.alloc _⟩
end Go.Proofs.Ytknfpnifhpbojaa
