/- gauge: which number is ahead; which load is heavy. -/
import Derived.Test.YtknfpnifhpbojaaGau2
import Derived.Test.YtknfpnifhpbojaaGauO
namespace Go.Proofs.Ytknfpnifhpbojaa
open Go.RowKit Bosun
set_option maxHeartbeats 1000000 in
theorem order_any (a b : Nat) (w : World) : Calls Try.prog 19 #[fl a, fl b] w fun e w' => e = .returned (.int .i64 (ordW a b)) ∧ w = w' := by
  have gl : (FloatKind.f64.format.order a b == some .lt) = decide (¬ nan a ∧ ¬ nan b ∧ key a < key b) := ord_lt a b
  have gg : (FloatKind.f64.format.order a b == some .gt) = decide (¬ nan a ∧ ¬ nan b ∧ key b < key a) := ord_gt a b
  by_cases ha : nan a
  · rw [decide_eq_false (fun h => h.1 ha)] at gl gg
    have da := decide_eq_true ha
    by_cases hb : nan b
    · have db := decide_eq_true hb
      rw [ordW_nn ha hb]
      clear ha hb
      go_enter Try.func19, Try.ntmps19
      go_wp2_with (go_at_call 33; refine (isnan_any _ _).mono ?_; rintro e w2 ⟨rfl, rfl⟩)
      go_ret
      exact ⟨rfl, rfl⟩
    · have db := decide_eq_false hb
      rw [ordW_yn ha hb]
      clear ha hb
      go_enter Try.func19, Try.ntmps19
      go_wp2_with (go_at_call 33; refine (isnan_any _ _).mono ?_; rintro e w2 ⟨rfl, rfl⟩)
      go_ret
      exact ⟨rfl, rfl⟩
  · have da := decide_eq_false ha
    by_cases hb : nan b
    · rw [decide_eq_false (fun h => h.2.1 hb)] at gl gg
      have db := decide_eq_true hb
      rw [ordW_ny ha hb]
      clear ha hb
      go_enter Try.func19, Try.ntmps19
      go_wp2_with (go_at_call 33; refine (isnan_any _ _).mono ?_; rintro e w2 ⟨rfl, rfl⟩)
      go_ret
      exact ⟨rfl, rfl⟩
    · have db := decide_eq_false hb
      rw [ordW_yy ha hb]
      by_cases h1 : key a < key b
      · rw [decide_eq_true ⟨ha, hb, h1⟩] at gl
        rw [if_pos h1]
        clear ha hb h1 gg
        go_enter Try.func19, Try.ntmps19
        go_wp2_with (go_at_call 33; refine (isnan_any _ _).mono ?_; rintro e w2 ⟨rfl, rfl⟩)
        go_ret
        exact ⟨rfl, rfl⟩
      · rw [decide_eq_false (fun h => h1 h.2.2)] at gl
        rw [if_neg h1]
        by_cases h2 : key b < key a
        · rw [decide_eq_true ⟨ha, hb, h2⟩] at gg
          rw [if_pos h2]
          clear ha hb h1 h2
          go_enter Try.func19, Try.ntmps19
          go_wp2_with (go_at_call 33; refine (isnan_any _ _).mono ?_; rintro e w2 ⟨rfl, rfl⟩)
          go_ret
          exact ⟨rfl, rfl⟩
        · rw [decide_eq_false (fun h => h2 h.2.2)] at gg
          rw [if_neg h2]
          clear ha hb h1 h2
          go_enter Try.func19, Try.ntmps19
          go_wp2_with (go_at_call 33; refine (isnan_any _ _).mono ?_; rintro e w2 ⟨rfl, rfl⟩)
          go_ret
          exact ⟨rfl, rfl⟩
set_option maxHeartbeats 1000000 in
theorem rorder_any (a b : Nat) (w : World) : Calls Try.prog 20 #[fl a, fl b] w fun e w' => e = .returned (.int .i64 (ordW a b)) ∧ w = w' := by
  have gl : (FloatKind.f64.format.order a b == some .lt) = decide (¬ nan a ∧ ¬ nan b ∧ key a < key b) := ord_lt a b
  have gg : (FloatKind.f64.format.order a b == some .gt) = decide (¬ nan a ∧ ¬ nan b ∧ key b < key a) := ord_gt a b
  have na : (FloatKind.f64.format.order a a != some .eq) = decide (nan a) := neq_self a
  have nb : (FloatKind.f64.format.order b b != some .eq) = decide (nan b) := neq_self b
  by_cases ha : nan a
  · rw [decide_eq_false (fun h => h.1 ha)] at gl gg
    rw [decide_eq_true ha] at na
    by_cases hb : nan b
    · rw [decide_eq_true hb] at nb
      rw [ordW_nn ha hb]
      clear ha hb
      go_enter Try.func20, Try.ntmps20
      go_wp2_with fail
      go_ret
      exact ⟨rfl, rfl⟩
    · rw [decide_eq_false hb] at nb
      rw [ordW_yn ha hb]
      clear ha hb
      go_enter Try.func20, Try.ntmps20
      go_wp2_with fail
      go_ret
      exact ⟨rfl, rfl⟩
  · rw [decide_eq_false ha] at na
    by_cases hb : nan b
    · rw [decide_eq_false (fun h => h.2.1 hb)] at gl gg
      rw [decide_eq_true hb] at nb
      rw [ordW_ny ha hb]
      clear ha hb
      go_enter Try.func20, Try.ntmps20
      go_wp2_with fail
      go_ret
      exact ⟨rfl, rfl⟩
    · rw [decide_eq_false hb] at nb
      rw [ordW_yy ha hb]
      by_cases h1 : key a < key b
      · rw [decide_eq_true ⟨ha, hb, h1⟩] at gl
        rw [if_pos h1]
        clear ha hb h1 gg
        go_enter Try.func20, Try.ntmps20
        go_wp2_with fail
        go_ret
        exact ⟨rfl, rfl⟩
      · rw [decide_eq_false (fun h => h1 h.2.2)] at gl
        rw [if_neg h1]
        by_cases h2 : key b < key a
        · rw [decide_eq_true ⟨ha, hb, h2⟩] at gg
          rw [if_pos h2]
          clear ha hb h1 h2
          go_enter Try.func20, Try.ntmps20
          go_wp2_with fail
          go_ret
          exact ⟨rfl, rfl⟩
        · rw [decide_eq_false (fun h => h2 h.2.2)] at gg
          rw [if_neg h2]
          clear ha hb h1 h2
          go_enter Try.func20, Try.ntmps20
          go_wp2_with fail
          go_ret
          exact ⟨rfl, rfl⟩
end Go.Proofs.Ytknfpnifhpbojaa
