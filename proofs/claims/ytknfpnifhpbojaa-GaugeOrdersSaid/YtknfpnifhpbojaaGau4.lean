/- gauge: which load is heavy beside another one; of the program and of the document. -/
import Derived.Test.YtknfpnifhpbojaaGau3
namespace Go.Proofs.Ytknfpnifhpbojaa
open Go.RowKit Bosun
theorem nan_draw (b ratio : Nat) (h : Ieee.double.mul b ratio = none) : ∃ nz : World → Nat, (∀ w, nan (nz w)) ∧ ∀ t w, (binOp .mul t (.float .f64 b) (.float .f64 ratio)).run Try.prog w = .ok (.float .f64 (nz w)) w.drew := by
  refine ⟨fun w => (Question.nanBits .f64 b ratio).cut (w.tape w.drawn (.nanBits .f64 b ratio)), fun w => ?_, fun t w => ?_⟩
  · have key : ∀ t : Nat, 9218868437227405312 < (t % 2 * 2 ^ 63 + 9218868437227405312 + 1 + t / 2 % (2 ^ 52 - 1)) % 9223372036854775808 := fun t => by
      have hx : t / 2 % (2 ^ 52 - 1) < 2 ^ 52 - 1 := Nat.mod_lt _ (by decide)
      generalize t / 2 % (2 ^ 52 - 1) = x at *
      rcases Nat.mod_two_eq_zero_or_one t with h | h <;> rw [h] <;> omega
    exact key _
  · have h' : FloatKind.f64.format.mul b ratio = none := h
    simp [binOp, Op.floatArith, h', Question.forced]
theorem hv_no1 {a b ratio : Nat} (h : loadB a = false) : hvB a b ratio = false := by unfold hvB; rw [h]; rfl
theorem hv_no2 {a b ratio : Nat} (h : loadB b = false) : hvB a b ratio = false := by unfold hvB; rw [h, Bool.and_false]; rfl
theorem hv_no3 {a b ratio : Nat} (h : nnB ratio = false) : hvB a b ratio = false := by unfold hvB; rw [h, Bool.and_false]; rfl
theorem hv_yes {a b ratio : Nat} (h1 : loadB a = true) (h2 : loadB b = true) (h3 : nnB ratio = true) : hvB a b ratio = decide (key (barW b ratio) < key a) := by unfold hvB; rw [h1, h2, h3]; rfl
theorem gt_bar {a r : Nat} (h1 : loadB a = true) (h2 : nnB r = true) : (FloatKind.f64.format.order a r == some .gt) = decide (key r < key a) := by
  have h : (FloatKind.f64.format.order a r == some .gt) = _ := ord_gt a r
  rw [h]
  refine decide_eq_decide.2 ⟨fun h => h.2.2, fun h => ⟨nan_nn (load_nn h1), nan_nn h2, h⟩⟩
set_option maxHeartbeats 1000000 in
theorem heavier_any (a b ratio : Nat) (ha : a < 18446744073709551616) (hb : b < 18446744073709551616) (hr : ratio < 18446744073709551616) (w : World) :
    Calls Try.prog 16 #[fl a, fl b, fl ratio] w fun e w' => e = .returned (.bool (hvB a b ratio)) ∧ Chg [] w w' := by
  cases h1 : loadB a with
  | false =>
    rw [hv_no1 h1]
    go_enter Try.func16, Try.ntmps16
    go_wp2_with (first
        | (go_at_call 11; refine (load_any _ (by assumption) _).mono ?_; rintro e w2 ⟨rfl, rfl⟩)
        | (go_at_call 33; refine (isnan_any _ _).mono ?_; rintro e w2 ⟨rfl, rfl⟩))
    go_ret
    exact ⟨rfl, Chg.refl _ _⟩
  | true =>
  cases h2 : loadB b with
  | false =>
    rw [hv_no2 h2]
    go_enter Try.func16, Try.ntmps16
    go_wp2_with (first
        | (go_at_call 11; refine (load_any _ (by assumption) _).mono ?_; rintro e w2 ⟨rfl, rfl⟩)
        | (go_at_call 33; refine (isnan_any _ _).mono ?_; rintro e w2 ⟨rfl, rfl⟩))
    go_ret
    exact ⟨rfl, Chg.refl _ _⟩
  | true =>
  cases h3 : nnB ratio with
  | false =>
    rw [hv_no3 h3]
    by_cases hn : nan ratio
    · have dn := decide_eq_true hn
      clear hn h3
      go_enter Try.func16, Try.ntmps16
      go_wp2_with (first
        | (go_at_call 11; refine (load_any _ (by assumption) _).mono ?_; rintro e w2 ⟨rfl, rfl⟩)
        | (go_at_call 33; refine (isnan_any _ _).mono ?_; rintro e w2 ⟨rfl, rfl⟩))
      go_ret
      exact ⟨rfl, Chg.refl _ _⟩
    · have dn := decide_eq_false hn
      have g : (FloatKind.f64.format.order ratio 0 == some .lt) = !nnB ratio := lt0 hr hn
      rw [h3] at g
      clear hn h3
      go_enter Try.func16, Try.ntmps16
      go_wp2_with (first
        | (go_at_call 11; refine (load_any _ (by assumption) _).mono ?_; rintro e w2 ⟨rfl, rfl⟩)
        | (go_at_call 33; refine (isnan_any _ _).mono ?_; rintro e w2 ⟨rfl, rfl⟩))
      go_ret
      exact ⟨rfl, Chg.refl _ _⟩
  | true =>
  rw [hv_yes h1 h2 h3]
  have dn : decide (nan ratio) = false := decide_eq_false (nan_nn h3)
  have g : (FloatKind.f64.format.order ratio 0 == some .lt) = !nnB ratio := lt0 hr (nan_nn h3)
  rw [h3] at g
  rcases mul_nn h2 h3 with ⟨r, q1, q2⟩ | q1
  · have hop : ∀ t w, (binOp .mul t (.float .f64 b) (.float .f64 ratio)).run Try.prog w = .ok (.float .f64 r) w := fun t w => run_float_arith w .mul t .f64 b ratio r q1
    have hb2 : barW b ratio = r := by unfold barW; rw [q1]; rfl
    rw [hb2]
    have gb := gt_bar h1 q2
    have dz : decide (nan r) = false := decide_eq_false (nan_nn q2)
    have dp : ¬ nan r := nan_nn q2
    obtain ⟨v, hv⟩ : ∃ v, v = decide (key r < key a) := ⟨_, rfl⟩
    rw [← hv] at gb ⊢
    clear hv q1 q2 hb2 h3
    go_enter Try.func16, Try.ntmps16
    go_wp2_with (first
        | (go_at_call 11; refine (load_any _ (by assumption) _).mono ?_; rintro e w2 ⟨rfl, rfl⟩)
        | (go_at_call 33; refine (isnan_any _ _).mono ?_; rintro e w2 ⟨rfl, rfl⟩)
        | simp only [hop])
    go_ret
    exact ⟨rfl, Chg.refl _ _⟩
  · obtain ⟨nz, hz, hop⟩ := nan_draw b ratio q1
    have hb2 : barW b ratio = 0 := by unfold barW; rw [q1]; rfl
    rw [hb2]
    have gb := gt_bar (r := 0) h1 (by decide)
    have dz : decide (nan (nz w)) = true := decide_eq_true (hz w)
    have dp : nan (nz w) := hz w
    obtain ⟨v, hv⟩ : ∃ v, v = decide (key 0 < key a) := ⟨_, rfl⟩
    rw [← hv] at gb ⊢
    clear hv q1 hb2 h3 hz
    go_enter Try.func16, Try.ntmps16
    go_wp2_with (first
        | (go_at_call 11; refine (load_any _ (by assumption) _).mono ?_; rintro e w2 ⟨rfl, rfl⟩)
        | (go_at_call 33; refine (isnan_any _ _).mono ?_; rintro e w2 ⟨rfl, rfl⟩)
        | simp only [hop])
    go_ret
    exact ⟨rfl, (Chg.refl _ _).drew⟩
set_option maxHeartbeats 1000000 in
theorem rheavier_any (a b ratio : Nat) (ha : a < 18446744073709551616) (hb : b < 18446744073709551616) (hr : ratio < 18446744073709551616) (w : World) :
    Calls Try.prog 17 #[fl a, fl b, fl ratio] w fun e w' => e = .returned (.bool (hvB a b ratio)) ∧ Chg [] w w' := by
  cases h1 : loadB a with
  | false =>
    rw [hv_no1 h1]
    go_enter Try.func17, Try.ntmps17
    go_wp2_with (first
        | (go_at_call 12; refine (rload_any _ (by assumption) _).mono ?_; rintro e w2 ⟨rfl, rfl⟩))
    go_ret
    exact ⟨rfl, Chg.refl _ _⟩
  | true =>
  cases h2 : loadB b with
  | false =>
    rw [hv_no2 h2]
    go_enter Try.func17, Try.ntmps17
    go_wp2_with (first
        | (go_at_call 12; refine (rload_any _ (by assumption) _).mono ?_; rintro e w2 ⟨rfl, rfl⟩))
    go_ret
    exact ⟨rfl, Chg.refl _ _⟩
  | true =>
  cases h3 : nnB ratio with
  | false =>
    rw [hv_no3 h3]
    have g : (FloatKind.f64.format.order ratio 0 == some .gt || FloatKind.f64.format.order ratio 0 == some .eq) = nnB ratio := ge0 hr
    rw [h3] at g
    clear h3
    go_enter Try.func17, Try.ntmps17
    go_wp2_with (first
        | (go_at_call 12; refine (rload_any _ (by assumption) _).mono ?_; rintro e w2 ⟨rfl, rfl⟩))
    go_ret
    exact ⟨rfl, Chg.refl _ _⟩
  | true =>
  rw [hv_yes h1 h2 h3]
  have g : (FloatKind.f64.format.order ratio 0 == some .gt || FloatKind.f64.format.order ratio 0 == some .eq) = nnB ratio := ge0 hr
  rw [h3] at g
  rcases mul_nn h2 h3 with ⟨r, q1, q2⟩ | q1
  · have hop : ∀ t w, (binOp .mul t (.float .f64 b) (.float .f64 ratio)).run Try.prog w = .ok (.float .f64 r) w := fun t w => run_float_arith w .mul t .f64 b ratio r q1
    have hb2 : barW b ratio = r := by unfold barW; rw [q1]; rfl
    rw [hb2]
    have gb := gt_bar h1 q2
    have dz : (FloatKind.f64.format.order r r != some .eq) = false := (neq_self r).trans (decide_eq_false (nan_nn q2))
    obtain ⟨v, hv⟩ : ∃ v, v = decide (key r < key a) := ⟨_, rfl⟩
    rw [← hv] at gb ⊢
    clear hv q1 q2 hb2 h3
    go_enter Try.func17, Try.ntmps17
    go_wp2_with (first
        | (go_at_call 12; refine (rload_any _ (by assumption) _).mono ?_; rintro e w2 ⟨rfl, rfl⟩)
        | simp only [hop])
    go_ret
    exact ⟨rfl, Chg.refl _ _⟩
  · obtain ⟨nz, hz, hop⟩ := nan_draw b ratio q1
    have hb2 : barW b ratio = 0 := by unfold barW; rw [q1]; rfl
    rw [hb2]
    have gb := gt_bar (r := 0) h1 (by decide)
    have dz : (FloatKind.f64.format.order (nz w) (nz w) != some .eq) = true := (neq_self _).trans (decide_eq_true (hz w))
    obtain ⟨v, hv⟩ : ∃ v, v = decide (key 0 < key a) := ⟨_, rfl⟩
    rw [← hv] at gb ⊢
    clear hv q1 hb2 h3 hz
    go_enter Try.func17, Try.ntmps17
    go_wp2_with (first
        | (go_at_call 12; refine (rload_any _ (by assumption) _).mono ?_; rintro e w2 ⟨rfl, rfl⟩)
        | simp only [hop])
    go_ret
    exact ⟨rfl, (Chg.refl _ _).drew⟩
end Go.Proofs.Ytknfpnifhpbojaa
