/- For all numbers the law GaugeHeavy returns true: which load is heavy beside another one, at any ratio; a greater ratio makes none heavier. No conditions. -/
import Derived.Test.YtknfpnifhpbojaaRows
import Derived.Test.YtknfpnifhpbojaaGau7
import Derived.Test.YtknfpnifhpbojaaGauS
import Derived.ProofKit
import Derived.OpenShut
namespace Go.Proofs.Ytknfpnifhpbojaa
open Go.RowKit Bosun
theorem hv_loads {a b ratio : Nat} (h : hvB a b ratio = true) : loadB a = true ∧ loadB b = true := by
  unfold hvB at h
  rw [Bool.and_eq_true, Bool.and_eq_true, Bool.and_eq_true] at h
  exact h.1.1
set_option maxHeartbeats 2000000 in
theorem gaugeHeavy_walk (w : World) (a : Nat) (ha : a < 18446744073709551616) (b : Nat) (hb : b < 18446744073709551616) (ratio : Nat) (hr : ratio < 18446744073709551616) (more : Nat) (hm : more < 18446744073709551616) :
    Calls Try.prog 5 #[fl a, fl b, fl ratio, fl more] w fun e w' => e = .returned (.bool true) ∧ Chg [] w w' := by
  have H1 := Lib.hid (fun w => heavier_any a b ratio ha hb hr w)
  have H2 := Lib.hid (fun w => rheavier_any a b ratio ha hb hr w)
  have H3 := Lib.hid (fun w => heavier_any a b more ha hb hm w)
  have L1 := Lib.hid (fun w => rload_any a ha w)
  have L2 := Lib.hid (fun w => rload_any b hb w)
  have g1 : (FloatKind.f64.format.order ratio 0 == some .gt || FloatKind.f64.format.order ratio 0 == some .eq) = nnB ratio := ge0 hr
  have g2 : (FloatKind.f64.format.order more ratio == some .gt || FloatKind.f64.format.order more ratio == some .eq) = decide (¬ nan more ∧ ¬ nan ratio ∧ key ratio ≤ key more) := cmp_le
  go_enter Try.func5, Try.ntmps5
  go_wp2_with fail
  refine (H1.out _).mono ?_
  rintro e w1 ⟨rfl, C1⟩
  go_wp2_with fail
  refine (H2.out _).mono ?_
  rintro e w2 ⟨rfl, C2⟩
  have b1 : (hvB a b ratio != hvB a b ratio) = false := by simp
  go_wp2_with fail
  refine (awake_any _).mono ?_
  rintro e w3 ⟨rfl, C3⟩
  have C13 := (C1.then C2 (by simp)).then C3 (by simp)
  cases h : hvB a b ratio with
  | true =>
    obtain ⟨l1, l2⟩ := hv_loads h
    rw [l1] at L1
    rw [l2] at L2
    cases h2 : nnB ratio with
    | false =>
      rw [h2] at g1
      clear H1 H2 H3 g2 h2
      go_wp2_with fail
      refine (L1.out _).mono ?_
      rintro e w4 ⟨rfl, rfl⟩
      go_wp2_with fail
      refine (L2.out _).mono ?_
      rintro e w4 ⟨rfl, rfl⟩
      go_wp2_with fail
      go_ret
      exact ⟨rfl, C13⟩
    | true =>
      rw [h2] at g1
      clear H1 H2 H3
      obtain ⟨c, hc⟩ : ∃ c, c = decide (¬ nan more ∧ ¬ nan ratio ∧ key ratio ≤ key more) := ⟨_, rfl⟩
      rw [← hc] at g2
      obtain ⟨d, hd⟩ : ∃ d, (FloatKind.f64.format.order more 9218868437227405311 == some .lt || FloatKind.f64.format.order more 9218868437227405311 == some .eq) = d := ⟨_, rfl⟩
      clear hc h2
      go_wp2_with fail
      refine (L1.out _).mono ?_
      rintro e w4 ⟨rfl, rfl⟩
      go_wp2_with fail
      refine (L2.out _).mono ?_
      rintro e w4 ⟨rfl, rfl⟩
      cases c <;> cases d
      all_goals
        go_wp2_with fail
        go_ret
        exact ⟨rfl, C13⟩
  | false =>
    cases h2 : nnB ratio with
    | false =>
      rw [h2] at g1
      clear H1 H2 H3 g2 h2
      go_wp2_with fail
      go_ret
      exact ⟨rfl, C13⟩
    | true =>
      rw [h2] at g1
      cases hc : decide (¬ nan more ∧ ¬ nan ratio ∧ key ratio ≤ key more) with
      | false =>
        rw [hc] at g2
        clear H1 H2 H3 h2 hc
        go_wp2_with fail
        go_ret
        exact ⟨rfl, C13⟩
      | true =>
        rw [hc] at g2
        have hcc := of_decide_eq_true hc
        have nm : nnB more = true := by
          have h4 := ge0 hm
          cases h5 : nnB more with
          | true => rfl
          | false =>
            have h6 : ¬ (¬ nan more ∧ ¬ nan 0 ∧ key 0 ≤ key more) := by
              rw [h5, cmp_le] at h4
              exact of_decide_eq_false h4
            have h7 := key_nn h2
            refine absurd ⟨hcc.1, nan_c0, ?_⟩ h6
            rw [key_c0]
            have := hcc.2.2
            omega
        have g3 : (FloatKind.f64.format.order more 9218868437227405311 == some .lt || FloatKind.f64.format.order more 9218868437227405311 == some .eq) = loadB more := lemax nm
        cases h3 : loadB more with
        | false =>
          rw [h3] at g3
          clear H1 H2 H3 h2 hc hcc
          go_wp2_with fail
          go_ret
          exact ⟨rfl, C13⟩
        | true =>
          rw [h3] at g3
          have h8 : hvB a b more = false := by
            cases h9 : hvB a b more with
            | false => rfl
            | true => rw [hv_mono h2 nm hcc.2.2 h3 h9] at h; cases h
          rw [h8] at H3
          clear H1 H2 h2 hc hcc h8
          go_wp2_with fail
          refine (H3.out _).mono ?_
          rintro e w4 ⟨rfl, C4⟩
          go_wp2_with fail
          go_ret
          exact ⟨rfl, C13.then C4 (by simp)⟩

namespace gaugeHeavy
open Go.ChangeShapes Go.WideShapes Go.ChangeAt
theorem own : ownKnob Try.prog.godebug = none := by kernel_rfl

set_option maxRecDepth 100000 in
theorem lifted (os : Os) (started : os.Started) (H : Type) (enc : TypeId × Value → H) :
    ReturnsInHanded {} Try.checked os 5 .any (Rows.gaugeHeavySpec.pre6 enc Try.prog Try.f5 Rows.gaugeHeavyRow.domain false) (Rows.gaugeHeavySpec.post enc Try.prog Try.f5 false true false false) := by
  refine returnsInHanded_of_change (C := Try.checked) own started (by kernel_rfl) Try.func5
    (ChangeSpec.witness6 (enc := enc) (C := Try.checked) false ⟨#[], #[.float .f64 0, .float .f64 0, .float .f64 0, .float .f64 0], []⟩ 8 (by kernel_rfl) (by kernel_rfl) (by kernel_rfl) (by kernel_rfl)) ?_
  intro W base args ds gs before hval0 hW hcnd _
  have hval : ∀ (j : Nat) t v, Try.f5.params[j]? = some t → args[j]? = some v → Value.okWide Try.prog W .any base t v := hval0
  have hW' := hW
  obtain ⟨p, q, hA0, hV, rfl, hfz, hnd⟩ := hW
  have hA : DataW.TrodAll enc Try.prog W 0 (fun _ => true) true Try.f5.params.toList args.toList ds p := hA0
  rw [Try.params5] at hA hval
  obtain ⟨v0, vs0, d0, ds0, p0, q0, hargs, rfl, rfl, h0, r0⟩ := trodAll_cons hA
  obtain ⟨v1, vs1, d1, ds1, p1, q1, rfl, rfl, rfl, h1, r1⟩ := trodAll_cons r0
  obtain ⟨v2, vs2, d2, ds2, p2, q2, rfl, rfl, rfl, h2, r2⟩ := trodAll_cons r1
  obtain ⟨v3, vs3, d3, ds3, p3, q3, rfl, rfl, rfl, h3, r3⟩ := trodAll_cons r2
  obtain ⟨rfl, rfl, rfl⟩ := trodAll_nil r3
  obtain rfl : args = #[v0, v1, v2, v3] := by cases args; simp_all
  obtain ⟨rfl, rfl⟩ := trodVars_none hV
  obtain ⟨a0, rfl, rfl, rfl, w0⟩ := open_float Try.underlying22 (hval 0 22 v0 rfl rfl) h0
  obtain ⟨a1, rfl, rfl, rfl, w1⟩ := open_float Try.underlying22 (hval 1 22 v1 rfl rfl) h1
  obtain ⟨a2, rfl, rfl, rfl, w2⟩ := open_float Try.underlying22 (hval 2 22 v2 rfl rfl) h2
  obtain ⟨a3, rfl, rfl, rfl, w3⟩ := open_float Try.underlying22 (hval 3 22 v3 rfl rfl) h3
  clear hA0 hval0
  simp only [List.append_nil] at hW'
  refine (gaugeHeavy_walk W a0 (lt_f64 w0) a1 (lt_f64 w1) a2 (lt_f64 w2) a3 (lt_f64 w3)).mono fun e W' ⟨he, hg⟩ => ?_
  subst he
  exact ⟨_, rfl, _, _, _, [], _, [], hW', trodAll_mk1 (shut_bool Try.underlying4 _), (trodAll_cons_mk (shut_float Try.underlying22 w0) (trodAll_cons_mk (shut_float Try.underlying22 w1) (trodAll_cons_mk (shut_float Try.underlying22 w2) (trodAll_cons_mk (shut_float Try.underlying22 w3) trodAll_mk0)))), rfl, hg.below.frame _, fun h => by cases h⟩

theorem over : Rows.gaugeHeavyRow.holds Try.pinned (OpenSpec.ofChange Rows.gaugeHeavySpec) :=
  OpenClaim.holds_of_wide 5 Try.f5 rfl rfl rfl rfl rfl rfl rfl ⟨rfl, rfl, rfl, rfl, rfl⟩ rfl rfl rfl rfl rfl (by kernel_rfl) Try.func5 (by kernel_rfl)
    (of_decide_eq_true (by kernel_rfl)) (by unfold Func.isWrapper; first | (rw [if_pos (by decide +kernel)]; kernel_rfl) | (rw [if_neg (by decide +kernel)]; exact ⟨rfl, rfl⟩))
    (fun os started H enc _ => lifted os started H enc)
end gaugeHeavy

theorem gaugeHeavy_holds : Rows.GaugeHeavySaid := gaugeHeavy.over
#print axioms gaugeHeavy_holds
end Go.Proofs.Ytknfpnifhpbojaa
