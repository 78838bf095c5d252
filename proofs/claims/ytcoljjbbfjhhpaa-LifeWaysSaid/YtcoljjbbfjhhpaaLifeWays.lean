/- For every pair of numbers the law LifeWays returns true. No conditions. -/
import Derived.Test.YtcoljjbbfjhhpaaRows
import Derived.Test.YtcoljjbbfjhhpaaLife7
import Derived.Test.YtcoljjbbfjhhpaaLaw
namespace Go.Proofs.Ytcoljjbbfjhhpaa
open Go.RowKit Bosun
set_option maxRecDepth 100000 in
theorem wayL_leads : ∀ a, a < 7 → ∀ to, to < 7 → walkL (a : Nat) (wayL a to).1 = ((to : Int), (wayL a to).1.length) ∧ (wayL a to).2 = true := by decide +kernel
set_option maxHeartbeats 4000000 in
theorem lifeWays_walk (w : World) (a : Int) (a0 : -9223372036854775808 ≤ a) (a1 : a ≤ 9223372036854775807) (to : Int) (t0 : -9223372036854775808 ≤ to) (t1 : to ≤ 9223372036854775807) :
    Calls Try.prog 6 #[.int .i64 a, .int .i64 to] w fun e w' => e = .returned (.bool true) ∧ Chg [] w w' := by
  clear a0 a1 t0 t1
  by_cases h : (0 ≤ a ∧ a < 7) ∧ (0 ≤ to ∧ to < 7)
  · obtain ⟨n, rfl, hn⟩ : ∃ n : Nat, a = n ∧ n < 7 := ⟨a.toNat, by omega, by omega⟩
    obtain ⟨m, rfl, hm⟩ : ∃ n : Nat, to = n ∧ n < 7 := ⟨to.toNat, by omega, by omega⟩
    clear h
    obtain ⟨hl, ht⟩ := wayL_leads n hn m hm
    have HW := Lib.hid (fun w => way_in n m hn hm w)
    have HRW := Lib.hid (fun w => rway_in n m hn hm w)
    rw [ht] at HW HRW
    obtain ⟨l, hll⟩ : ∃ l, l = (wayL n m).1 := ⟨_, rfl⟩
    rw [← hll] at HW HRW hl
    have HL := Lib.hid hl
    clear hl ht hll hn hm
    go_enter Try.func6, Try.ntmps6
    go_wp2_with fail
    refine (HW.out _).mono ?_
    rintro e w1 ⟨v, rfl, O1, C1⟩
    go_wp2_with fail
    refine (HRW.out _).mono ?_
    rintro e w2 ⟨u, rfl, R2, C2⟩
    have O2 := O1.keep C2
    have hR := O2.reads
    have hR0 := hR
    obtain ⟨ao, cap, rfl, hm, hc⟩ := hR
    unfold maxLen at hm
    rw [ints_len] at hm hR0 ⊢
    have HRR := Lib.hid hR0
    have HR2 := Lib.hid R2
    clear hc O1 O2 hR0 R2
    go_wp2_with (first
      | (go_at_call 20; refine (same_any _ _ l l _ HRR.out HR2.out).mono ?_; rw [decide_eq_true rfl]; rintro e w3 ⟨rfl, C3⟩)
      | (go_at_call 10; refine (awake_any _).mono ?_; rintro e w4 ⟨rfl, C4⟩)
      | (go_at_call 16; refine (walk_any n _ l _ ((HRR.out.keep C3).keep C4)).mono ?_; rw [HL.out]; rintro e w5 ⟨rfl, C5⟩))
    go_ret
    exact ⟨rfl, (((C1.then C2 (by simp)).then C3 (by simp)).then C4 (by simp)).then C5 (by simp)⟩
  · have HW := Lib.hid (fun w => way_out a to h w)
    have HRW := Lib.hid (fun w => rway_out a to h w)
    clear h
    go_enter Try.func6, Try.ntmps6
    go_wp2_with fail
    refine (HW.out _).mono ?_
    rintro e w1 ⟨rfl, rfl⟩
    go_wp2_with fail
    refine (HRW.out _).mono ?_
    rintro e w2 ⟨rfl, rfl⟩
    go_wp2_with (first
      | (go_at_call 20; refine (same_any _ _ [] [] _ (Reads.nil _ _ _) (Reads.nil _ _ _)).mono ?_; rw [decide_eq_true rfl]; rintro e w3 ⟨rfl, C3⟩)
      | (go_at_call 10; refine (awake_any _).mono ?_; rintro e w4 ⟨rfl, C4⟩)
      | (go_at_call 16; refine (walk_any a _ [] _ (Reads.nil _ _ _)).mono ?_; rintro e w5 ⟨rfl, C5⟩))
    go_ret
    exact ⟨rfl, (C3.then C4 (by simp)).then C5 (by simp)⟩
namespace lifeWays
open Go.ChangeShapes Go.WideShapes Go.ChangeAt
theorem own : ownKnob Try.prog.godebug = none := by kernel_rfl

set_option maxRecDepth 100000 in
theorem lifted (os : Os) (started : os.Started) (H : Type) (enc : TypeId × Value → H) :
    ReturnsInHanded {} Try.checked os 6 .any (Rows.lifeWaysSpec.pre6 enc Try.prog Try.f6 Rows.lifeWaysRow.domain false) (Rows.lifeWaysSpec.post enc Try.prog Try.f6 false true false false) := by
  refine returnsInHanded_of_change (C := Try.checked) own started (by kernel_rfl) Try.func6
    (ChangeSpec.witness6 (enc := enc) (C := Try.checked) false ⟨#[], #[.int .i64 0, .int .i64 0], []⟩ 8 (by kernel_rfl) (by kernel_rfl) (by kernel_rfl) (by kernel_rfl)) ?_
  intro W base args ds gs before hval0 hW hcnd _
  have hval : ∀ (j : Nat) t v, Try.f6.params[j]? = some t → args[j]? = some v → Value.okWide Try.prog W .any base t v := hval0
  have hW' := hW
  obtain ⟨p, q, hA0, hV, rfl, hfz, hnd⟩ := hW
  have hA : DataW.TrodAll enc Try.prog W 0 (fun _ => true) true Try.f6.params.toList args.toList ds p := hA0
  rw [Try.params6] at hA hval
  obtain ⟨v0, vs0, d0, ds0, p0, q0, hargs, rfl, rfl, h0, r0⟩ := trodAll_cons hA
  obtain ⟨v1, vs1, d1, ds1, p1, q1, rfl, rfl, rfl, h1, r1⟩ := trodAll_cons r0
  obtain ⟨rfl, rfl, rfl⟩ := trodAll_nil r1
  obtain rfl : args = #[v0, v1] := by cases args; simp_all
  obtain ⟨rfl, rfl⟩ := trodVars_none hV
  obtain ⟨a0, rfl, rfl, rfl, w0⟩ := open_int Try.underlying3 (hval 0 3 v0 rfl rfl) h0
  have b0 := bounds_i64 w0
  obtain ⟨a1, rfl, rfl, rfl, w1⟩ := open_int Try.underlying3 (hval 1 3 v1 rfl rfl) h1
  have b1 := bounds_i64 w1
  clear hA0 hval0
  simp only [List.append_nil] at hW'
  refine (lifeWays_walk W a0 b0.1 b0.2 a1 b1.1 b1.2).mono fun e W' ⟨he, hg⟩ => ?_
  subst he
  exact ⟨_, rfl, _, _, _, [], _, [], hW', trodAll_mk1 (shut_bool Try.underlying4 _), (trodAll_cons_mk (shut_int Try.underlying3 w0) (trodAll_cons_mk (shut_int Try.underlying3 w1) trodAll_mk0)), rfl, hg.below.frame _, fun h => by cases h⟩

theorem over : Rows.lifeWaysRow.holds Try.pinned (OpenSpec.ofChange Rows.lifeWaysSpec) :=
  OpenClaim.holds_of_wide 6 Try.f6 rfl rfl rfl rfl rfl rfl rfl ⟨rfl, rfl, rfl, rfl, rfl⟩ rfl rfl rfl rfl rfl (by kernel_rfl) Try.func6 (by kernel_rfl)
    (of_decide_eq_true (by kernel_rfl)) (by unfold Func.isWrapper; first | (rw [if_pos (by decide +kernel)]; kernel_rfl) | (rw [if_neg (by decide +kernel)]; exact ⟨rfl, rfl⟩))
    (fun os started H enc _ => lifted os started H enc)
end lifeWays

theorem lifeWays_holds : Rows.LifeWaysSaid := lifeWays.over
#print axioms lifeWays_holds
end Go.Proofs.Ytcoljjbbfjhhpaa
