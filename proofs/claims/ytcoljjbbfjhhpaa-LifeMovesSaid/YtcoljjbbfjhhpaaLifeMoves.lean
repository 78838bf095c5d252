/- For every state and move the law LifeMoves returns true. No conditions. -/
import Derived.Test.YtcoljjbbfjhhpaaRows
import Derived.Test.YtcoljjbbfjhhpaaLife7
import Derived.Test.YtcoljjbbfjhhpaaLaw
namespace Go.Proofs.Ytcoljjbbfjhhpaa
open Go.RowKit Bosun
set_option maxHeartbeats 4000000 in
theorem lifeMoves_walk (w : World) (s : Int) (s0 : -9223372036854775808 ≤ s) (s1 : s ≤ 9223372036854775807) (m : Int) (m0 : -9223372036854775808 ≤ m) (m1 : m ≤ 9223372036854775807) :
    Calls Try.prog 4 #[.int .i64 s, .int .i64 m] w fun e w' => e = .returned (.bool true) ∧ Chg [] w w' := by
  obtain ⟨G, hG⟩ : ∃ G, G = goes s m := ⟨_, rfl⟩
  have HN := Lib.hid (fun w => next_any s m w)
  have HRN := Lib.hid (fun w => rnext_any s m w)
  rw [← hG] at HN HRN
  clear hG s0 s1 m0 m1
  obtain ⟨sn, hsn⟩ : ∃ x, x = stateName s := ⟨_, rfl⟩
  obtain ⟨mn, hmn⟩ : ∃ x, x = moveName m := ⟨_, rfl⟩
  have HNA := Lib.hid (fun w => name_any s w)
  have HRA := Lib.hid (fun w => rname_any s w)
  have HMA := Lib.hid (fun w => move_any m w)
  have HRM := Lib.hid (fun w => rmove_any m w)
  rw [← hsn] at HNA HRA
  rw [← hmn] at HMA HRM
  clear hsn hmn
  have HQ := Lib.hid (fun w => queued_any s w)
  have HW := Lib.hid (fun w => waits_any s w)
  go_enter Try.func4, Try.ntmps4
  go_wp2_with fail
  refine (HN.out _).mono ?_
  rintro e w1 ⟨rfl, C1⟩
  go_wp2_with fail
  refine (HRN.out _).mono ?_
  rintro e w2 ⟨⟨t, rfl, ht⟩, hw⟩
  subst hw
  cases G with
  | none =>
    clear ht
    simp only [Option.getD_none, Option.isSome_none]
    go_wp2_with (first
      | (go_at_call 11; refine (HNA.out _).mono ?_; rintro e w3 ⟨rfl, C3⟩)
      | (go_at_call 12; refine (HRA.out _).mono ?_; rintro e w4 ⟨rfl, C4⟩)
      | (go_at_call 13; refine (HMA.out _).mono ?_; rintro e w5 ⟨rfl, C5⟩)
      | (go_at_call 14; refine (HRM.out _).mono ?_; rintro e w6 ⟨rfl, C6⟩)
      | (go_at_call 10; refine (awake_any _).mono ?_; rintro e w7 ⟨rfl, C7⟩)
      | (go_at_call 15; refine (HQ.out _).mono ?_; rintro e w8 ⟨rfl, rfl⟩)
      | (go_at_call 8; refine (HW.out _).mono ?_; rintro e w9 ⟨rfl, rfl⟩))
    all_goals
      go_ret
      exact ⟨rfl, ((((C1.then C3 (by simp)).then C4 (by simp)).then C5 (by simp)).then C6 (by simp)).then C7 (by simp)⟩
  | some x =>
    obtain rfl := ht x rfl
    clear ht
    simp only [Option.getD_some, Option.isSome_some]
    go_wp2_with (first
      | (go_at_call 11; refine (HNA.out _).mono ?_; rintro e w3 ⟨rfl, C3⟩)
      | (go_at_call 12; refine (HRA.out _).mono ?_; rintro e w4 ⟨rfl, C4⟩)
      | (go_at_call 13; refine (HMA.out _).mono ?_; rintro e w5 ⟨rfl, C5⟩)
      | (go_at_call 14; refine (HRM.out _).mono ?_; rintro e w6 ⟨rfl, C6⟩)
      | (go_at_call 10; refine (awake_any _).mono ?_; rintro e w7 ⟨rfl, C7⟩)
      | (go_at_call 15; refine (HQ.out _).mono ?_; rintro e w8 ⟨rfl, rfl⟩)
      | (go_at_call 8; refine (HW.out _).mono ?_; rintro e w9 ⟨rfl, rfl⟩))
    all_goals
      go_ret
      exact ⟨rfl, ((((C1.then C3 (by simp)).then C4 (by simp)).then C5 (by simp)).then C6 (by simp)).then C7 (by simp)⟩
namespace lifeMoves
open Go.ChangeShapes Go.WideShapes Go.ChangeAt
theorem own : ownKnob Try.prog.godebug = none := by kernel_rfl

set_option maxRecDepth 100000 in
theorem lifted (os : Os) (started : os.Started) (H : Type) (enc : TypeId × Value → H) :
    ReturnsInHanded {} Try.checked os 4 .any (Rows.lifeMovesSpec.pre6 enc Try.prog Try.f4 Rows.lifeMovesRow.domain false) (Rows.lifeMovesSpec.post enc Try.prog Try.f4 false true false false) := by
  refine returnsInHanded_of_change (C := Try.checked) own started (by kernel_rfl) Try.func4
    (ChangeSpec.witness6 (enc := enc) (C := Try.checked) false ⟨#[], #[.int .i64 0, .int .i64 0], []⟩ 8 (by kernel_rfl) (by kernel_rfl) (by kernel_rfl) (by kernel_rfl)) ?_
  intro W base args ds gs before hval0 hW hcnd _
  have hval : ∀ (j : Nat) t v, Try.f4.params[j]? = some t → args[j]? = some v → Value.okWide Try.prog W .any base t v := hval0
  have hW' := hW
  obtain ⟨p, q, hA0, hV, rfl, hfz, hnd⟩ := hW
  have hA : DataW.TrodAll enc Try.prog W 0 (fun _ => true) true Try.f4.params.toList args.toList ds p := hA0
  rw [Try.params4] at hA hval
  obtain ⟨v0, vs0, d0, ds0, p0, q0, hargs, rfl, rfl, h0, r0⟩ := trodAll_cons hA
  obtain ⟨v1, vs1, d1, ds1, p1, q1, rfl, rfl, rfl, h1, r1⟩ := trodAll_cons r0
  obtain ⟨rfl, rfl, rfl⟩ := trodAll_nil r1
  obtain rfl : args = #[v0, v1] := by cases args; simp_all
  obtain ⟨rfl, rfl⟩ := trodVars_none hV
  obtain ⟨a0, rfl, rfl, rfl, w0⟩ := open_int Try.underlying3 (hval 0 3 v0 rfl rfl) h0
  have b0 := bounds_i64 w0
  obtain ⟨a1, rfl, rfl, rfl, w1⟩ := open_int Try.underlying3 (hval 1 3 v1 rfl rfl) h1
  have b1 := bounds_i64 w1
  clear hA0 hval0
  simp only [List.append_nil] at hW'
  refine (lifeMoves_walk W a0 b0.1 b0.2 a1 b1.1 b1.2).mono fun e W' ⟨he, hg⟩ => ?_
  subst he
  exact ⟨_, rfl, _, _, _, [], _, [], hW', trodAll_mk1 (shut_bool Try.underlying4 _), (trodAll_cons_mk (shut_int Try.underlying3 w0) (trodAll_cons_mk (shut_int Try.underlying3 w1) trodAll_mk0)), rfl, hg.below.frame _, fun h => by cases h⟩

theorem over : Rows.lifeMovesRow.holds Try.pinned (OpenSpec.ofChange Rows.lifeMovesSpec) :=
  OpenClaim.holds_of_wide 4 Try.f4 rfl rfl rfl rfl rfl rfl rfl ⟨rfl, rfl, rfl, rfl, rfl⟩ rfl rfl rfl rfl rfl (by kernel_rfl) Try.func4 (by kernel_rfl)
    (of_decide_eq_true (by kernel_rfl)) (by unfold Func.isWrapper; first | (rw [if_pos (by decide +kernel)]; kernel_rfl) | (rw [if_neg (by decide +kernel)]; exact ⟨rfl, rfl⟩))
    (fun os started H enc _ => lifted os started H enc)
end lifeMoves

theorem lifeMoves_holds : Rows.LifeMovesSaid := lifeMoves.over
#print axioms lifeMoves_holds
end Go.Proofs.Ytcoljjbbfjhhpaa
