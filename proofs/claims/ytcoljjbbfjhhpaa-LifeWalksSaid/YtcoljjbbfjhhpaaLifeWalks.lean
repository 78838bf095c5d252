/- For every state and moves the law LifeWalks returns true. No conditions. -/
import Derived.Test.YtcoljjbbfjhhpaaRows
import Derived.Test.YtcoljjbbfjhhpaaLife7
import Derived.Test.YtcoljjbbfjhhpaaLaw
namespace Go.Proofs.Ytcoljjbbfjhhpaa
open Go.RowKit Bosun
theorem walkL_lt (s : Int) (l : List Int) : (walkL s l).2 ≤ l.length := by
  induction l generalizing s with
  | nil => simp [walkL]
  | cons m r ih =>
    unfold walkL
    cases goes s m with
    | none => simp
    | some x => have := ih x; simp; omega
theorem _root_.Bosun.Reads.cut {w : World} {ao : Option Addr} {n cap : Nat} {xs : List Value} (h : Reads w (.slice ao n cap) xs) (k : Nat) (hk : k ≤ n) (c2 : Nat) : Reads w (.slice ao k c2) (xs.take k) := by
  obtain ⟨ao', cap', hv, hm, hc⟩ := h
  simp at hv
  obtain ⟨rfl, rfl, rfl⟩ := hv
  have hl : (xs.take k).length = k := by rw [List.length_take]; omega
  refine ⟨ao, c2, by rw [hl], by rw [hl]; omega, fun j x hx => ?_⟩
  have hj := (List.getElem?_eq_some_iff.1 hx).1
  rw [List.getElem?_take, if_pos (by omega)] at hx
  exact hc j x hx
set_option maxHeartbeats 4000000 in
theorem lifeWalks_walk (w : World) (s : Int) (s0 : -9223372036854775808 ≤ s) (s1 : s ≤ 9223372036854775807) (ao : Option Addr) (len cap : Nat) (hcap : len ≤ cap) (l : List Int) (hl : ∀ z ∈ l, -9223372036854775808 ≤ z ∧ z ≤ 9223372036854775807) (hr : Reads w (.slice ao len cap) (ints l)) :
    Calls Try.prog 5 #[.int .i64 s, .slice ao len cap] w fun e w' => e = .returned (.bool true) ∧ Chg [] w w' := by
  have hr0 := hr
  obtain ⟨ao', cap', hv, hm, hc⟩ := hr
  simp at hv
  obtain ⟨rfl, rfl, rfl⟩ := hv
  rw [ints_len] at hm hr0 hcap ⊢
  unfold maxLen at hm
  clear hc hl s0 s1
  have HR := Lib.hid hr0
  clear hr0
  go_enter Try.func5, Try.ntmps5
  by_cases h60 : 60 < l.length
  · have hc60 : 60 ≤ cap := by omega
    have HL := Lib.hid (show ints (l.take 60) = (ints l).take 60 from by simp [ints, List.map_take])
    by_cases hca : cap = 0
    · omega
    · go_wp2_with fail
      have HC := Lib.hid (show Reads w (.slice ao 60 cap) (ints (l.take 60)) from by rw [HL.out]; exact HR.out.cut 60 (by omega) _)
      refine (walk_any s _ (l.take 60) _ HC.out).mono ?_
      rintro e w1 ⟨rfl, C1⟩
      go_wp2_with fail
      refine (rwalk_any s _ (l.take 60) _ (HC.out.keep C1)).mono ?_
      rintro e w2 ⟨rfl, C2⟩
      go_wp2_with (go_at_call 10; refine (awake_any _).mono ?_; rintro e w7 ⟨rfl, C7⟩)
      go_ret
      exact ⟨rfl, (C1.then C2 (by simp)).then C7 (by simp)⟩
  · go_wp2_with fail
    refine (walk_any s _ l _ HR.out).mono ?_
    rintro e w1 ⟨rfl, C1⟩
    go_wp2_with fail
    refine (rwalk_any s _ l _ (HR.out.keep C1)).mono ?_
    rintro e w2 ⟨rfl, C2⟩
    go_wp2_with (go_at_call 10; refine (awake_any _).mono ?_; rintro e w7 ⟨rfl, C7⟩)
    go_ret
    exact ⟨rfl, (C1.then C2 (by simp)).then C7 (by simp)⟩
namespace lifeWalks
open Go.ChangeShapes Go.WideShapes Go.ChangeAt
theorem own : ownKnob Try.prog.godebug = none := by kernel_rfl
theorem laidOut : laidOutB Try.prog = true := by kernel_rfl

set_option maxRecDepth 100000 in
theorem lifted (os : Os) (started : os.Started) (H : Type) (enc : TypeId × Value → H) :
    ReturnsInHanded {} Try.checked os 5 .any (Rows.lifeWalksSpec.pre6 enc Try.prog Try.f5 Rows.lifeWalksRow.domain false) (Rows.lifeWalksSpec.post enc Try.prog Try.f5 false true false false) := by
  refine returnsInHanded_of_change (C := Try.checked) own started (by kernel_rfl) Try.func5
    (ChangeSpec.witness6 (enc := enc) (C := Try.checked) false ⟨#[], #[.int .i64 0, .slice none 0 0], []⟩ 8 (by kernel_rfl) (by kernel_rfl) (by kernel_rfl) (by kernel_rfl)) ?_
  intro W base args ds gs before hval0 hW hcnd _
  have hval : ∀ (j : Nat) t v, Try.f5.params[j]? = some t → args[j]? = some v → Value.okWide Try.prog W .any base t v := hval0
  have hW' := hW
  obtain ⟨p, q, hA0, hV, rfl, hfz, hnd⟩ := hW
  have hA : DataW.TrodAll enc Try.prog W 0 (fun _ => true) true Try.f5.params.toList args.toList ds p := hA0
  rw [Try.params5] at hA hval
  obtain ⟨v0, vs0, d0, ds0, p0, q0, hargs, rfl, rfl, h0, r0⟩ := trodAll_cons hA
  obtain ⟨v1, vs1, d1, ds1, p1, q1, rfl, rfl, rfl, h1, r1⟩ := trodAll_cons r0
  obtain ⟨rfl, rfl, rfl⟩ := trodAll_nil r1
  obtain rfl : args = #[v0, v1] := by cases args; simp_all
  obtain ⟨rfl, rfl⟩ := trodVars_none hV
  obtain ⟨a0, rfl, rfl, rfl, w0⟩ := open_int Try.underlying3 (hval 0 3 v0 rfl rfl) h0
  have b0 := bounds_i64 w0
  obtain ⟨a1, len1, cap1, rfl⟩ := okWide_slice Try.underlying22 (hval 1 22 v1 rfl rfl)
  have k1 := h1
  have lt1 : ∀ x ∈ p1, x.block < W.heap.size := by obtain ⟨m, hm⟩ := k1; exact DataW.trod_lt m _ _ _ hm
  obtain ⟨l1, hl1, hr1⟩ := open_whole Try.underlying22 Try.underlying3 (by kernel_rfl) h1
  clear hA0 hval0
  simp only [List.append_nil] at hW'
  refine (lifeWalks_walk W a0 b0.1 b0.2 _ _ _ (open_cap Try.underlying22 Try.underlying3 (by kernel_rfl) k1) l1 hl1 hr1).mono fun e W' ⟨he, hg⟩ => ?_
  subst he
  exact ⟨_, rfl, _, _, _, [], _, [], hW', trodAll_mk1 (shut_bool Try.underlying4 _), (trodAll_cons_mk (shut_int Try.underlying3 w0) (trodAll_cons_mk (Below.trod laidOut (by kernel_rfl) (of_decide_eq_true (by kernel_rfl)) k1 hg.below lt1) trodAll_mk0)), rfl, hg.below.frame _, fun h => by cases h⟩

theorem over : Rows.lifeWalksRow.holds Try.pinned (OpenSpec.ofChange Rows.lifeWalksSpec) :=
  OpenClaim.holds_of_wide 5 Try.f5 rfl rfl rfl rfl rfl rfl rfl ⟨rfl, rfl, rfl, rfl, rfl⟩ rfl rfl rfl rfl rfl (by kernel_rfl) Try.func5 (by kernel_rfl)
    (of_decide_eq_true (by kernel_rfl)) (by unfold Func.isWrapper; first | (rw [if_pos (by decide +kernel)]; kernel_rfl) | (rw [if_neg (by decide +kernel)]; exact ⟨rfl, rfl⟩))
    (fun os started H enc _ => lifted os started H enc)
end lifeWalks

theorem lifeWalks_holds : Rows.LifeWalksSaid := lifeWalks.over
#print axioms lifeWalks_holds
end Go.Proofs.Ytcoljjbbfjhhpaa
