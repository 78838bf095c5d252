/- For every state and moves the law LifeRoad returns true. No conditions. -/
import Derived.Test.YtcoljjbbfjhhpaaRows
import Derived.Test.YtcoljjbbfjhhpaaLife7
import Derived.Test.YtcoljjbbfjhhpaaLaw
namespace Go.Proofs.Ytcoljjbbfjhhpaa
open Go.RowKit Bosun
theorem goes_cases {t m x : Int} (h : goes t m = some x) : x = 1 ∨ (x = 2 ∧ m = 1 ∧ t = 1) ∨ x = 3 ∨ x = 4 ∨ x = 5 ∨ (x = 0 ∧ ¬ (3 ≤ t ∧ t ≤ 5)) ∨ (x = 6 ∧ ¬ (3 ≤ t ∧ t ≤ 5)) := by
  unfold goes at h
  repeat' split at h
  all_goals first | (cases h; omega) | (cases h)
set_option maxHeartbeats 4000000 in
theorem lifeRoad_walk (w : World) (s : Int) (s0 : -9223372036854775808 ≤ s) (s1 : s ≤ 9223372036854775807) (v : Value) (l : List Int) (hl : ∀ z ∈ l, -9223372036854775808 ≤ z ∧ z ≤ 9223372036854775807) (hr : Reads w v (ints l)) :
    Calls Try.prog 3 #[.int .i64 s, v] w fun e w' => e = .returned (.bool true) ∧ Chg [] w w' := by
  obtain ⟨ao, cap, rfl, hm, hc⟩ := hr
  rw [ints_len] at hm ⊢
  unfold maxLen at hm
  have HC := Lib.hid hc
  clear hc hl s0 s1
  go_enter Try.func3, Try.ntmps3
  go_wp2_with fail
  go_loopw [5, 6, 7] (fun x5 x6 x7 wr => ∃ (t : Int) (b : Bool) (k : Nat), k ≤ l.length ∧ k ≤ 60 ∧ x5 = .int .i64 t ∧ x6 = .bool b ∧ x7 = .int .i64 k ∧ (b = true → 3 ≤ t ∧ t ≤ 5) ∧ Chg [] w wr)
    (fun _ _ x7 _ => 60 - (intOf x7).toNat)
  case atStart => exact ⟨s, false, 0, by omega, by omega, rfl, rfl, rfl, (fun e => by cases e), Chg.refl _ _⟩
  case round =>
    obtain ⟨t, b, k, hk, hk60, rfl, rfl, rfl, hb, H⟩ := hrel
    have HB := Lib.hid hb
    clear hb
    rcases (show (k < l.length ∧ k < 60) ∨ (k < l.length ∧ decide ((k : Int) < 60) = false) ∨ ¬ k < l.length by simp; omega) with ⟨h1, h2⟩ | ⟨h1, h2⟩ | h1
    · obtain ⟨g, off, rfl, hcell⟩ := HC.out k _ (ints_get l h1)
      obtain ⟨m, hm'⟩ : ∃ m, m = l[k] := ⟨_, rfl⟩
      rw [← hm'] at hcell
      have hcells : ∀ w1, Chg [] w w1 → w1.cell? ⟨g, off + k, none⟩ = some (.int .i64 m) := fun w1 h => by
        rw [World.cell?_of_block (w := w) (h.block g (World.block_lt_of_cell? w _ hcell) (by simp)), hcell]
      have HCS := Lib.hid hcells
      have c1 := hcells _ H
      clear hcells hcell hm'
      go_wp2_with fail
      refine (next_any t m _).mono ?_
      rintro e w2 ⟨rfl, C2⟩
      have H2 := H.then C2 (by simp)
      have c2 := HCS.out _ H2
      have HRN := Lib.hid (fun w => rnext_any t m w)
      cases hg : goes t m with
      | none =>
        clear hg HRN
        simp only [Option.getD_none, Option.isSome_none]
        go_wp2_with fail
        go_roundw
        case rel => exact ⟨t, b, k + 1, by omega, by omega, rfl, rfl, by go_num, HB.out, H2⟩
        case measure => simp [intOf] <;> omega
      | some x =>
        rw [hg] at HRN
        have hx := goes_cases hg
        clear hg
        simp only [Option.getD_some, Option.isSome_some]
        rcases hx with rfl | ⟨rfl, rfl, rfl⟩ | rfl | rfl | rfl | ⟨rfl, ht⟩ | ⟨rfl, ht⟩
        · go_wp2_with (first
            | (go_at_call 8; refine (waits_any 1 _).mono ?_; rintro e w9 ⟨rfl, rfl⟩)
            | (go_at_call 9; refine (HRN.out _).mono ?_; rintro e w8 ⟨⟨tx, rfl, htx⟩, hw⟩; subst hw; obtain rfl := htx _ rfl; clear htx))
          go_roundw
          case rel => exact ⟨1, false, k + 1, by omega, by omega, rfl, rfl, by go_num, (fun e => by cases e), H2⟩
          case measure => simp [intOf] <;> omega
        · obtain rfl : b = false := by cases b; rfl; have := HB.out rfl; omega
          go_wp2_with (first
            | (go_at_call 8; refine (waits_any 2 _).mono ?_; rintro e w9 ⟨rfl, rfl⟩)
            | (go_at_call 9; refine (HRN.out _).mono ?_; rintro e w8 ⟨⟨tx, rfl, htx⟩, hw⟩; subst hw; obtain rfl := htx _ rfl; clear htx))
          go_roundw
          case rel => exact ⟨2, false, k + 1, by omega, by omega, rfl, rfl, by go_num, (fun e => by cases e), H2⟩
          case measure => simp [intOf] <;> omega
        · go_wp2_with (first
            | (go_at_call 8; refine (waits_any 3 _).mono ?_; rintro e w9 ⟨rfl, rfl⟩)
            | (go_at_call 9; refine (HRN.out _).mono ?_; rintro e w8 ⟨⟨tx, rfl, htx⟩, hw⟩; subst hw; obtain rfl := htx _ rfl; clear htx))
          go_roundw
          case rel => exact ⟨3, true, k + 1, by omega, by omega, rfl, rfl, by go_num, (fun _ => by omega), H2⟩
          case measure => simp [intOf] <;> omega
        · go_wp2_with (first
            | (go_at_call 8; refine (waits_any 4 _).mono ?_; rintro e w9 ⟨rfl, rfl⟩)
            | (go_at_call 9; refine (HRN.out _).mono ?_; rintro e w8 ⟨⟨tx, rfl, htx⟩, hw⟩; subst hw; obtain rfl := htx _ rfl; clear htx))
          go_roundw
          case rel => exact ⟨4, true, k + 1, by omega, by omega, rfl, rfl, by go_num, (fun _ => by omega), H2⟩
          case measure => simp [intOf] <;> omega
        · go_wp2_with (first
            | (go_at_call 8; refine (waits_any 5 _).mono ?_; rintro e w9 ⟨rfl, rfl⟩)
            | (go_at_call 9; refine (HRN.out _).mono ?_; rintro e w8 ⟨⟨tx, rfl, htx⟩, hw⟩; subst hw; obtain rfl := htx _ rfl; clear htx))
          go_roundw
          case rel => exact ⟨5, true, k + 1, by omega, by omega, rfl, rfl, by go_num, (fun _ => by omega), H2⟩
          case measure => simp [intOf] <;> omega
        · obtain rfl : b = false := by cases b; rfl; exact absurd (HB.out rfl) ht
          clear ht
          go_wp2_with (first
            | (go_at_call 8; refine (waits_any 0 _).mono ?_; rintro e w9 ⟨rfl, rfl⟩)
            | (go_at_call 9; refine (HRN.out _).mono ?_; rintro e w8 ⟨⟨tx, rfl, htx⟩, hw⟩; subst hw; obtain rfl := htx _ rfl; clear htx))
          go_roundw
          case rel => exact ⟨0, false, k + 1, by omega, by omega, rfl, rfl, by go_num, (fun e => by cases e), H2⟩
          case measure => simp [intOf] <;> omega
        · obtain rfl : b = false := by cases b; rfl; exact absurd (HB.out rfl) ht
          clear ht
          go_wp2_with (first
            | (go_at_call 8; refine (waits_any 6 _).mono ?_; rintro e w9 ⟨rfl, rfl⟩)
            | (go_at_call 9; refine (HRN.out _).mono ?_; rintro e w8 ⟨⟨tx, rfl, htx⟩, hw⟩; subst hw; obtain rfl := htx _ rfl; clear htx))
          go_roundw
          case rel => exact ⟨6, false, k + 1, by omega, by omega, rfl, rfl, by go_num, (fun e => by cases e), H2⟩
          case measure => simp [intOf] <;> omega
    all_goals
      go_wp2_with fail
      refine (awake_any _).mono ?_
      rintro e w7 ⟨rfl, C7⟩
      go_wp2_with fail
      go_ret
      exact ⟨rfl, H.then C7 (by simp)⟩
namespace lifeRoad
open Go.ChangeShapes Go.WideShapes Go.ChangeAt
theorem own : ownKnob Try.prog.godebug = none := by kernel_rfl
theorem laidOut : laidOutB Try.prog = true := by kernel_rfl

set_option maxRecDepth 100000 in
theorem lifted (os : Os) (started : os.Started) (H : Type) (enc : TypeId × Value → H) :
    ReturnsInHanded {} Try.checked os 3 .any (Rows.lifeRoadSpec.pre6 enc Try.prog Try.f3 Rows.lifeRoadRow.domain false) (Rows.lifeRoadSpec.post enc Try.prog Try.f3 false true false false) := by
  refine returnsInHanded_of_change (C := Try.checked) own started (by kernel_rfl) Try.func3
    (ChangeSpec.witness6 (enc := enc) (C := Try.checked) false ⟨#[], #[.int .i64 0, .slice none 0 0], []⟩ 8 (by kernel_rfl) (by kernel_rfl) (by kernel_rfl) (by kernel_rfl)) ?_
  intro W base args ds gs before hval0 hW hcnd _
  have hval : ∀ (j : Nat) t v, Try.f3.params[j]? = some t → args[j]? = some v → Value.okWide Try.prog W .any base t v := hval0
  have hW' := hW
  obtain ⟨p, q, hA0, hV, rfl, hfz, hnd⟩ := hW
  have hA : DataW.TrodAll enc Try.prog W 0 (fun _ => true) true Try.f3.params.toList args.toList ds p := hA0
  rw [Try.params3] at hA hval
  obtain ⟨v0, vs0, d0, ds0, p0, q0, hargs, rfl, rfl, h0, r0⟩ := trodAll_cons hA
  obtain ⟨v1, vs1, d1, ds1, p1, q1, rfl, rfl, rfl, h1, r1⟩ := trodAll_cons r0
  obtain ⟨rfl, rfl, rfl⟩ := trodAll_nil r1
  obtain rfl : args = #[v0, v1] := by cases args; simp_all
  obtain ⟨rfl, rfl⟩ := trodVars_none hV
  obtain ⟨a0, rfl, rfl, rfl, w0⟩ := open_int Try.underlying3 (hval 0 3 v0 rfl rfl) h0
  have b0 := bounds_i64 w0
  obtain ⟨a1, len1, cap1, rfl⟩ := okWide_slice Try.underlying22 (hval 1 22 v1 rfl rfl)
  have k1 := h1
  have lt1 : ∀ x ∈ p1, x.block < W.heap.size := by obtain ⟨m, hm⟩ := k1; exact DataW.trod_lt m _ _ _ hm
  obtain ⟨l1, hl1, hr1⟩ := open_whole Try.underlying22 Try.underlying3 (by kernel_rfl) h1
  clear hA0 hval0
  simp only [List.append_nil] at hW'
  refine (lifeRoad_walk W a0 b0.1 b0.2 _ l1 hl1 hr1).mono fun e W' ⟨he, hg⟩ => ?_
  subst he
  exact ⟨_, rfl, _, _, _, [], _, [], hW', trodAll_mk1 (shut_bool Try.underlying4 _), (trodAll_cons_mk (shut_int Try.underlying3 w0) (trodAll_cons_mk (Below.trod laidOut (by kernel_rfl) (of_decide_eq_true (by kernel_rfl)) k1 hg.below lt1) trodAll_mk0)), rfl, hg.below.frame _, fun h => by cases h⟩

theorem over : Rows.lifeRoadRow.holds Try.pinned (OpenSpec.ofChange Rows.lifeRoadSpec) :=
  OpenClaim.holds_of_wide 3 Try.f3 rfl rfl rfl rfl rfl rfl rfl ⟨rfl, rfl, rfl, rfl, rfl⟩ rfl rfl rfl rfl rfl (by kernel_rfl) Try.func3 (by kernel_rfl)
    (of_decide_eq_true (by kernel_rfl)) (by unfold Func.isWrapper; first | (rw [if_pos (by decide +kernel)]; kernel_rfl) | (rw [if_neg (by decide +kernel)]; exact ⟨rfl, rfl⟩))
    (fun os started H enc _ => lifted os started H enc)
end lifeRoad

theorem lifeRoad_holds : Rows.LifeRoadSaid := lifeRoad.over
#print axioms lifeRoad_holds
end Go.Proofs.Ytcoljjbbfjhhpaa
