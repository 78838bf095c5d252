/- For all numbers the law GaugeBetween returns true: an average of two whole loads by a share of 64ths lies between the two. No conditions. -/
import Derived.Test.YtknfpnifhpbojaaRows
import Derived.Test.YtknfpnifhpbojaaGauM
import Derived.Test.YtknfpnifhpbojaaGauS
import Derived.ProofKit
import Derived.OpenShut
namespace Go.Proofs.Ytknfpnifhpbojaa
open Go.RowKit Bosun
set_option maxHeartbeats 2000000 in
theorem gaugeBetween_walk (w : World) (a : Nat) (ha : a < 4294967296) (b : Nat) (hb : b < 4294967296) (k : Nat) (hk : k < 256) :
    Calls Try.prog 4 #[.int .u32 (a : Nat), .int .u32 (b : Nat), .int .u8 (k : Nat)] w fun e w' => e = .returned (.bool true) ∧ Chg [] w w' := by
  have a1 : a % 1048577 ≤ 1048576 := by omega
  have b1 : b % 1048577 ≤ 1048576 := by omega
  have k1 : k % 65 ≤ 64 := by omega
  have ea : (a : Int) % 1048577 = ((a % 1048577 : Nat) : Int) := by omega
  have eb : (b : Int) % 1048577 = ((b % 1048577 : Nat) : Int) := by omega
  have ek : (k : Int) % 65 = ((k % 65 : Nat) : Int) := by omega
  obtain ⟨p, hp⟩ : ∃ p, p = a % 1048577 := ⟨_, rfl⟩
  obtain ⟨q, hq⟩ : ∃ q, q = b % 1048577 := ⟨_, rfl⟩
  obtain ⟨j, hj⟩ : ∃ j, j = k % 65 := ⟨_, rfl⟩
  rw [← hp] at a1 ea
  rw [← hq] at b1 eb
  rw [← hj] at k1 ek
  clear hp hq hj
  have z1 := ofInt_fl p
  have z2 := ofInt_fl q
  have z3 := ofInt_fl j
  have z4 := quo64 j (by omega)
  have lp := flW_load a1
  have lq := flW_load b1
  have lj : loadB (shW j) = true := decide_eq_true (.inl (shW_val k1).2)
  obtain ⟨i1, i2⟩ := between a1 b1 k1
  have i3 := between_zero a1 b1
  have i4 := between_one a1 b1
  have fp : flW p < 9218868437227405312 := (flW_val a1).2
  have fq : flW q < 9218868437227405312 := (flW_val b1).2
  have fm := (between_val a1 b1 k1).2
  have HM := Lib.hid (fun w => mix_any (flW p) (flW q) (shW j) (load_lt lp) (load_lt lq) (load_lt lj) w)
  have H0 := Lib.hid (fun w => mix_any (flW p) (flW q) 0 (load_lt lp) (load_lt lq) (by omega) w)
  have H1 := Lib.hid (fun w => mix_any (flW p) (flW q) 4607182418800017408 (load_lt lp) (load_lt lq) (by omega) w)
  rw [i3] at H0
  rw [i4] at H1
  obtain ⟨m, hm⟩ : ∃ m, m = mixW (flW p) (flW q) (shW j) := ⟨_, rfl⟩
  rw [← hm] at HM i1 i2 fm
  obtain ⟨x, hx⟩ : ∃ x, x = flW p := ⟨_, rfl⟩
  obtain ⟨y, hy⟩ : ∃ y, y = flW q := ⟨_, rfl⟩
  obtain ⟨s, hs⟩ : ∃ s, s = shW j := ⟨_, rfl⟩
  obtain ⟨u, hu⟩ : ∃ u, u = flW j := ⟨_, rfl⟩
  rw [← hx] at HM H0 H1 z1 i1 i2 fp
  rw [← hy] at HM H0 H1 z2 i1 i2 fq
  rw [← hs] at HM z4
  rw [← hu] at z3 z4
  have hop : ∀ t w, (binOp .quo t (.float .f64 u) (.float .f64 4634204016564240384)).run Try.prog w = .ok (.float .f64 s) w := fun t w => run_float_arith w .quo t .f64 u _ s z4
  have hmin := Lib.hid (fun w => min_run2 (P := Try.prog) x y fp fq w)
  have hmax := Lib.hid (fun w => max_run2 (P := Try.prog) x y fp fq w)
  obtain ⟨mn, hmn⟩ : ∃ mn, mn = min x y := ⟨_, rfl⟩
  obtain ⟨mx, hmx⟩ : ∃ mx, mx = max x y := ⟨_, rfl⟩
  rw [← hmn] at hmin i1
  rw [← hmx] at hmax i2
  have g1 : (FloatKind.f64.format.order m mn == some .gt || FloatKind.f64.format.order m mn == some .eq) = true := by
    rw [order_lo fm (by omega)]
    by_cases h : m = mn
    · rw [if_neg (by omega), if_pos h]; rfl
    · rw [if_neg (by omega), if_neg h]; rfl
  have g2 : (FloatKind.f64.format.order m mx == some .lt || FloatKind.f64.format.order m mx == some .eq) = true := by
    rw [order_lo fm (by omega)]
    by_cases h : m = mx
    · rw [if_neg (by omega), if_pos h]; rfl
    · rw [if_pos (by omega)]; rfl
  have g3 : (FloatKind.f64.format.order y y == some .eq) = true := ev5 y (decide_eq_true (.inl (by omega)))
  have g4 : (FloatKind.f64.format.order x x == some .eq) = true := ev5 x (decide_eq_true (.inl (by omega)))
  clear hm hx hy hs hu hmn hmx i1 i2 i3 i4 fp fq fm lp lq lj z4 a1 b1 k1
  go_enter Try.func4, Try.ntmps4
  go_wp2_with fail
  refine (HM.out _).mono ?_
  rintro e w1 ⟨rfl, rfl⟩
  go_wp2_with (first
    | (refine wpList_minF rfl (.tmp 26) (.tmp 27) _ _ rfl x y mn rfl rfl (hmin.out _) ?_)
    | (refine wpList_maxF rfl (.tmp 32) (.tmp 33) _ _ rfl x y mx rfl rfl (hmax.out _) ?_))
  refine (H0.out _).mono ?_
  rintro e w1 ⟨rfl, rfl⟩
  go_wp2_with fail
  refine (H1.out _).mono ?_
  rintro e w1 ⟨rfl, rfl⟩
  go_wp2_with fail
  refine (awake_any _).mono ?_
  rintro e w3 ⟨rfl, C3⟩
  go_wp2_with fail
  go_ret
  exact ⟨rfl, C3⟩

namespace gaugeBetween
open Go.ChangeShapes Go.WideShapes Go.ChangeAt
theorem own : ownKnob Try.prog.godebug = none := by kernel_rfl

set_option maxRecDepth 100000 in
theorem lifted (os : Os) (started : os.Started) (H : Type) (enc : TypeId × Value → H) :
    ReturnsInHanded {} Try.checked os 4 .any (Rows.gaugeBetweenSpec.pre6 enc Try.prog Try.f4 Rows.gaugeBetweenRow.domain false) (Rows.gaugeBetweenSpec.post enc Try.prog Try.f4 false true false false) := by
  refine returnsInHanded_of_change (C := Try.checked) own started (by kernel_rfl) Try.func4
    (ChangeSpec.witness6 (enc := enc) (C := Try.checked) false ⟨#[], #[.int .u32 0, .int .u32 0, .int .u8 0], []⟩ 8 (by kernel_rfl) (by kernel_rfl) (by kernel_rfl) (by kernel_rfl)) ?_
  intro W base args ds gs before hval0 hW hcnd _
  have hval : ∀ (j : Nat) t v, Try.f4.params[j]? = some t → args[j]? = some v → Value.okWide Try.prog W .any base t v := hval0
  have hW' := hW
  obtain ⟨p, q, hA0, hV, rfl, hfz, hnd⟩ := hW
  have hA : DataW.TrodAll enc Try.prog W 0 (fun _ => true) true Try.f4.params.toList args.toList ds p := hA0
  rw [Try.params4] at hA hval
  obtain ⟨v0, vs0, d0, ds0, p0, q0, hargs, rfl, rfl, h0, r0⟩ := trodAll_cons hA
  obtain ⟨v1, vs1, d1, ds1, p1, q1, rfl, rfl, rfl, h1, r1⟩ := trodAll_cons r0
  obtain ⟨v2, vs2, d2, ds2, p2, q2, rfl, rfl, rfl, h2, r2⟩ := trodAll_cons r1
  obtain ⟨rfl, rfl, rfl⟩ := trodAll_nil r2
  obtain rfl : args = #[v0, v1, v2] := by cases args; simp_all
  obtain ⟨rfl, rfl⟩ := trodVars_none hV
  obtain ⟨a0, rfl, rfl, rfl, w0⟩ := open_int Try.underlying28 (hval 0 28 v0 rfl rfl) h0
  obtain ⟨n0, rfl, hn0⟩ := nat_u32 w0
  obtain ⟨a1, rfl, rfl, rfl, w1⟩ := open_int Try.underlying28 (hval 1 28 v1 rfl rfl) h1
  obtain ⟨n1, rfl, hn1⟩ := nat_u32 w1
  obtain ⟨a2, rfl, rfl, rfl, w2⟩ := open_int Try.underlying5 (hval 2 5 v2 rfl rfl) h2
  obtain ⟨n2, rfl, hn2⟩ := nat_u8 w2
  clear hA0 hval0
  simp only [List.append_nil] at hW'
  refine (gaugeBetween_walk W n0 hn0 n1 hn1 n2 hn2).mono fun e W' ⟨he, hg⟩ => ?_
  subst he
  exact ⟨_, rfl, _, _, _, [], _, [], hW', trodAll_mk1 (shut_bool Try.underlying4 _), (trodAll_cons_mk (shut_int Try.underlying28 w0) (trodAll_cons_mk (shut_int Try.underlying28 w1) (trodAll_cons_mk (shut_int Try.underlying5 w2) trodAll_mk0))), rfl, hg.below.frame _, fun h => by cases h⟩

theorem over : Rows.gaugeBetweenRow.holds Try.pinned (OpenSpec.ofChange Rows.gaugeBetweenSpec) :=
  OpenClaim.holds_of_wide 4 Try.f4 rfl rfl rfl rfl rfl rfl rfl ⟨rfl, rfl, rfl, rfl, rfl⟩ rfl rfl rfl rfl rfl (by kernel_rfl) Try.func4 (by kernel_rfl)
    (of_decide_eq_true (by kernel_rfl)) (by unfold Func.isWrapper; first | (rw [if_pos (by decide +kernel)]; kernel_rfl) | (rw [if_neg (by decide +kernel)]; exact ⟨rfl, rfl⟩))
    (fun os started H enc _ => lifted os started H enc)
end gaugeBetween

theorem gaugeBetween_holds : Rows.GaugeBetweenSaid := gaugeBetween.over
#print axioms gaugeBetween_holds
end Go.Proofs.Ytknfpnifhpbojaa
