/- For all numbers the law GaugeMixes returns true: which numbers are shares and loads, and how an average decays. No conditions. -/
import Derived.Test.YtknfpnifhpbojaaRows
import Derived.Test.YtknfpnifhpbojaaGau7
import Derived.Test.YtknfpnifhpbojaaGauS
import Derived.ProofKit
import Derived.OpenShut
namespace Go.Proofs.Ytknfpnifhpbojaa
open Go.RowKit Bosun
set_option maxHeartbeats 2000000 in
theorem gaugeMixes_walk (w : World) (old : Nat) (ho : old < 18446744073709551616) (now : Nat) (hn : now < 18446744073709551616) (keep : Nat) (hk : keep < 18446744073709551616) :
    Calls Try.prog 3 #[fl old, fl now, fl keep] w fun e w' => e = .returned (.bool true) ∧ Chg [] w w' := by
  have hm := mixW_load old now keep
  have HM := Lib.hid (fun w => mix_any old now keep ho hn hk w)
  have HR := Lib.hid (fun w => rmix_any old now keep ho hn hk w)
  have S1 := Lib.hid (fun w => share_any keep hk w)
  have S2 := Lib.hid (fun w => rshare_any keep hk w)
  obtain ⟨m, hme⟩ : ∃ m, m = mixW old now keep := ⟨_, rfl⟩
  rw [← hme] at hm HM HR
  have HS := Lib.hid (fun w => same_self m hm w)
  obtain ⟨b, hb⟩ : ∃ b, b = shareB keep := ⟨_, rfl⟩
  rw [← hb] at S1 S2
  have hml : m < 18446744073709551616 := load_lt hm
  obtain ⟨c, hc⟩ : ∃ c, c = loadB old := ⟨_, rfl⟩
  have L1 := Lib.hid (fun w => load_any old ho w)
  have L2 := Lib.hid (fun w => rload_any old ho w)
  rw [← hc] at L1 L2
  clear hme hb hc ho hn hk
  go_enter Try.func3, Try.ntmps3
  go_wp2_with fail
  refine (HM.out _).mono ?_
  rintro e w1 ⟨rfl, rfl⟩
  go_wp2_with fail
  refine (S1.out _).mono ?_
  rintro e w1 ⟨rfl, rfl⟩
  go_wp2_with fail
  refine (S2.out _).mono ?_
  rintro e w1 ⟨rfl, rfl⟩
  have b1 : (b != b) = false := by simp
  have c1 : (c != c) = false := by simp
  go_wp2_with fail
  refine (L1.out _).mono ?_
  rintro e w1 ⟨rfl, rfl⟩
  go_wp2_with fail
  refine (L2.out _).mono ?_
  rintro e w1 ⟨rfl, rfl⟩
  go_wp2_with fail
  refine (HR.out _).mono ?_
  rintro e w1 ⟨rfl, rfl⟩
  go_wp2_with fail
  refine (HS.out _).mono ?_
  rintro e w1 ⟨rfl, rfl⟩
  go_wp2_with fail
  refine (load_any m hml _).mono ?_
  rw [hm]
  rintro e w1 ⟨rfl, rfl⟩
  go_wp2_with fail
  refine (rload_any m hml _).mono ?_
  rw [hm]
  rintro e w1 ⟨rfl, rfl⟩
  go_wp2_with fail
  refine (awake_any _).mono ?_
  rintro e w1 ⟨rfl, C1⟩
  go_wp2_with fail
  go_ret
  exact ⟨rfl, C1⟩

namespace gaugeMixes
open Go.ChangeShapes Go.WideShapes Go.ChangeAt
theorem own : ownKnob Try.prog.godebug = none := by kernel_rfl

set_option maxRecDepth 100000 in
theorem lifted (os : Os) (started : os.Started) (H : Type) (enc : TypeId × Value → H) :
    ReturnsInHanded {} Try.checked os 3 .any (Rows.gaugeMixesSpec.pre6 enc Try.prog Try.f3 Rows.gaugeMixesRow.domain false) (Rows.gaugeMixesSpec.post enc Try.prog Try.f3 false true false false) := by
  refine returnsInHanded_of_change (C := Try.checked) own started (by kernel_rfl) Try.func3
    (ChangeSpec.witness6 (enc := enc) (C := Try.checked) false ⟨#[], #[.float .f64 0, .float .f64 0, .float .f64 0], []⟩ 8 (by kernel_rfl) (by kernel_rfl) (by kernel_rfl) (by kernel_rfl)) ?_
  intro W base args ds gs before hval0 hW hcnd _
  have hval : ∀ (j : Nat) t v, Try.f3.params[j]? = some t → args[j]? = some v → Value.okWide Try.prog W .any base t v := hval0
  have hW' := hW
  obtain ⟨p, q, hA0, hV, rfl, hfz, hnd⟩ := hW
  have hA : DataW.TrodAll enc Try.prog W 0 (fun _ => true) true Try.f3.params.toList args.toList ds p := hA0
  rw [Try.params3] at hA hval
  obtain ⟨v0, vs0, d0, ds0, p0, q0, hargs, rfl, rfl, h0, r0⟩ := trodAll_cons hA
  obtain ⟨v1, vs1, d1, ds1, p1, q1, rfl, rfl, rfl, h1, r1⟩ := trodAll_cons r0
  obtain ⟨v2, vs2, d2, ds2, p2, q2, rfl, rfl, rfl, h2, r2⟩ := trodAll_cons r1
  obtain ⟨rfl, rfl, rfl⟩ := trodAll_nil r2
  obtain rfl : args = #[v0, v1, v2] := by cases args; simp_all
  obtain ⟨rfl, rfl⟩ := trodVars_none hV
  obtain ⟨a0, rfl, rfl, rfl, w0⟩ := open_float Try.underlying22 (hval 0 22 v0 rfl rfl) h0
  obtain ⟨a1, rfl, rfl, rfl, w1⟩ := open_float Try.underlying22 (hval 1 22 v1 rfl rfl) h1
  obtain ⟨a2, rfl, rfl, rfl, w2⟩ := open_float Try.underlying22 (hval 2 22 v2 rfl rfl) h2
  clear hA0 hval0
  simp only [List.append_nil] at hW'
  refine (gaugeMixes_walk W a0 (lt_f64 w0) a1 (lt_f64 w1) a2 (lt_f64 w2)).mono fun e W' ⟨he, hg⟩ => ?_
  subst he
  exact ⟨_, rfl, _, _, _, [], _, [], hW', trodAll_mk1 (shut_bool Try.underlying4 _), (trodAll_cons_mk (shut_float Try.underlying22 w0) (trodAll_cons_mk (shut_float Try.underlying22 w1) (trodAll_cons_mk (shut_float Try.underlying22 w2) trodAll_mk0))), rfl, hg.below.frame _, fun h => by cases h⟩

theorem over : Rows.gaugeMixesRow.holds Try.pinned (OpenSpec.ofChange Rows.gaugeMixesSpec) :=
  OpenClaim.holds_of_wide 3 Try.f3 rfl rfl rfl rfl rfl rfl rfl ⟨rfl, rfl, rfl, rfl, rfl⟩ rfl rfl rfl rfl rfl (by kernel_rfl) Try.func3 (by kernel_rfl)
    (of_decide_eq_true (by kernel_rfl)) (by unfold Func.isWrapper; first | (rw [if_pos (by decide +kernel)]; kernel_rfl) | (rw [if_neg (by decide +kernel)]; exact ⟨rfl, rfl⟩))
    (fun os started H enc _ => lifted os started H enc)
end gaugeMixes

theorem gaugeMixes_holds : Rows.GaugeMixesSaid := gaugeMixes.over
#print axioms gaugeMixes_holds
end Go.Proofs.Ytknfpnifhpbojaa
