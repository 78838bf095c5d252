/- For all numbers the law GaugeOrders returns true: which of two numbers is ahead, and which of many is the lightest one. No conditions. -/
import Derived.Test.YtknfpnifhpbojaaRows
import Derived.Test.YtknfpnifhpbojaaGau7
import Derived.Test.YtknfpnifhpbojaaGauFew
import Derived.ProofKit
import Derived.OpenShut
import Derived.Deep.QuietTactic
import Derived.BigQuiet
namespace Go.Proofs.Ytknfpnifhpbojaa
open Go.RowKit Bosun
theorem light_is {l : List Nat} {a : Int} (h : lightTo l l.length a) {i : Nat} (hi : i < l.length) : ∃ j : Nat, a = j ∧ j < l.length ∧ 0 ≤ ordW (l.getD i 0) (l.getD j 0) ∧ (i < j → ordW (l.getD i 0) (l.getD j 0) ≠ 0) := by
  rcases h with ⟨h, _⟩ | ⟨j, rfl, h2, h3, h4⟩
  · omega
  · refine ⟨j, rfl, h2, Int.not_lt.1 fun h5 => ?_, fun h5 h6 => ?_⟩
    · have := ordW_neg.1 h5
      have := h3 i hi
      omega
    · have := ordW_zero.1 h6
      have := h4 i h5
      omega
set_option maxHeartbeats 4000000 in
theorem gaugeOrders_walk (w : World) (a : Nat) (ha : a < 18446744073709551616) (b : Nat) (hb : b < 18446744073709551616) (ao : Option Addr) (n c : Nat) (l : List Nat) (hl : ∀ x ∈ l, x < 18446744073709551616) (hv : Reads w (.slice ao n c) (fls l)) (hnc : n ≤ c) :
    Calls Try.prog 6 #[fl a, fl b, .slice ao n c] w fun e w' => e = .returned (.bool true) ∧ Chg [] w w' := by
  obtain ⟨hn, hm, hv2⟩ := few_reads hv
  have HF := Lib.hid (few_any ao n c hnc hm w)
  obtain ⟨q, hq⟩ : ∃ q, q = l.take 40 := ⟨_, rfl⟩
  have hql : min n 40 = q.length := by rw [hq, List.length_take, hn, Nat.min_comm]
  rw [← hq] at hv2
  rw [hql] at hv2 HF
  have hq40 : q.length ≤ 40 := by omega
  clear hv hq hl hn hm hql hnc
  have O1 := Lib.hid (fun w => order_any a b w)
  have O2 := Lib.hid (fun w => rorder_any a b w)
  have O3 := Lib.hid (fun w => order_any b a w)
  have O4 := Lib.hid (fun w => order_any a a w)
  rw [ordW_opp a b] at O3
  rw [ordW_same] at O4
  have rg : -1 ≤ ordW a b ∧ ordW a b ≤ 1 := by unfold ordW; split <;> (try split) <;> omega
  obtain ⟨o, ho⟩ : ∃ o, o = ordW a b := ⟨_, rfl⟩
  rw [← ho] at O1 O2 O3 rg
  have b1 : (o != o) = false := by simp
  have b2 : (-o != -o) = false := by simp
  clear ho
  go_enter Try.func6, Try.ntmps6
  go_wp2_with fail
  refine HF.out.mono ?_
  rintro e w1 ⟨rfl, rfl⟩
  go_wp2_with fail
  refine (O1.out _).mono ?_
  rintro e w1 ⟨rfl, rfl⟩
  go_wp2_with fail
  refine (O2.out _).mono ?_
  rintro e w1 ⟨rfl, rfl⟩
  go_wp2_with fail
  refine (O3.out _).mono ?_
  rintro e w1 ⟨rfl, rfl⟩
  go_wp2_with fail
  refine (O1.out _).mono ?_
  rintro e w1 ⟨rfl, rfl⟩
  go_wp2_with fail
  refine (O4.out _).mono ?_
  rintro e w1 ⟨rfl, rfl⟩
  go_wp2_with fail
  refine (awake_any _).mono ?_
  rintro e w2 ⟨rfl, C2⟩
  have hv3 := hv2.keep C2
  go_wp2_with fail
  refine (lightest_any _ q _ hv3).mono ?_
  rintro e w3 ⟨⟨t, rfl, ht⟩, rfl⟩
  have HT := Lib.hid ht
  clear ht
  go_wp2_with fail
  refine (rlightest_any _ q _ hv3).mono ?_
  rintro e w3 ⟨⟨t', rfl, ht'⟩, C3⟩
  obtain rfl : t = t' := light_uniq HT.out ht'
  have t1 : (t != t) = false := by simp
  have hv4 := hv3.keep C3
  have C13 := C2.then C3 (by simp)
  have hc := Lib.hid (reads_cells hv4)
  clear ht' hv2 hv3 hv4
  go_wp2_with fail
  go_loopw [8] (fun x8 wr => ∃ i : Nat, i ≤ q.length ∧ x8 = .int .i64 i ∧ Chg [] w3 wr) (fun x8 _ => q.length - (intOf x8).toNat)
  case atStart => exact ⟨0, by omega, rfl, Chg.refl _ _⟩
  case round =>
    obtain ⟨i, hi, rfl, CR⟩ := hrel
    by_cases hil : i < q.length
    · obtain ⟨j, hj, hjl, z1, z2⟩ := light_is HT.out hil
      have hij : i < j → (ordW (q.getD i 0) (q.getD j 0) == 0) = false := fun h => by simpa using z2 h
      obtain ⟨g, off, hao, ci⟩ := hc.out i hil
      obtain ⟨g', off', hao', cj⟩ := hc.out j hjl
      rw [hao] at hao'
      cases hao'
      have ci' := (World.cell?_of_block (w := w3) (w' := wr) (CR.block g (World.block_lt_of_cell? w3 _ ci) (by simp))).trans ci
      have cj' := (World.cell?_of_block (w := w3) (w' := wr) (CR.block g (World.block_lt_of_cell? w3 _ cj) (by simp))).trans cj
      subst hao hj
      have HO := Lib.hid (fun w => (order_any (q.getD i 0) (q.getD j 0) w).mono fun _ _ h => (⟨h.1, h.2.symm⟩ : _ ∧ _))
      obtain ⟨x, hx⟩ : ∃ x, x = q.getD i 0 := ⟨_, rfl⟩
      obtain ⟨y, hy⟩ : ∃ y, y = q.getD j 0 := ⟨_, rfl⟩
      rw [← hx] at ci' z1 hij HO
      rw [← hy] at cj' z1 hij HO
      obtain ⟨r, hr⟩ : ∃ r, r = ordW x y := ⟨_, rfl⟩
      rw [← hr] at z1 hij HO
      have z3 : decide (r < 0) = false := decide_eq_false (by omega)
      clear hx hy hr ci cj z2
      by_cases hlt : i < j
      · have z4 := hij hlt
        have z5 : decide ((i : Int) < (j : Int)) = true := decide_eq_true (by omega)
        clear hij
        go_wp2_with fail
        go_quiet ((go_at_call 19; exact Calls.quiet_of_same (HO.out _)))
        go_wp2_with fail
        go_roundw
        case rel => exact ⟨i + 1, by omega, by go_num, CR.drewN _⟩
        case measure => simp [intOf] <;> omega
      · have z5 : decide ((i : Int) < (j : Int)) = false := decide_eq_false (by omega)
        clear hij
        go_wp2_with fail
        go_quiet ((go_at_call 19; exact Calls.quiet_of_same (HO.out _)))
        go_wp2_with fail
        go_roundw
        case rel => exact ⟨i + 1, by omega, by go_num, CR.drewN _⟩
        case measure => simp [intOf] <;> omega
    · obtain rfl : i = q.length := by omega
      rcases HT.out with ⟨h0, rfl⟩ | ⟨j, rfl, h2, _⟩
      · have z : decide ((0 : Int) < (q.length : Int)) = false := decide_eq_false (by omega)
        go_wp2_with fail
        go_ret
        exact ⟨rfl, C13.then CR (by simp)⟩
      · have z : decide ((0 : Int) < (q.length : Int)) = true := decide_eq_true (by omega)
        have z1 : 0 < q.length := by omega
        have z2 : (0 : Int) < (q.length : Int) := by omega
        go_wp2_with fail
        go_ret
        exact ⟨rfl, C13.then CR (by simp)⟩

namespace gaugeOrders
open Go.ChangeShapes Go.WideShapes Go.ChangeAt
theorem own : ownKnob Try.prog.godebug = none := by kernel_rfl
theorem laidOut : laidOutB Try.prog = true := by kernel_rfl

set_option maxRecDepth 100000 in
theorem lifted (os : Os) (started : os.Started) (H : Type) (enc : TypeId × Value → H) :
    ReturnsInHanded {} Try.checked os 6 .any (Rows.gaugeOrdersSpec.pre6 enc Try.prog Try.f6 Rows.gaugeOrdersRow.domain false) (Rows.gaugeOrdersSpec.post enc Try.prog Try.f6 false true false false) := by
  refine returnsInHanded_of_change (C := Try.checked) own started (by kernel_rfl) Try.func6
    (ChangeSpec.witness6 (enc := enc) (C := Try.checked) false ⟨#[], #[.float .f64 0, .float .f64 0, .slice none 0 0], []⟩ 8 (by kernel_rfl) (by kernel_rfl) (by kernel_rfl) (by kernel_rfl)) ?_
  intro W base args ds gs before hval0 hW hcnd _
  have hval : ∀ (j : Nat) t v, Try.f6.params[j]? = some t → args[j]? = some v → Value.okWide Try.prog W .any base t v := hval0
  have hW' := hW
  obtain ⟨p, q, hA0, hV, rfl, hfz, hnd⟩ := hW
  have hA : DataW.TrodAll enc Try.prog W 0 (fun _ => true) true Try.f6.params.toList args.toList ds p := hA0
  rw [Try.params6] at hA hval
  obtain ⟨v0, vs0, d0, ds0, p0, q0, hargs, rfl, rfl, h0, r0⟩ := trodAll_cons hA
  obtain ⟨v1, vs1, d1, ds1, p1, q1, rfl, rfl, rfl, h1, r1⟩ := trodAll_cons r0
  obtain ⟨v2, vs2, d2, ds2, p2, q2, rfl, rfl, rfl, h2, r2⟩ := trodAll_cons r1
  obtain ⟨rfl, rfl, rfl⟩ := trodAll_nil r2
  obtain rfl : args = #[v0, v1, v2] := by cases args; simp_all
  obtain ⟨rfl, rfl⟩ := trodVars_none hV
  obtain ⟨a0, rfl, rfl, rfl, w0⟩ := open_float Try.underlying22 (hval 0 22 v0 rfl rfl) h0
  obtain ⟨a1, rfl, rfl, rfl, w1⟩ := open_float Try.underlying22 (hval 1 22 v1 rfl rfl) h1
  obtain ⟨a2, len2, cap2, rfl⟩ := okWide_slice Try.underlying31 (hval 2 31 v2 rfl rfl)
  have k2 := h2
  have lt2 : ∀ x ∈ p2, x.block < W.heap.size := by obtain ⟨m, hm⟩ := k2; exact DataW.trod_lt m _ _ _ hm
  obtain ⟨l2, hl2, hr2, hc2⟩ := open_fls Try.underlying31 Try.underlying22 (by kernel_rfl) h2
  clear hA0 hval0
  simp only [List.append_nil] at hW'
  refine (gaugeOrders_walk W a0 (lt_f64 w0) a1 (lt_f64 w1) _ _ _ l2 hl2 hr2 hc2).mono fun e W' ⟨he, hg⟩ => ?_
  subst he
  exact ⟨_, rfl, _, _, _, [], _, [], hW', trodAll_mk1 (shut_bool Try.underlying4 _), (trodAll_cons_mk (shut_float Try.underlying22 w0) (trodAll_cons_mk (shut_float Try.underlying22 w1) (trodAll_cons_mk (Below.trod laidOut (by kernel_rfl) (of_decide_eq_true (by kernel_rfl)) k2 hg.below lt2) trodAll_mk0))), rfl, hg.below.frame _, fun h => by cases h⟩

theorem over : Rows.gaugeOrdersRow.holds Try.pinned (OpenSpec.ofChange Rows.gaugeOrdersSpec) :=
  OpenClaim.holds_of_wide 6 Try.f6 rfl rfl rfl rfl rfl rfl rfl ⟨rfl, rfl, rfl, rfl, rfl⟩ rfl rfl rfl rfl rfl (by kernel_rfl) Try.func6 (by kernel_rfl)
    (of_decide_eq_true (by kernel_rfl)) (by unfold Func.isWrapper; first | (rw [if_pos (by decide +kernel)]; kernel_rfl) | (rw [if_neg (by decide +kernel)]; exact ⟨rfl, rfl⟩))
    (fun os started H enc _ => lifted os started H enc)
end gaugeOrders

theorem gaugeOrders_holds : Rows.GaugeOrdersSaid := gaugeOrders.over
#print axioms gaugeOrders_holds
end Go.Proofs.Ytknfpnifhpbojaa
