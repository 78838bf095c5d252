/- For all numbers the law GaugeFolds returns true: the total of any loads, and the average of such as came one behind the other. No conditions. -/
import Derived.Test.YtknfpnifhpbojaaRows
import Derived.Test.YtknfpnifhpbojaaGauFew
import Derived.ProofKit
import Derived.OpenShut
namespace Go.Proofs.Ytknfpnifhpbojaa
open Go.RowKit Bosun
set_option maxHeartbeats 4000000 in
theorem gaugeFolds_walk (w : World) (ao : Option Addr) (n c : Nat) (l : List Nat) (hl : ∀ x ∈ l, x < 18446744073709551616) (hv : Reads w (.slice ao n c) (fls l)) (hnc : n ≤ c) (keep : Nat) (hkp : keep < 18446744073709551616) (cut : Nat) (hct : cut < 256) :
    Calls Try.prog 7 #[.slice ao n c, fl keep, .int .u8 (cut : Nat)] w fun e w' => e = .returned (.bool true) ∧ Chg [] w w' := by
  obtain ⟨hn, hm, hv2⟩ := few_reads hv
  have HF := Lib.hid (few_any ao n c hnc hm w)
  obtain ⟨q, hq⟩ : ∃ q, q = l.take 40 := ⟨_, rfl⟩
  have hql : min n 40 = q.length := by rw [hq, List.length_take, hn, Nat.min_comm]
  have hq2 : ∀ x ∈ q, x < 18446744073709551616 := fun x hx => hl x (List.mem_of_mem_take (hq ▸ hx))
  rw [← hq] at hv2
  rw [hql] at hv2 HF
  have hq40 : q.length ≤ 40 := by omega
  have hqc : q.length ≤ c := by omega
  clear hv hq hl hn hm hql hnc
  have T1 := Lib.hid (fun w hv => total_any (.slice ao q.length c) q hq2 w hv)
  have T2 := Lib.hid (fun w hv => rtotal_any (.slice ao q.length c) q hq2 w hv)
  have F1 := Lib.hid (fun w hv => fold_any (.slice ao q.length c) q hq2 keep hkp w hv)
  have F2 := Lib.hid (fun w hv => rfold_any (.slice ao q.length c) q hq2 keep hkp w hv)
  have tl := totW_load q
  have fd := foldW_load keep q
  have ST := Lib.hid (fun w => same_self (totW q) tl w)
  have SF := Lib.hid (fun w => same_self (foldW keep q) fd w)
  have LT := Lib.hid (fun w => load_any (totW q) (load_lt tl) w)
  rw [tl] at LT
  obtain ⟨tt, htt⟩ : ∃ tt, tt = totW q := ⟨_, rfl⟩
  obtain ⟨ff, hff⟩ : ∃ ff, ff = foldW keep q := ⟨_, rfl⟩
  rw [← htt] at T1 T2 ST LT
  rw [← hff] at F1 F2 SF
  have HFF := Lib.hid hff
  clear htt hff tl fd
  obtain ⟨k, hk⟩ : ∃ k, k = min cut q.length := ⟨_, rfl⟩
  have hkq : k ≤ q.length := by omega
  have hkc : k ≤ c := by omega
  have hki : (k : Int) = if (q.length : Int) < (cut : Int) then (q.length : Int) else (cut : Int) := by split <;> omega
  have HKI := Lib.hid hki
  have hq2k : ∀ x ∈ q.take k, x < 18446744073709551616 := fun x hx => hq2 x (List.mem_of_mem_take hx)
  have F3 := Lib.hid (fun w hv => fold_any (.slice ao k c) (q.take k) hq2k keep hkp w hv)
  have HK := Lib.hid hkp
  have HQ2 := Lib.hid hq2
  clear hk hki hq2k hq2 hkp
  go_enter Try.func7, Try.ntmps7
  go_wp2_with fail
  refine HF.out.mono ?_
  rintro e w1 ⟨rfl, rfl⟩
  go_wp2_with fail
  refine (T1.out _ hv2).mono ?_
  rintro e w1 ⟨rfl, rfl⟩
  go_wp2_with fail
  refine (T2.out _ hv2).mono ?_
  rintro e w1 ⟨rfl, rfl⟩
  go_wp2_with fail
  refine (ST.out _).mono ?_
  rintro e w1 ⟨rfl, rfl⟩
  go_wp2_with fail
  refine (F1.out _ hv2).mono ?_
  rintro e w1 ⟨rfl, rfl⟩
  go_wp2_with fail
  refine (F2.out _ hv2).mono ?_
  rintro e w1 ⟨rfl, rfl⟩
  go_wp2_with fail
  refine (SF.out _).mono ?_
  rintro e w1 ⟨rfl, rfl⟩
  go_wp2_with fail
  refine (awake_any _).mono ?_
  rintro e w2 ⟨rfl, C2⟩
  have hv3 := hv2.keep C2
  have hv4 : Reads w2 (.slice ao k c) (fls (q.take k)) := by rw [fls_take]; exact Reads_take hv3 hkq
  have HV3 := Lib.hid hv3
  clear hv2 hv3
  go_wp2_with (refine wpList_min rfl (.tmp 33) (.tmp 35) _ _ rfl .i64 (cut : Nat) (q.length : Nat) (k : Nat) rfl rfl HKI.out ?_)
  refine (F3.out _ hv4).mono ?_
  rintro e w3 ⟨rfl, rfl⟩
  have hc := Lib.hid (reads_cells HV3.out)
  go_wp2_with fail
  go_loopw [8, 9] (fun x8 x9 wr => ∃ i s : Nat, k ≤ i ∧ i ≤ q.length ∧ x9 = .int .i64 i ∧ x8 = fl s ∧ Hid (s = foldW keep (q.take i)) ∧ w2 = wr) (fun _ x9 _ => q.length - (intOf x9).toNat)
  case atStart => exact ⟨k, foldW keep (q.take k), by omega, by omega, rfl, rfl, Lib.hid rfl, rfl⟩
  case round =>
    obtain ⟨i, s, hki, hi, rfl, rfl, HS, rfl⟩ := hrel
    have hs : loadB s = true := by rw [show s = foldW keep (q.take i) from HS]; exact foldW_load _ _
    by_cases hil : i < q.length
    · obtain ⟨g, off, rfl, ci⟩ := hc.out i hil
      have hxl : q.getD i 0 < 18446744073709551616 := by rw [getD_get hil]; exact HQ2.out _ (List.getElem_mem hil)
      have HT := Lib.hid (take_snoc hil)
      obtain ⟨x, hx⟩ : ∃ x, x = q.getD i 0 := ⟨_, rfl⟩
      rw [← hx] at ci HT hxl
      have HM := Lib.hid (fun w => mix_any s x keep (load_lt hs) hxl HK.out w)
      obtain ⟨z, hz⟩ : ∃ z, z = mixW s x keep := ⟨_, rfl⟩
      rw [← hz] at HM
      have HN := Lib.hid (show z = foldW keep (q.take (i + 1)) by rw [HT.out, foldW_snoc, hz]; exact congrArg (fun q => mixW q x keep) HS)
      clear hx hs hxl hz
      go_wp2_with (go_at_call 8; refine (HM.out _).mono ?_; rintro e w2 ⟨rfl, rfl⟩)
      go_roundw
      case rel => exact ⟨i + 1, z, by omega, by omega, by go_num, rfl, HN, by trivial⟩
      case measure => simp [intOf] <;> omega
    · obtain rfl : i = q.length := by omega
      have hsf : s = ff := by
        have h : s = foldW keep (q.take q.length) := HS
        rw [List.take_length] at h
        rw [h, HFF.out]
      subst hsf
      clear hs
      go_wp2_with fail
      refine (F1.out _ HV3.out).mono ?_
      rintro e w1 ⟨rfl, rfl⟩
      go_wp2_with fail
      refine (SF.out _).mono ?_
      rintro e w1 ⟨rfl, rfl⟩
      go_wp2_with fail
      refine (T1.out _ HV3.out).mono ?_
      rintro e w1 ⟨rfl, rfl⟩
      go_wp2_with fail
      refine (LT.out _).mono ?_
      rintro e w1 ⟨rfl, rfl⟩
      go_wp2_with fail
      go_ret
      exact ⟨rfl, C2⟩

namespace gaugeFolds
open Go.ChangeShapes Go.WideShapes Go.ChangeAt
theorem own : ownKnob Try.prog.godebug = none := by kernel_rfl
theorem laidOut : laidOutB Try.prog = true := by kernel_rfl

set_option maxRecDepth 100000 in
theorem lifted (os : Os) (started : os.Started) (H : Type) (enc : TypeId × Value → H) :
    ReturnsInHanded {} Try.checked os 7 .any (Rows.gaugeFoldsSpec.pre6 enc Try.prog Try.f7 Rows.gaugeFoldsRow.domain false) (Rows.gaugeFoldsSpec.post enc Try.prog Try.f7 false true false false) := by
  refine returnsInHanded_of_change (C := Try.checked) own started (by kernel_rfl) Try.func7
    (ChangeSpec.witness6 (enc := enc) (C := Try.checked) false ⟨#[], #[.slice none 0 0, .float .f64 0, .int .u8 0], []⟩ 8 (by kernel_rfl) (by kernel_rfl) (by kernel_rfl) (by kernel_rfl)) ?_
  intro W base args ds gs before hval0 hW hcnd _
  have hval : ∀ (j : Nat) t v, Try.f7.params[j]? = some t → args[j]? = some v → Value.okWide Try.prog W .any base t v := hval0
  have hW' := hW
  obtain ⟨p, q, hA0, hV, rfl, hfz, hnd⟩ := hW
  have hA : DataW.TrodAll enc Try.prog W 0 (fun _ => true) true Try.f7.params.toList args.toList ds p := hA0
  rw [Try.params7] at hA hval
  obtain ⟨v0, vs0, d0, ds0, p0, q0, hargs, rfl, rfl, h0, r0⟩ := trodAll_cons hA
  obtain ⟨v1, vs1, d1, ds1, p1, q1, rfl, rfl, rfl, h1, r1⟩ := trodAll_cons r0
  obtain ⟨v2, vs2, d2, ds2, p2, q2, rfl, rfl, rfl, h2, r2⟩ := trodAll_cons r1
  obtain ⟨rfl, rfl, rfl⟩ := trodAll_nil r2
  obtain rfl : args = #[v0, v1, v2] := by cases args; simp_all
  obtain ⟨rfl, rfl⟩ := trodVars_none hV
  obtain ⟨a0, len0, cap0, rfl⟩ := okWide_slice Try.underlying31 (hval 0 31 v0 rfl rfl)
  have k0 := h0
  have lt0 : ∀ x ∈ p0, x.block < W.heap.size := by obtain ⟨m, hm⟩ := k0; exact DataW.trod_lt m _ _ _ hm
  obtain ⟨l0, hl0, hr0, hc0⟩ := open_fls Try.underlying31 Try.underlying22 (by kernel_rfl) h0
  obtain ⟨a1, rfl, rfl, rfl, w1⟩ := open_float Try.underlying22 (hval 1 22 v1 rfl rfl) h1
  obtain ⟨a2, rfl, rfl, rfl, w2⟩ := open_int Try.underlying5 (hval 2 5 v2 rfl rfl) h2
  obtain ⟨n2, rfl, hn2⟩ := nat_u8 w2
  clear hA0 hval0
  simp only [List.append_nil] at hW'
  refine (gaugeFolds_walk W _ _ _ l0 hl0 hr0 hc0 a1 (lt_f64 w1) n2 hn2).mono fun e W' ⟨he, hg⟩ => ?_
  subst he
  exact ⟨_, rfl, _, _, _, [], _, [], hW', trodAll_mk1 (shut_bool Try.underlying4 _), (trodAll_cons_mk (Below.trod laidOut (by kernel_rfl) (of_decide_eq_true (by kernel_rfl)) k0 hg.below lt0) (trodAll_cons_mk (shut_float Try.underlying22 w1) (trodAll_cons_mk (shut_int Try.underlying5 w2) trodAll_mk0))), rfl, hg.below.frame _, fun h => by cases h⟩

theorem over : Rows.gaugeFoldsRow.holds Try.pinned (OpenSpec.ofChange Rows.gaugeFoldsSpec) :=
  OpenClaim.holds_of_wide 7 Try.f7 rfl rfl rfl rfl rfl rfl rfl ⟨rfl, rfl, rfl, rfl, rfl⟩ rfl rfl rfl rfl rfl (by kernel_rfl) Try.func7 (by kernel_rfl)
    (of_decide_eq_true (by kernel_rfl)) (by unfold Func.isWrapper; first | (rw [if_pos (by decide +kernel)]; kernel_rfl) | (rw [if_neg (by decide +kernel)]; exact ⟨rfl, rfl⟩))
    (fun os started H enc _ => lifted os started H enc)
end gaugeFolds

theorem gaugeFolds_holds : Rows.GaugeFoldsSaid := gaugeFolds.over
#print axioms gaugeFolds_holds
end Go.Proofs.Ytknfpnifhpbojaa
