/- For every x and n the law LotSpreads returns true: Spread and the rows of numbers are the reference's. No conditions. -/
import Derived.Test.YtdnholkhdjnamaaRows
import Derived.Test.YtdnholkhdjnamaaLot4
import Derived.ProofKit
import Derived.OpenShut
namespace Go.Proofs.Ytdnholkhdjnamaa
open Go.RowKit Bosun

set_option maxHeartbeats 1600000 in
theorem lotSpreads_walk (x : Nat) (hx : x < 18446744073709551616) (n : Int) (hn1 : -9223372036854775808 ≤ n) (hn2 : n ≤ 9223372036854775807) (w : World) :
    Calls Try.prog 5 #[.int .u64 x, .int .i64 n] w fun e w' => e = .returned (.bool true) ∧ Chg [] w w' := by
  obtain ⟨c, hc⟩ : ∃ c, c = (min (max n 0) 4096).toNat := ⟨_, rfl⟩
  have hc64 : c ≤ 4096 := by omega
  have m1 : (c : Int) = if (4096 : Int) < max n 0 then 4096 else max n 0 := by split <;> omega
  have m0 : max n 0 = if n < 0 then 0 else n := by split <;> omega
  have M1 := Lib.hid m1
  have M0 := Lib.hid m0
  have HC := Lib.hid hc
  clear m1 m0 hc
  go_enter Try.func5, Try.ntmps5
  go_wp2_with fail
  refine (lrow_any x hx n hn1 hn2 c HC.out _).mono ?_
  rintro e w1 ⟨v, rfl, H1, H2⟩
  obtain ⟨y, hy⟩ : ∃ y, y = spreadN x := ⟨_, rfl⟩
  have HY := Lib.hid hy
  clear hy
  obtain ⟨ao, cap, rfl, hm, hcell⟩ := H1.reads
  have hcl : ((List.range c).map fun j => iterSpread x (j + 1)).length = c := by simp
  rw [words_len, hcl] at hm ⊢
  have HCELL := Lib.hid (show ∀ j, j < c → ∃ g off, ao = some ⟨g, off, none⟩ ∧ w1.cell? ⟨g, off + j, none⟩ = some (.int .u64 (iterSpread x (j + 1) : Nat)) from
    fun j hj => hcell j _ (by rw [words_get _ (by rw [hcl]; exact hj)]; simp))
  clear hcell hcl H1
  go_wp2_with (first
    | (go_at_call 17; refine (spread_any x hx _).mono ?_; rw [← HY.out]; rintro e w2 ⟨rfl, rfl⟩)
    | (go_at_call 18; refine (rspread_any x _).mono ?_; rw [← HY.out]; rintro e w3 ⟨rfl, H3⟩)
    | (refine wpList_max rfl (.tmp 18) _ _ _ rfl .i64 n 0 (max n 0) rfl rfl M0.out ?_)
    | (refine wpList_min rfl (.tmp 19) _ _ _ rfl .i64 (max n 0) 4096 c rfl rfl M1.out ?_)
    | (go_at_call 10; refine (awake_any _).mono ?_; rintro e w4 ⟨rfl, H4⟩))
  have HA : Chg [] w1 w4 := H3.then H4 (by simp)
  clear H3 H4
  go_loopw [0, 6] (fun y i wr => ∃ k : Nat, k ≤ c ∧ k ≤ 40 ∧ i = .int .i64 k ∧ y = .int .u64 (iterSpread x k : Nat) ∧ Chg [] w1 wr)
    (fun _ i _ => 40 - (intOf i).toNat)
  case atStart => exact ⟨0, by omega, by omega, rfl, rfl, HA⟩
  case round =>
    obtain ⟨k, hk, hk2, rfl, rfl, H⟩ := hrel
    obtain ⟨z, hz⟩ : ∃ z, z = iterSpread x k := ⟨_, rfl⟩
    have HZ := Lib.hid (show spreadN z = iterSpread x (k + 1) by rw [hz]; rfl)
    rw [← hz]
    clear hz
    by_cases hkc : k < c
    · by_cases hk40 : k < 40
      · obtain ⟨g, off, rfl, hcell⟩ := HCELL.out k hkc
        obtain ⟨u, hu⟩ : ∃ u, u = iterSpread x (k + 1) := ⟨_, rfl⟩
        rw [← hu] at hcell HZ
        have HU := Lib.hid hu
        clear hu
        go_wp2_with (go_at_call 18; refine (rspread_any z _).mono ?_; rw [HZ.out]; rintro e w5 ⟨rfl, H5⟩; have hcell5 : w5.cell? ⟨g, off + k, none⟩ = some (.int .u64 (u : Nat)) := by { rw [← hcell]; exact World.cell?_of_block (w := w1) ((H.then H5 (by simp)).block g (World.block_lt_of_cell? w1 _ hcell) (by simp)) })
        go_roundw
        case rel => exact ⟨k + 1, by omega, by omega, by go_num, by rw [HU.out], H.then H5 (by simp)⟩
        case measure => simp [intOf] <;> omega
      · have d40 : decide ((k : Int) < 40) = false := by simp; omega
        go_wp2
        go_ret
        exact ⟨rfl, H2.then H (by simp)⟩
    · go_wp2
      go_ret
      exact ⟨rfl, H2.then H (by simp)⟩

namespace lotSpreads
open Go.ChangeShapes Go.WideShapes Go.ChangeAt
theorem own : ownKnob Try.prog.godebug = none := by kernel_rfl
theorem toNat_u64 {a : Int} (h : (Lit.int .u64 a).wf = true) : ∃ n : Nat, a = n ∧ n < 18446744073709551616 := by
  have h1 := bounds_u64 h
  exact ⟨a.toNat, by omega, by omega⟩

set_option maxRecDepth 100000 in
theorem lifted (os : Os) (started : os.Started) (H : Type) (enc : TypeId × Value → H) :
    ReturnsInHanded {} Try.checked os 5 .any (Rows.lotSpreadsSpec.pre6 enc Try.prog Try.f5 Rows.lotSpreadsRow.domain false) (Rows.lotSpreadsSpec.post enc Try.prog Try.f5 false true false false) := by
  refine returnsInHanded_of_change (C := Try.checked) own started (by kernel_rfl) Try.func5
    (ChangeSpec.witness6 (enc := enc) (C := Try.checked) false ⟨#[], #[.int .u64 0, .int .i64 0], []⟩ 8 (by kernel_rfl) (by kernel_rfl) (by kernel_rfl) (by kernel_rfl)) ?_
  intro W base args ds gs before hval0 hW hcnd _
  have hval : ∀ (j : Nat) t v, Try.f5.params[j]? = some t → args[j]? = some v → Value.okWide Try.prog W .any base t v := hval0
  have hW' := hW
  obtain ⟨p, q, hA0, hV, rfl, hfz, hnd⟩ := hW
  have hA : DataW.TrodAll enc Try.prog W 0 (fun _ => true) true Try.f5.params.toList args.toList ds p := hA0
  rw [Try.params5] at hA hval
  obtain ⟨v0, vs0, d0, ds0, p0, q0, hargs, rfl, rfl, h0, r0⟩ := trodAll_cons hA
  obtain ⟨v1, vs1, d1, ds1, p1, q1, rfl, rfl, rfl, h1, r1⟩ := trodAll_cons r0
  obtain ⟨rfl, rfl, rfl⟩ := trodAll_nil r1
  obtain rfl : args = #[v0, v1] := by cases args; simp_all
  obtain ⟨rfl, rfl⟩ := trodVars_none hV
  obtain ⟨a0, rfl, rfl, rfl, w0⟩ := open_int Try.underlying22 (hval 0 22 v0 rfl rfl) h0
  obtain ⟨n0, rfl, hn0⟩ := toNat_u64 w0
  obtain ⟨a1, rfl, rfl, rfl, w1⟩ := open_int Try.underlying3 (hval 1 3 v1 rfl rfl) h1
  have b1 := bounds_i64 w1
  clear hA0 hval0
  simp only [List.append_nil] at hW'
  refine (lotSpreads_walk n0 hn0 a1 b1.1 b1.2 W).mono fun e W' ⟨he, hg⟩ => ?_
  subst he
  exact ⟨_, rfl, _, _, _, [], _, [], hW', trodAll_mk1 (shut_bool Try.underlying4 _), (trodAll_cons_mk (shut_int Try.underlying22 w0) (trodAll_cons_mk (shut_int Try.underlying3 w1) trodAll_mk0)), rfl, hg.below.frame _, fun h => by cases h⟩

theorem over : Rows.lotSpreadsRow.holds Try.pinned (OpenSpec.ofChange Rows.lotSpreadsSpec) :=
  OpenClaim.holds_of_wide 5 Try.f5 rfl rfl rfl rfl rfl rfl rfl ⟨rfl, rfl, rfl, rfl, rfl⟩ rfl rfl rfl rfl rfl (by kernel_rfl) Try.func5 (by kernel_rfl)
    (of_decide_eq_true (by kernel_rfl)) (by unfold Func.isWrapper; first | (rw [if_pos (by decide +kernel)]; kernel_rfl) | (rw [if_neg (by decide +kernel)]; exact ⟨rfl, rfl⟩))
    (fun os started H enc _ => lifted os started H enc)
end lotSpreads

theorem lotSpreads_holds : Rows.LotSpreadsSaid := lotSpreads.over
#print axioms lotSpreads_holds
end Go.Proofs.Ytdnholkhdjnamaa
