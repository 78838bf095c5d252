/- For every a, b and n the law LotOrders returns true: the order that a number draws is the reference's and has each number once, and two numbers below the factorial draw unlike ones. No conditions. -/
import Derived.Test.YtdnholkhdjnamaaRows
import Derived.Test.YtdnholkhdjnamaaLot3
import Derived.ProofKit
import Derived.OpenShut
namespace Go.Proofs.Ytdnholkhdjnamaa
open Go.RowKit Bosun

theorem foldl_nats (l : List Nat) : ∀ s : Nat, (l.map fun i => ((i : Nat) : Int)).foldl (fun s i => put s i true) s = l.foldl (fun s i => put s (i : Nat) true) s := by
  induction l with
  | nil => intro s; rfl
  | cons a l ih => intro s; exact ih _
theorem map_nats_inj (l m : List Nat) : (l.map fun i => ((i : Nat) : Int)) = (m.map fun i => ((i : Nat) : Int)) ↔ l = m :=
  ⟨fun h => List.map_inj_right (fun x y h => by omega) |>.1 h, fun h => by rw [h]⟩

set_option maxHeartbeats 1600000 in
theorem lotOrders_walk (a : Nat) (ha : a < 18446744073709551616) (b : Nat) (hb : b < 18446744073709551616) (n : Int) (hn1 : -9223372036854775808 ≤ n) (hn2 : n ≤ 9223372036854775807) (w : World) :
    Calls Try.prog 4 #[.int .u64 a, .int .u64 b, .int .i64 n] w fun e w' => e = .returned (.bool true) ∧ Chg [] w w' := by
  obtain ⟨c, hc⟩ : ∃ c, c = (min (max n 0) 64).toNat := ⟨_, rfl⟩
  have hc64 : c ≤ 64 := by omega
  have m1 : (c : Int) = if (64 : Int) < max n 0 then 64 else max n 0 := by split <;> omega
  have m0 : max n 0 = if n < 0 then 0 else n := by split <;> omega
  have M1 := Lib.hid m1
  have M0 := Lib.hid m0
  have HC := Lib.hid hc
  have hlen := orderN_length c a (List.range c)
  have hmem := mem_orderN c a (List.range c) (by simp)
  have hset : setOf (orderN c a (List.range c)) = allBelow c := setOf_all _ c hc64 (fun j => by rw [hmem]; simp)
  obtain ⟨L, hL⟩ : ∃ L, L = orderN c a (List.range c) := ⟨_, rfl⟩
  rw [← hL] at hlen hmem hset
  have HLEN := Lib.hid hlen
  have HSET := Lib.hid hset
  have HL := Lib.hid hL
  have hL64 : ∀ i ∈ L.map (fun i => ((i : Nat) : Int)), -9223372036854775808 ≤ i ∧ i ≤ 9223372036854775807 := by
    intro i hi
    simp only [List.mem_map] at hi
    obtain ⟨j, hj, rfl⟩ := hi
    have := (hmem j).1 hj
    simp at this
    omega
  have HL64 := Lib.hid hL64
  clear m1 m0 hc hlen hset hL hmem hL64
  go_enter Try.func4, Try.ntmps4
  go_wp2_with fail
  refine (order_any a ha n hn1 hn2 c HC.out _).mono ?_
  rw [← HL.out]
  rintro e w1 ⟨v, rfl, H1, H2⟩
  go_wp2_with fail
  refine (rorder_any a ha n hn1 hn2 c HC.out _).mono ?_
  rw [← HL.out]
  rintro e w2 ⟨u, rfl, H3, H4⟩
  go_wp2_with fail
  refine (same_any v u (L.map fun i => ((i : Nat) : Int)) (L.map fun i => ((i : Nat) : Int)) _ (by rw [← nats_ints]; exact H1.reads.keep H4) (by rw [← nats_ints]; exact H3.reads)).mono ?_
  rw [decide_eq_true rfl]
  rintro e w3 ⟨rfl, H5⟩
  go_wp2_with fail
  refine (awake_any _).mono ?_
  rintro e w4 ⟨rfl, H6⟩
  have HA : Chg [] w w4 := (((H2.then H4 (by simp)).then H5 (by simp)).then H6 (by simp))
  have H7 : Reads w4 v (ints (L.map fun i => ((i : Nat) : Int))) := by rw [← nats_ints]; exact ((H1.reads.keep H4).keep H5).keep H6
  obtain ⟨ao, cap, rfl, hm, hcell⟩ := H1.reads
  rw [nats_len, HLEN.out] at hm H7 ⊢
  clear H1 H2 H3 H4 H5 H6 hcell
  obtain ⟨z, hz⟩ : ∃ z, z = allBelow c := ⟨_, rfl⟩
  have HZ := Lib.hid hz
  clear hz
  go_wp2_with (first
    | (refine wpList_max rfl (.tmp 24) _ _ _ rfl .i64 n 0 (max n 0) rfl rfl M0.out ?_)
    | (refine wpList_min rfl (.tmp 25) _ _ _ rfl .i64 (max n 0) 64 c rfl rfl M1.out ?_)
    | (go_at_call 14; go_in)
    | (go_at_call 24; refine (of_any _ _ HL64.out _ H7).mono ?_; rw [foldl_nats, show List.foldl (fun s i => put s (i : Nat) true) 0 L = setOf L from rfl, HSET.out, ← HZ.out]; rintro e w5 ⟨rfl, H8⟩)
    | (go_at_call 9; refine (all_any _ (by omega) (by omega) _).mono ?_; rw [← HZ.out]; rintro e w6 ⟨rfl, H9⟩))
  · go_ret
    exact ⟨rfl, (HA.then H8 (by simp)).then H9 (by simp)⟩
  · have hc20 : c ≤ 20 := by omega
    have hf := factorial_lt hc20
    have hf1 := factorial_pos c
    have hinj := orderN_inj c (a % factorial c) (b % factorial c) (List.range c) (by simp) List.nodup_range (Nat.mod_lt _ hf1) (Nat.mod_lt _ hf1)
    obtain ⟨f, hfe⟩ : ∃ f, f = factorial c := ⟨_, rfl⟩
    rw [← hfe] at hf hf1 hinj
    have HF := Lib.hid hfe
    clear hfe
    obtain ⟨x, hx⟩ : ∃ x, x = a % f := ⟨_, rfl⟩
    obtain ⟨y, hy⟩ : ∃ y, y = b % f := ⟨_, rfl⟩
    have hx1 : x < 18446744073709551616 := by rw [hx]; exact Nat.lt_of_le_of_lt (Nat.mod_le _ _) ha
    have hy1 : y < 18446744073709551616 := by rw [hy]; exact Nat.lt_of_le_of_lt (Nat.mod_le _ _) hb
    have hxi : (a : Int) % (f : Int) = (x : Int) := by rw [hx]; simp
    have hyi : (b : Int) % (f : Int) = (y : Int) := by rw [hy]; simp
    rw [← hx, ← hy] at hinj
    have HXI := Lib.hid hxi
    have HYI := Lib.hid hyi
    have HINJ := Lib.hid hinj
    have hcc : c = (min (max (c : Int) 0) 64).toNat := by omega
    have HCC := Lib.hid hcc
    clear hx hy hxi hyi hinj hcc
    refine (all20_any c hc20 _).mono ?_
    rw [← HF.out]
    rintro e w7 ⟨rfl, rfl⟩
    go_wp2_with fail
    refine (all20_any c hc20 _).mono ?_
    rw [← HF.out]
    rintro e w7 ⟨rfl, rfl⟩
    go_wp2_with fail
    rw [HXI.out, HYI.out]
    refine (order_any x hx1 c (by omega) (by omega) c HCC.out _).mono ?_
    rintro e w7 ⟨v1, rfl, G1, G2⟩
    go_wp2_with fail
    refine (order_any y hy1 c (by omega) (by omega) c HCC.out _).mono ?_
    rintro e w8 ⟨v2, rfl, G3, G4⟩
    have hdec : decide ((orderN c x (List.range c)).map (fun i => ((i : Nat) : Int)) = (orderN c y (List.range c)).map (fun i => ((i : Nat) : Int))) = decide (x = y) := by
      congr 1
      exact propext ⟨fun h => HINJ.out ((map_nats_inj _ _).1 h), fun h => by rw [h]⟩
    have HDEC := Lib.hid hdec
    clear hdec
    by_cases hxy : x = y
    · have hb1 : ((x : Int) == (y : Int)) = true := by simp; omega
      have HXY := Lib.hid hxy
      clear hxy
      go_wp2_with fail
      refine (same_any v1 v2 _ _ _ (by rw [← nats_ints]; exact G1.reads.keep G4) (by rw [← nats_ints]; exact G3.reads)).mono ?_
      rw [HDEC.out, decide_eq_true HXY.out]
      rintro e w9 ⟨rfl, G5⟩
      go_wp2_with fail
      go_ret
      exact ⟨rfl, ((((HA.then H8 (by simp)).then H9 (by simp)).then G2 (by simp)).then G4 (by simp)).then G5 (by simp)⟩
    · have hb1 : ((x : Int) == (y : Int)) = false := by simp; omega
      have HXY := Lib.hid hxy
      clear hxy
      go_wp2_with fail
      refine (same_any v1 v2 _ _ _ (by rw [← nats_ints]; exact G1.reads.keep G4) (by rw [← nats_ints]; exact G3.reads)).mono ?_
      rw [HDEC.out, decide_eq_false HXY.out]
      rintro e w9 ⟨rfl, G5⟩
      go_wp2_with fail
      go_ret
      exact ⟨rfl, ((((HA.then H8 (by simp)).then H9 (by simp)).then G2 (by simp)).then G4 (by simp)).then G5 (by simp)⟩

namespace lotOrders
open Go.ChangeShapes Go.WideShapes Go.ChangeAt
theorem own : ownKnob Try.prog.godebug = none := by kernel_rfl
theorem toNat_u64 {a : Int} (h : (Lit.int .u64 a).wf = true) : ∃ n : Nat, a = n ∧ n < 18446744073709551616 := by
  have h1 := bounds_u64 h
  exact ⟨a.toNat, by omega, by omega⟩

set_option maxRecDepth 100000 in
theorem lifted (os : Os) (started : os.Started) (H : Type) (enc : TypeId × Value → H) :
    ReturnsInHanded {} Try.checked os 4 .any (Rows.lotOrdersSpec.pre6 enc Try.prog Try.f4 Rows.lotOrdersRow.domain false) (Rows.lotOrdersSpec.post enc Try.prog Try.f4 false true false false) := by
  refine returnsInHanded_of_change (C := Try.checked) own started (by kernel_rfl) Try.func4
    (ChangeSpec.witness6 (enc := enc) (C := Try.checked) false ⟨#[], #[.int .u64 0, .int .u64 0, .int .i64 0], []⟩ 8 (by kernel_rfl) (by kernel_rfl) (by kernel_rfl) (by kernel_rfl)) ?_
  intro W base args ds gs before hval0 hW hcnd _
  have hval : ∀ (j : Nat) t v, Try.f4.params[j]? = some t → args[j]? = some v → Value.okWide Try.prog W .any base t v := hval0
  have hW' := hW
  obtain ⟨p, q, hA0, hV, rfl, hfz, hnd⟩ := hW
  have hA : DataW.TrodAll enc Try.prog W 0 (fun _ => true) true Try.f4.params.toList args.toList ds p := hA0
  rw [Try.params4] at hA hval
  obtain ⟨v0, vs0, d0, ds0, p0, q0, hargs, rfl, rfl, h0, r0⟩ := trodAll_cons hA
  obtain ⟨v1, vs1, d1, ds1, p1, q1, rfl, rfl, rfl, h1, r1⟩ := trodAll_cons r0
  obtain ⟨v2, vs2, d2, ds2, p2, q2, rfl, rfl, rfl, h2, r2⟩ := trodAll_cons r1
  obtain ⟨rfl, rfl, rfl⟩ := trodAll_nil r2
  obtain rfl : args = #[v0, v1, v2] := by cases args; simp_all
  obtain ⟨rfl, rfl⟩ := trodVars_none hV
  obtain ⟨a0, rfl, rfl, rfl, w0⟩ := open_int Try.underlying22 (hval 0 22 v0 rfl rfl) h0
  obtain ⟨n0, rfl, hn0⟩ := toNat_u64 w0
  obtain ⟨a1, rfl, rfl, rfl, w1⟩ := open_int Try.underlying22 (hval 1 22 v1 rfl rfl) h1
  obtain ⟨n1, rfl, hn1⟩ := toNat_u64 w1
  obtain ⟨a2, rfl, rfl, rfl, w2⟩ := open_int Try.underlying3 (hval 2 3 v2 rfl rfl) h2
  have b2 := bounds_i64 w2
  clear hA0 hval0
  simp only [List.append_nil] at hW'
  refine (lotOrders_walk n0 hn0 n1 hn1 a2 b2.1 b2.2 W).mono fun e W' ⟨he, hg⟩ => ?_
  subst he
  exact ⟨_, rfl, _, _, _, [], _, [], hW', trodAll_mk1 (shut_bool Try.underlying4 _), (trodAll_cons_mk (shut_int Try.underlying22 w0) (trodAll_cons_mk (shut_int Try.underlying22 w1) (trodAll_cons_mk (shut_int Try.underlying3 w2) trodAll_mk0))), rfl, hg.below.frame _, fun h => by cases h⟩

theorem over : Rows.lotOrdersRow.holds Try.pinned (OpenSpec.ofChange Rows.lotOrdersSpec) :=
  OpenClaim.holds_of_wide 4 Try.f4 rfl rfl rfl rfl rfl rfl rfl ⟨rfl, rfl, rfl, rfl, rfl⟩ rfl rfl rfl rfl rfl (by kernel_rfl) Try.func4 (by kernel_rfl)
    (of_decide_eq_true (by kernel_rfl)) (by unfold Func.isWrapper; first | (rw [if_pos (by decide +kernel)]; kernel_rfl) | (rw [if_neg (by decide +kernel)]; exact ⟨rfl, rfl⟩))
    (fun os started H enc _ => lifted os started H enc)
end lotOrders

theorem lotOrders_holds : Rows.LotOrdersSaid := lotOrders.over
#print axioms lotOrders_holds
end Go.Proofs.Ytdnholkhdjnamaa
