/- For every place, code, loose and joined the law KinOnce returns true: a code is collected once. No conditions. -/
import Derived.Test.YtiidlbicdkmloaaRows
import Derived.Test.YtiidlbicdkmloaaKin4
import Derived.Test.YtiidlbicdkmloaaLaw
namespace Go.Proofs.Ytiidlbicdkmloaa
open Go.RowKit Bosun
theorem leftS_none {c : Int → Option Nat} (h : ∀ z, c z = none) : ∀ k, leftS c k = 0
  | 0 => rfl
  | k + 1 => by unfold leftS; rw [h]; simp [leftS_none h k]
theorem bit_clear : ∀ k, k < 64 → 2 ^ k &&& (18446744073709551615 - 2 ^ k) = 0 := by decide +kernel
set_option maxHeartbeats 8000000 in
theorem kinOnce_walk (w : World) (p0 : Nat) (hp : p0 < 256) (x : Nat) (hx : x < 18446744073709551616) (loose joined : Bool) :
    Calls Try.prog 4 #[.int .u8 (p0 : Nat), .int .u64 (x : Nat), .bool loose, .bool joined] w fun e w' => e = .returned (.bool true) ∧ Chg [] w w' := by
  obtain ⟨p, hpp, hp64⟩ : ∃ p : Nat, (p0 : Int) % 64 = (p : Int) ∧ p < 64 := ⟨p0 % 64, by omega, Nat.mod_lt _ (by omega)⟩
  obtain ⟨b, hb⟩ : ∃ b, b = bitN p := ⟨_, rfl⟩
  have hb2 : b = 2 ^ p := by rw [hb, bitN_in hp64]
  have hb0 : b ≠ 0 := by rw [hb2]; exact Nat.ne_of_gt (Nat.pow_pos (by omega))
  have hcl : lessN b p = 0 := by unfold lessN; rw [← hb, hb2]; exact bit_clear p hp64
  have hz : lessN 0 p = 0 := by unfold lessN; simp
  have hbb : (b &&& bitN p != 0) = true := by rw [← hb]; simp [hb0]
  have h0b : (0 &&& bitN p != 0) = false := by simp
  have HB := Lib.hid (And.intro hb (And.intro hcl (And.intro hz (And.intro hbb h0b))))
  have HX := Lib.hid hx
  clear hb hb2 hb0 hcl hz hbb h0b hx hp
  have w1ok : ∀ c : Int → Option Nat, c p = none → wrongK b c p true = 0 := fun c hc => by
    unfold wrongK; rw [if_neg (by omega), HB.out.2.2.2.1, hc]; rfl
  have w7 : ∀ (c : Int → Option Nat) (q : Bool), c p = none → wrongK 0 c p q = 7 := fun c q hc => by
    unfold wrongK; rw [if_neg (by omega), HB.out.2.2.2.2, hc]; rfl
  have w0 : ∀ (c : Int → Option Nat), (c p).isSome = true → wrongK 0 c p false = 0 := fun c hc => by
    unfold wrongK; rw [if_neg (by omega), HB.out.2.2.2.2, hc]; rfl
  have HW := Lib.hid (And.intro w1ok (And.intro w7 w0))
  clear w1ok w7 w0
  have born1 : ∀ kb mb n c w l, IsKin w kb mb n 0 0 c → c p = none → Calls Try.prog 14 #[.pointer (some ⟨kb, 0, none⟩), .int .i64 (p : Nat), .bool l] w fun e w' => e = .returned (.bool true) ∧ IsKin w' kb mb n b (if l then b else 0) c ∧ Chg [kb] w w' := fun kb mb n c w l K hc => by
    refine (born_yes kb mb n 0 0 c w K p (by omega) (by omega) HB.out.2.2.2.2 (by rw [hc]; rfl) l).mono fun e w' ⟨h1, h2, h3⟩ => ⟨h1, ?_, h3⟩
    rw [← HB.out.1, HB.out.2.2.1] at h2
    simpa using h2
  have HBN := Lib.hid born1
  clear born1
  cases loose
  · cases joined
    · go_enter Try.func4, Try.ntmps4
      go_wp2_with fail
      refine (knew_any _).mono ?_
      rintro e w1 ⟨kb, mb, rfl, K1, C1, g1, g2⟩
      have hin : ∀ g, g ∈ [kb] ∨ g ∈ [mb] ∨ g ∈ [kb, mb] → g ∈ ([] : List Nat) ∨ w.heap.size ≤ g := fun g hg => .inr (by simp at hg; omega)
      have HIN := Lib.hid hin
      clear hin g1 g2
      go_wp2_with fail
      refine (HBN.out kb mb 0 (fun _ => none) _ false K1 rfl).mono ?_
      rintro e w2 ⟨rfl, K2, C2⟩
      have K2x : IsKin w2 kb mb 0 b 0 (fun _ => none) := K2
      have HE := Lib.hid (exit_yes kb mb 0 b 0 (fun _ => none) w2 K2x p (by omega) (by omega) x HX.out false (HW.out.1 _ rfl) (by omega))
      rw [HB.out.2.2.2.2, HB.out.2.1] at HE
      go_wp2_with (first
        | (go_at_call 14; (with_reducible refine (born_no kb mb 0 b 0 _ w2 K2x p (by omega) (by omega) (.inr (.inl HB.out.2.2.2.1)) false).mono ?_); rintro e y ⟨rfl, rfl⟩)
        | (go_at_call 11; (with_reducible refine (Over_any kb mb 0 b 0 _ w2 K2x p (by omega) (by omega)).mono ?_); rintro e y ⟨rfl, rfl⟩)
        | (go_at_call 15; (with_reducible refine HE.out.mono ?_); rintro e w3 ⟨rfl, K3, C3⟩; have K3x : IsKin w3 kb mb 1 0 0 (updK (fun _ => none) (p : Int) (some x)) := K3; have HO3 := Lib.hid (Over_any kb mb 1 0 0 (updK (fun _ => none) (p : Int) (some x)) w3 K3x p (by omega) (by omega)); rw [show ((updK (fun _ => none) (p : Int) (some x)) (p : Int)).isSome = true from by simp [updK]] at HO3)
        | (go_at_call 11; (with_reducible refine HO3.out.mono ?_); rintro e y ⟨rfl, rfl⟩)
        | (go_at_call 8; (with_reducible refine (alive_any kb mb 1 0 0 (updK (fun _ => none) (p : Int) (some x)) w3 K3x).mono ?_); rintro e y ⟨rfl, rfl⟩)
        | (go_at_call 16; (with_reducible refine (reap_yes kb mb 1 0 0 (updK (fun _ => none) (p : Int) (some x)) w3 K3x p (by omega) (by omega) (HW.out.2.2 _ (by simp [updK])) x (by simp [updK])).mono ?_); rintro e w4 ⟨rfl, K4, C4⟩; have K4x : IsKin w4 kb mb 1 0 0 (updK (updK (fun _ => none) (p : Int) (some x)) (p : Int) none) := K4)
        | (go_at_call 16; (with_reducible refine (reap_no kb mb 1 0 0 (updK (updK (fun _ => none) (p : Int) (some x)) (p : Int) none) w4 K4x p (by omega) (by omega) (by rw [HW.out.2.1 _ false (by simp [updK])]; decide)).mono ?_); rw [HW.out.2.1 (updK (updK (fun _ => none) (p : Int) (some x)) (p : Int) none) false (by simp [updK])]; rintro e y ⟨rfl, rfl⟩)
        | (go_at_call 15; (with_reducible refine (exit_no kb mb 1 0 0 (updK (updK (fun _ => none) (p : Int) (some x)) (p : Int) none) w4 K4x p (by omega) (by omega) x false (by rw [HW.out.2.1 _ true (by simp [updK])]; decide)).mono ?_); rw [HW.out.2.1 (updK (updK (fun _ => none) (p : Int) (some x)) (p : Int) none) true (by simp [updK])]; rintro e y ⟨rfl, rfl⟩)
        | (go_at_call 10; (with_reducible refine (left_any kb mb 1 0 0 (updK (updK (fun _ => none) (p : Int) (some x)) (p : Int) none) w4 K4x).mono ?_); rw [leftS_none (c := (updK (updK (fun _ => none) (p : Int) (some x)) (p : Int) none)) (fun z => by unfold updK; split <;> first | rfl | simp_all) 64]; rintro e y ⟨rfl, rfl⟩)
        | (go_at_call 14; (with_reducible refine (born_yes kb mb 1 0 0 (updK (updK (fun _ => none) (p : Int) (some x)) (p : Int) none) w4 K4x p (by omega) (by omega) HB.out.2.2.2.2 (by simp [updK]) true).mono ?_); rintro e w6 ⟨rfl, K6, C6⟩)
        | (go_at_call 13; refine (awake_any _).mono ?_; rintro e w7 ⟨rfl, C7⟩))
      go_ret
      have D3 := (C1.then C2 (fun g hg => HIN.out g (.inl hg))).then C3 (fun g hg => HIN.out g (.inr (.inr hg)))
      exact ⟨rfl, ((D3.then C4 (fun g hg => HIN.out g (.inr (.inl hg)))).then C6 (fun g hg => HIN.out g (.inl hg))).then C7 (by simp)⟩
    · go_enter Try.func4, Try.ntmps4
      go_wp2_with fail
      refine (knew_any _).mono ?_
      rintro e w1 ⟨kb, mb, rfl, K1, C1, g1, g2⟩
      have hin : ∀ g, g ∈ [kb] ∨ g ∈ [mb] ∨ g ∈ [kb, mb] → g ∈ ([] : List Nat) ∨ w.heap.size ≤ g := fun g hg => .inr (by simp at hg; omega)
      have HIN := Lib.hid hin
      clear hin g1 g2
      go_wp2_with fail
      refine (HBN.out kb mb 0 (fun _ => none) _ false K1 rfl).mono ?_
      rintro e w2 ⟨rfl, K2, C2⟩
      have K2x : IsKin w2 kb mb 0 b 0 (fun _ => none) := K2
      have HE := Lib.hid (exit_yes kb mb 0 b 0 (fun _ => none) w2 K2x p (by omega) (by omega) x HX.out true (HW.out.1 _ rfl) (by omega))
      rw [HB.out.2.2.2.2, HB.out.2.1] at HE
      go_wp2_with (first
        | (go_at_call 14; (with_reducible refine (born_no kb mb 0 b 0 _ w2 K2x p (by omega) (by omega) (.inr (.inl HB.out.2.2.2.1)) false).mono ?_); rintro e y ⟨rfl, rfl⟩)
        | (go_at_call 11; (with_reducible refine (Over_any kb mb 0 b 0 _ w2 K2x p (by omega) (by omega)).mono ?_); rintro e y ⟨rfl, rfl⟩)
        | (go_at_call 15; (with_reducible refine HE.out.mono ?_); rintro e w3 ⟨rfl, K3, C3⟩; have K3x : IsKin w3 kb mb 1 0 0 (fun _ => none) := K3; have HO3 := Lib.hid (Over_any kb mb 1 0 0 (fun _ => none) w3 K3x p (by omega) (by omega)); rw [show ((fun _ => none) (p : Int)).isSome = false from by simp [updK]] at HO3)
        | (go_at_call 11; (with_reducible refine HO3.out.mono ?_); rintro e y ⟨rfl, rfl⟩)
        | (go_at_call 8; (with_reducible refine (alive_any kb mb 1 0 0 (fun _ => none) w3 K3x).mono ?_); rintro e y ⟨rfl, rfl⟩)
        | (go_at_call 16; (with_reducible refine (reap_no kb mb 1 0 0 (fun _ => none) w3 K3x p (by omega) (by omega) (by rw [HW.out.2.1 _ false rfl]; decide)).mono ?_); rw [HW.out.2.1 (fun _ => none) false rfl]; rintro e y ⟨rfl, rfl⟩)
        | (go_at_call 15; (with_reducible refine (exit_no kb mb 1 0 0 (fun _ => none) w3 K3x p (by omega) (by omega) x true (by rw [HW.out.2.1 _ true rfl]; decide)).mono ?_); rw [HW.out.2.1 (fun _ => none) true rfl]; rintro e y ⟨rfl, rfl⟩)
        | (go_at_call 10; (with_reducible refine (left_any kb mb 1 0 0 (fun _ => none) w3 K3x).mono ?_); rw [leftS_none (c := (fun _ => none)) (fun z => by rfl) 64]; rintro e y ⟨rfl, rfl⟩)
        | (go_at_call 14; (with_reducible refine (born_yes kb mb 1 0 0 (fun _ => none) w3 K3x p (by omega) (by omega) HB.out.2.2.2.2 (by simp [updK]) true).mono ?_); rintro e w6 ⟨rfl, K6, C6⟩)
        | (go_at_call 13; refine (awake_any _).mono ?_; rintro e w7 ⟨rfl, C7⟩))
      go_ret
      have D3 := (C1.then C2 (fun g hg => HIN.out g (.inl hg))).then C3 (fun g hg => HIN.out g (.inr (.inr hg)))
      exact ⟨rfl, (D3.then C6 (fun g hg => HIN.out g (.inl hg))).then C7 (by simp)⟩
  · cases joined
    · go_enter Try.func4, Try.ntmps4
      go_wp2_with fail
      refine (knew_any _).mono ?_
      rintro e w1 ⟨kb, mb, rfl, K1, C1, g1, g2⟩
      have hin : ∀ g, g ∈ [kb] ∨ g ∈ [mb] ∨ g ∈ [kb, mb] → g ∈ ([] : List Nat) ∨ w.heap.size ≤ g := fun g hg => .inr (by simp at hg; omega)
      have HIN := Lib.hid hin
      clear hin g1 g2
      go_wp2_with fail
      refine (HBN.out kb mb 0 (fun _ => none) _ true K1 rfl).mono ?_
      rintro e w2 ⟨rfl, K2, C2⟩
      have K2x : IsKin w2 kb mb 0 b b (fun _ => none) := K2
      have HE := Lib.hid (exit_yes kb mb 0 b b (fun _ => none) w2 K2x p (by omega) (by omega) x HX.out false (HW.out.1 _ rfl) (by omega))
      rw [HB.out.2.2.2.1, HB.out.2.1] at HE
      go_wp2_with (first
        | (go_at_call 14; (with_reducible refine (born_no kb mb 0 b b _ w2 K2x p (by omega) (by omega) (.inr (.inl HB.out.2.2.2.1)) true).mono ?_); rintro e y ⟨rfl, rfl⟩)
        | (go_at_call 11; (with_reducible refine (Over_any kb mb 0 b b _ w2 K2x p (by omega) (by omega)).mono ?_); rintro e y ⟨rfl, rfl⟩)
        | (go_at_call 15; (with_reducible refine HE.out.mono ?_); rintro e w3 ⟨rfl, K3, C3⟩; have K3x : IsKin w3 kb mb 1 0 b (fun _ => none) := K3; have HO3 := Lib.hid (Over_any kb mb 1 0 b (fun _ => none) w3 K3x p (by omega) (by omega)); rw [show ((fun _ => none) (p : Int)).isSome = false from by simp [updK]] at HO3)
        | (go_at_call 11; (with_reducible refine HO3.out.mono ?_); rintro e y ⟨rfl, rfl⟩)
        | (go_at_call 8; (with_reducible refine (alive_any kb mb 1 0 b (fun _ => none) w3 K3x).mono ?_); rintro e y ⟨rfl, rfl⟩)
        | (go_at_call 16; (with_reducible refine (reap_no kb mb 1 0 b (fun _ => none) w3 K3x p (by omega) (by omega) (by rw [HW.out.2.1 _ false rfl]; decide)).mono ?_); rw [HW.out.2.1 (fun _ => none) false rfl]; rintro e y ⟨rfl, rfl⟩)
        | (go_at_call 15; (with_reducible refine (exit_no kb mb 1 0 b (fun _ => none) w3 K3x p (by omega) (by omega) x false (by rw [HW.out.2.1 _ true rfl]; decide)).mono ?_); rw [HW.out.2.1 (fun _ => none) true rfl]; rintro e y ⟨rfl, rfl⟩)
        | (go_at_call 10; (with_reducible refine (left_any kb mb 1 0 b (fun _ => none) w3 K3x).mono ?_); rw [leftS_none (c := (fun _ => none)) (fun z => by rfl) 64]; rintro e y ⟨rfl, rfl⟩)
        | (go_at_call 14; (with_reducible refine (born_yes kb mb 1 0 b (fun _ => none) w3 K3x p (by omega) (by omega) HB.out.2.2.2.2 (by simp [updK]) false).mono ?_); rintro e w6 ⟨rfl, K6, C6⟩)
        | (go_at_call 13; refine (awake_any _).mono ?_; rintro e w7 ⟨rfl, C7⟩))
      go_ret
      have D3 := (C1.then C2 (fun g hg => HIN.out g (.inl hg))).then C3 (fun g hg => HIN.out g (.inr (.inr hg)))
      exact ⟨rfl, (D3.then C6 (fun g hg => HIN.out g (.inl hg))).then C7 (by simp)⟩
    · go_enter Try.func4, Try.ntmps4
      go_wp2_with fail
      refine (knew_any _).mono ?_
      rintro e w1 ⟨kb, mb, rfl, K1, C1, g1, g2⟩
      have hin : ∀ g, g ∈ [kb] ∨ g ∈ [mb] ∨ g ∈ [kb, mb] → g ∈ ([] : List Nat) ∨ w.heap.size ≤ g := fun g hg => .inr (by simp at hg; omega)
      have HIN := Lib.hid hin
      clear hin g1 g2
      go_wp2_with fail
      refine (HBN.out kb mb 0 (fun _ => none) _ true K1 rfl).mono ?_
      rintro e w2 ⟨rfl, K2, C2⟩
      have K2x : IsKin w2 kb mb 0 b b (fun _ => none) := K2
      have HE := Lib.hid (exit_yes kb mb 0 b b (fun _ => none) w2 K2x p (by omega) (by omega) x HX.out true (HW.out.1 _ rfl) (by omega))
      rw [HB.out.2.2.2.1, HB.out.2.1] at HE
      go_wp2_with (first
        | (go_at_call 14; (with_reducible refine (born_no kb mb 0 b b _ w2 K2x p (by omega) (by omega) (.inr (.inl HB.out.2.2.2.1)) true).mono ?_); rintro e y ⟨rfl, rfl⟩)
        | (go_at_call 11; (with_reducible refine (Over_any kb mb 0 b b _ w2 K2x p (by omega) (by omega)).mono ?_); rintro e y ⟨rfl, rfl⟩)
        | (go_at_call 15; (with_reducible refine HE.out.mono ?_); rintro e w3 ⟨rfl, K3, C3⟩; have K3x : IsKin w3 kb mb 1 0 b (fun _ => none) := K3; have HO3 := Lib.hid (Over_any kb mb 1 0 b (fun _ => none) w3 K3x p (by omega) (by omega)); rw [show ((fun _ => none) (p : Int)).isSome = false from by simp [updK]] at HO3)
        | (go_at_call 11; (with_reducible refine HO3.out.mono ?_); rintro e y ⟨rfl, rfl⟩)
        | (go_at_call 8; (with_reducible refine (alive_any kb mb 1 0 b (fun _ => none) w3 K3x).mono ?_); rintro e y ⟨rfl, rfl⟩)
        | (go_at_call 16; (with_reducible refine (reap_no kb mb 1 0 b (fun _ => none) w3 K3x p (by omega) (by omega) (by rw [HW.out.2.1 _ false rfl]; decide)).mono ?_); rw [HW.out.2.1 (fun _ => none) false rfl]; rintro e y ⟨rfl, rfl⟩)
        | (go_at_call 15; (with_reducible refine (exit_no kb mb 1 0 b (fun _ => none) w3 K3x p (by omega) (by omega) x true (by rw [HW.out.2.1 _ true rfl]; decide)).mono ?_); rw [HW.out.2.1 (fun _ => none) true rfl]; rintro e y ⟨rfl, rfl⟩)
        | (go_at_call 10; (with_reducible refine (left_any kb mb 1 0 b (fun _ => none) w3 K3x).mono ?_); rw [leftS_none (c := (fun _ => none)) (fun z => by rfl) 64]; rintro e y ⟨rfl, rfl⟩)
        | (go_at_call 14; (with_reducible refine (born_yes kb mb 1 0 b (fun _ => none) w3 K3x p (by omega) (by omega) HB.out.2.2.2.2 (by simp [updK]) false).mono ?_); rintro e w6 ⟨rfl, K6, C6⟩)
        | (go_at_call 13; refine (awake_any _).mono ?_; rintro e w7 ⟨rfl, C7⟩))
      go_ret
      have D3 := (C1.then C2 (fun g hg => HIN.out g (.inl hg))).then C3 (fun g hg => HIN.out g (.inr (.inr hg)))
      exact ⟨rfl, (D3.then C6 (fun g hg => HIN.out g (.inl hg))).then C7 (by simp)⟩
namespace kinOnce
open Go.ChangeShapes Go.WideShapes Go.ChangeAt
theorem own : ownKnob Try.prog.godebug = none := by kernel_rfl

set_option maxRecDepth 100000 in
theorem lifted (os : Os) (started : os.Started) (H : Type) (enc : TypeId × Value → H) :
    ReturnsInHanded {} Try.checked os 4 .any (Rows.kinOnceSpec.pre6 enc Try.prog Try.f4 Rows.kinOnceRow.domain false) (Rows.kinOnceSpec.post enc Try.prog Try.f4 false true false false) := by
  refine returnsInHanded_of_change (C := Try.checked) own started (by kernel_rfl) Try.func4
    (ChangeSpec.witness6 (enc := enc) (C := Try.checked) false ⟨#[], #[.int .u8 0, .int .u64 0, .bool false, .bool false], []⟩ 8 (by kernel_rfl) (by kernel_rfl) (by kernel_rfl) (by kernel_rfl)) ?_
  intro W base args ds gs before hval0 hW hcnd _
  have hval : ∀ (j : Nat) t v, Try.f4.params[j]? = some t → args[j]? = some v → Value.okWide Try.prog W .any base t v := hval0
  have hW' := hW
  obtain ⟨p, q, hA0, hV, rfl, hfz, hnd⟩ := hW
  have hA : DataW.TrodAll enc Try.prog W 0 (fun _ => true) true Try.f4.params.toList args.toList ds p := hA0
  rw [Try.params4] at hA hval
  obtain ⟨v0, vs0, d0, ds0, p0, q0, hargs, rfl, rfl, h0, r0⟩ := trodAll_cons hA
  obtain ⟨v1, vs1, d1, ds1, p1, q1, rfl, rfl, rfl, h1, r1⟩ := trodAll_cons r0
  obtain ⟨v2, vs2, d2, ds2, p2, q2, rfl, rfl, rfl, h2, r2⟩ := trodAll_cons r1
  obtain ⟨v3, vs3, d3, ds3, p3, q3, rfl, rfl, rfl, h3, r3⟩ := trodAll_cons r2
  obtain ⟨rfl, rfl, rfl⟩ := trodAll_nil r3
  obtain rfl : args = #[v0, v1, v2, v3] := by cases args; simp_all
  obtain ⟨rfl, rfl⟩ := trodVars_none hV
  obtain ⟨a0, rfl, rfl, rfl, w0⟩ := open_int Try.underlying5 (hval 0 5 v0 rfl rfl) h0
  obtain ⟨n0, rfl, hn0⟩ := nat_u8 w0
  obtain ⟨a1, rfl, rfl, rfl, w1⟩ := open_int Try.underlying25 (hval 1 25 v1 rfl rfl) h1
  obtain ⟨n1, rfl, hn1⟩ := nat_u64 w1
  obtain ⟨a2, rfl, rfl, rfl⟩ := open_bool Try.underlying4 (hval 2 4 v2 rfl rfl) h2
  obtain ⟨a3, rfl, rfl, rfl⟩ := open_bool Try.underlying4 (hval 3 4 v3 rfl rfl) h3
  clear hA0 hval0
  simp only [List.append_nil] at hW'
  refine (kinOnce_walk W n0 hn0 n1 hn1 a2 a3).mono fun e W' ⟨he, hg⟩ => ?_
  subst he
  exact ⟨_, rfl, _, _, _, [], _, [], hW', trodAll_mk1 (shut_bool Try.underlying4 _), (trodAll_cons_mk (shut_int Try.underlying5 w0) (trodAll_cons_mk (shut_int Try.underlying25 w1) (trodAll_cons_mk (shut_bool Try.underlying4 a2) (trodAll_cons_mk (shut_bool Try.underlying4 a3) trodAll_mk0)))), rfl, hg.below.frame _, fun h => by cases h⟩

theorem over : Rows.kinOnceRow.holds Try.pinned (OpenSpec.ofChange Rows.kinOnceSpec) :=
  OpenClaim.holds_of_wide 4 Try.f4 rfl rfl rfl rfl rfl rfl rfl ⟨rfl, rfl, rfl, rfl, rfl⟩ rfl rfl rfl rfl rfl (by kernel_rfl) Try.func4 (by kernel_rfl)
    (of_decide_eq_true (by kernel_rfl)) (by unfold Func.isWrapper; first | (rw [if_pos (by decide +kernel)]; kernel_rfl) | (rw [if_neg (by decide +kernel)]; exact ⟨rfl, rfl⟩))
    (fun os started H enc _ => lifted os started H enc)
end kinOnce

theorem kinOnce_holds : Rows.KinOnceSaid := kinOnce.over
#print axioms kinOnce_holds
end Go.Proofs.Ytiidlbicdkmloaa
