/- gauge: the lightest of many; totals; averages of many. -/
import Derived.Test.YtknfpnifhpbojaaGau4
import Derived.Test.YtknfpnifhpbojaaGauL
namespace Go.Proofs.Ytknfpnifhpbojaa
open Go.RowKit Bosun
set_option maxHeartbeats 1000000 in
theorem lightest_any (v : Value) (l : List Nat) (w : World) (hv : Reads w v (fls l)) :
    Calls Try.prog 21 #[v] w fun e w' => (∃ a, e = .returned (.int .i64 a) ∧ lightTo l l.length a) ∧ w = w' := by
  obtain ⟨ao, cap, rfl, hm, hc⟩ := hv
  rw [fls_len] at hm ⊢
  unfold maxLen at hm
  go_enter Try.func21, Try.ntmps21
  go_wp2
  go_loopw [3, 8] (fun x3 x8 wr => ∃ (k : Nat) (a : Int), k ≤ l.length ∧ x8 = .int .i64 k ∧ x3 = .int .i64 a ∧ lightTo l k a ∧ w = wr)
    (fun _ x8 _ => l.length - (intOf x8).toNat)
  case atStart => exact ⟨0, -1, by omega, rfl, rfl, .inl ⟨rfl, rfl⟩, rfl⟩
  case round =>
    obtain ⟨k, a, hk, rfl, rfl, HL, rfl⟩ := hrel
    by_cases hkl : k < l.length
    · obtain ⟨g, off, rfl, hcell⟩ := hc k _ (fls_get l hkl)
      rw [← getD_get hkl] at hcell
      obtain ⟨x, hx⟩ : ∃ x, x = l.getD k 0 := ⟨_, rfl⟩
      rw [← hx] at hcell
      rcases HL with ⟨hk0, rfl⟩ | ⟨j, rfl, h2, h34⟩
      · have HX := Lib.hid (show lightTo l (k + 1) k by subst hk0; exact light_first l)
        clear hc hx hk0
        go_wp2_with fail
        go_roundw
        case rel => exact ⟨k + 1, k, by omega, by go_num, rfl, HX.out, by trivial⟩
        case measure => simp [intOf] <;> omega
      · obtain ⟨g', off', hg', hcell'⟩ := hc j _ (fls_get l (by omega))
        cases hg'
        rw [← getD_get (by omega)] at hcell'
        have HJ := Lib.hid (show lightTo l k j from .inr ⟨j, rfl, h2, h34⟩)
        obtain ⟨y, hy⟩ : ∃ y, y = l.getD j 0 := ⟨_, rfl⟩
        rw [← hy] at hcell'
        have nj : ((j : Int) == -1) = false := by rw [beq_eq_false_iff_ne]; omega
        have jl : j < l.length := by omega
        clear hc h34
        by_cases hlt : kx x < kx y
        · have HO := Lib.hid (order_any x y w)
          have hn : decide (ordW x y < 0) = true := decide_eq_true (ordW_neg.2 hlt)
          have HX := Lib.hid (light_new HJ.out (by rw [← hx, ← hy]; exact hlt))
          clear hlt hx hy
          go_wp2_with (go_at_call 19; refine HO.out.mono ?_; rintro e w2 ⟨rfl, rfl⟩)
          go_roundw
          case rel => exact ⟨k + 1, k, by omega, by go_num, rfl, HX.out, by trivial⟩
          case measure => simp [intOf] <;> omega
        · have HO := Lib.hid (order_any x y w)
          have hn : decide (ordW x y < 0) = false := decide_eq_false (fun h => hlt (ordW_neg.1 h))
          have HX := Lib.hid (light_keep HJ.out (by rw [← hx, ← hy]; exact hlt))
          clear hlt hx hy
          go_wp2_with (go_at_call 19; refine HO.out.mono ?_; rintro e w2 ⟨rfl, rfl⟩)
          go_roundw
          case rel => exact ⟨k + 1, j, by omega, by go_num, rfl, HX.out, by trivial⟩
          case measure => simp [intOf] <;> omega
    · obtain rfl : k = l.length := by omega
      have HH := Lib.hid HL
      clear hc HL
      go_wp2
      go_ret
      exact ⟨⟨a, rfl, HH.out⟩, rfl⟩
theorem lt_step {P : Nat → Prop} {i : Nat} (h : ∀ p, p < i → P p) (h2 : P i) : ∀ p, p < i + 1 → P p := fun p hp => by
  by_cases hpi : p = i
  · subst hpi; exact h2
  · exact h p (by omega)
theorem first_all {l : List Nat} {i k : Nat} {b : Bool} (h : b = decide (∀ q, q < k → kx (l.getD i 0) ≤ kx (l.getD q 0))) (c : Bool) (hc : c = decide (0 ≤ ordW (l.getD k 0) (l.getD i 0))) : (b && c) = decide (∀ q, q < k + 1 → kx (l.getD i 0) ≤ kx (l.getD q 0)) := by
  subst h hc
  rw [← Bool.decide_and]
  refine decide_eq_decide.2 ⟨fun ⟨h1, h2⟩ q hq => ?_, fun h => ⟨fun q hq => h q (by omega), ?_⟩⟩
  · by_cases hqk : q = k
    · subst hqk
      refine Int.not_lt.1 fun h3 => ?_
      have := ordW_neg.2 h3
      omega
    · exact h1 q (by omega)
  · refine Int.not_lt.1 fun h3 => ?_
    have := ordW_neg.1 h3
    have := h k (by omega)
    omega
set_option maxHeartbeats 2000000 in
theorem rlightest_any (v : Value) (l : List Nat) (w : World) (hv : Reads w v (fls l)) :
    Calls Try.prog 22 #[v] w fun e w' => (∃ a, e = .returned (.int .i64 a) ∧ lightTo l l.length a) ∧ Chg [] w w' := by
  have hv0 := Lib.hid hv
  obtain ⟨ao, cap, rfl, hm, hc⟩ := hv
  rw [fls_len] at hm ⊢
  rw [fls_len] at hv0
  unfold maxLen at hm
  go_enter Try.func22, Try.ntmps22
  go_wp2
  go_loopw [3] (fun x3 wr => ∃ i : Nat, i ≤ l.length ∧ x3 = .int .i64 i ∧ (∀ p, p < i → ¬ ∀ k, k < l.length → kx (l.getD p 0) ≤ kx (l.getD k 0)) ∧ Chg [] w wr)
    (fun x3 _ => l.length - (intOf x3).toNat)
  case atStart => exact ⟨0, by omega, rfl, fun p hp => by omega, Chg.refl _ _⟩
  case round =>
    obtain ⟨i, hi, rfl, HN, H⟩ := hrel
    have HN := Lib.hid HN
    by_cases hil : i < l.length
    · obtain ⟨g, off, rfl, hcell⟩ := hc i _ (fls_get l hil)
      rw [← getD_get hil] at hcell
      obtain ⟨x, hx⟩ : ∃ x, x = l.getD i 0 := ⟨_, rfl⟩
      rw [← hx] at hcell
      have HX := Lib.hid hx
      have HC := Lib.hid hc
      have HCL := Lib.hid hcell
      clear hc hx hcell
      go_wp2_with fail
      go_loopw [4, 5] (fun x4 x5 wq => ∃ (k : Nat) (b : Bool), k ≤ l.length ∧ x5 = .int .i64 k ∧ x4 = .bool b ∧ Hid (b = decide (∀ q, q < k → kx (l.getD i 0) ≤ kx (l.getD q 0))) ∧ Chg [] w wq)
        (fun _ x5 _ => l.length - (intOf x5).toNat)
      case atStart => exact ⟨0, true, by omega, rfl, rfl, Lib.hid (decide_eq_true (fun q hq => by omega)).symm, H⟩
      case round =>
        obtain ⟨k, b, hk, rfl, rfl, HB, H2⟩ := hrel
        by_cases hkl : k < l.length
        · obtain ⟨g', off', hg', hcell'⟩ := HC.out k _ (fls_get l hkl)
          cases hg'
          rw [← getD_get hkl] at hcell'
          obtain ⟨y, hy⟩ : ∃ y, y = l.getD k 0 := ⟨_, rfl⟩
          rw [← hy] at hcell'
          have ck : wr.cell? ⟨g, off + k, none⟩ = some (.float .f64 y) := by
            rw [World.cell?_of_block (w := w) (H2.block g (World.block_lt_of_cell? w _ hcell') (by simp)), hcell']
          have ci : wr.cell? ⟨g, off + i, none⟩ = some (.float .f64 x) := by
            rw [World.cell?_of_block (w := w) (H2.block g (World.block_lt_of_cell? w _ HCL.out) (by simp)), HCL.out]
          obtain ⟨c, hcc⟩ : ∃ c, c = decide (0 ≤ ordW y x) := ⟨_, rfl⟩
          have HF := Lib.hid (first_all HB.out c (by rw [hcc, hy, HX.out]))
          have HO := Lib.hid (fun w => (rorder_any y x w).mono fun _ _ h => (⟨h.1, h.2.symm⟩ : _ ∧ _))
          clear hcell' hy
          cases b with
          | false =>
            clear hcc ck ci
            go_wp2_with fail
            go_quiet (fail)
            go_wp2
            go_roundw
            case rel => exact ⟨k + 1, false, by omega, by go_num, rfl, HF, H2.drewN _⟩
            case measure => simp [intOf] <;> omega
          | true =>
            have hd : decide (0 ≤ ordW y x) = c := hcc.symm
            clear hcc
            go_wp2_with fail
            go_quiet ((go_at_call 20; exact Calls.quiet_of_same (HO.out _)))
            go_wp2
            go_roundw
            case rel => exact ⟨k + 1, c, by omega, by go_num, rfl, Lib.hid (by rw [← HF.out]; rfl), H2.drewN _⟩
            case measure => simp [intOf] <;> omega
        · obtain rfl : k = l.length := by omega
          cases b with
          | true =>
            have HR := Lib.hid (light_of hil (of_decide_eq_true HB.out.symm) HN.out)
            go_wp2
            go_ret
            exact ⟨⟨_, rfl, HR.out⟩, H2⟩
          | false =>
            have HR := Lib.hid (of_decide_eq_false HB.out.symm)
            go_wp2
            go_roundw
            case rel => exact ⟨i + 1, by omega, by go_num, lt_step HN.out HR.out, H2⟩
            case measure => simp [intOf] <;> omega
    · obtain rfl : i = l.length := by omega
      have HH := Lib.hid (light_none HN.out)
      clear hc
      go_wp2
      go_ret
      exact ⟨⟨_, rfl, HH.out⟩, H⟩
end Go.Proofs.Ytknfpnifhpbojaa
