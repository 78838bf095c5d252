/- kin: who is over, alive, left; of nil; the page's example. -/
import Derived.Test.YtiidlbicdkmloaaKin3
namespace Bosun
def leftS (c : Int → Option Nat) : Nat → Nat
  | 0 => 0
  | k + 1 => if (c k).isSome then leftS c k ||| bitN k else leftS c k
theorem leftS_lt (c : Int → Option Nat) : ∀ k, leftS c k < 18446744073709551616
  | 0 => by simp [leftS]
  | k + 1 => by
    unfold leftS
    split
    · exact Nat.or_lt_two_pow (n := 64) (leftS_lt c k) (bitN_lt k)
    · exact leftS_lt c k
end Bosun
namespace Go.Proofs.Ytiidlbicdkmloaa
open Go.RowKit Bosun Go.Maps
theorem Over_any (kb mb n al lo : Nat) (c : Int → Option Nat) (w : World) (h : IsKin w kb mb n al lo c) (z : Int) (h0 : -9223372036854775808 ≤ z) (h1 : z ≤ 9223372036854775807) :
    Calls Try.prog 11 #[.pointer (some ⟨kb, 0, none⟩), .int .i64 z] w fun e w' => e = .returned (.bool (c z).isSome) ∧ w = w' := by
  have HO := Lib.hid (over_any kb mb n al lo c w h z h0 h1)
  clear h
  go_enter Try.func11, Try.ntmps11
  go_wp2_with (go_at_call 21; refine HO.out.mono ?_; rintro e w1 ⟨rfl, rfl⟩)
  go_ret
  exact ⟨rfl, rfl⟩
theorem alive_any (kb mb n al lo : Nat) (c : Int → Option Nat) (w : World) (h : IsKin w kb mb n al lo c) :
    Calls Try.prog 8 #[.pointer (some ⟨kb, 0, none⟩)] w fun e w' => e = .returned (.int .u64 (al : Nat)) ∧ w = w' := by
  have c0 := h.c0
  clear h
  go_enter Try.func8, Try.ntmps8
  go_wp2_with fail
  go_ret
  exact ⟨rfl, rfl⟩
set_option maxHeartbeats 1000000 in
theorem left_any (kb mb n al lo : Nat) (c : Int → Option Nat) (w : World) (h : IsKin w kb mb n al lo c) :
    Calls Try.prog 10 #[.pointer (some ⟨kb, 0, none⟩)] w fun e w' => e = .returned (.int .u64 (leftS c 64 : Nat)) ∧ w = w' := by
  have HO := Lib.hid (fun (k : Nat) (hk : k < 64) => over_any kb mb n al lo c w h (k : Int) (by omega) (by omega))
  clear h
  go_enter Try.func10, Try.ntmps10
  go_wp2_with fail
  go_loopw [3, 8] (fun x3 x8 wr => ∃ k : Nat, k ≤ 64 ∧ x8 = .int .i64 k ∧ x3 = .int .u64 (leftS c k : Nat) ∧ w = wr) (fun _ x8 _ => 64 - (intOf x8).toNat)
  case atStart => exact ⟨0, by omega, rfl, rfl, rfl⟩
  case round =>
    obtain ⟨k, hk, rfl, rfl, rfl⟩ := hrel
    by_cases hk64 : k < 64
    · have HOK := Lib.hid (HO.out k hk64)
      have hn : leftS c (k + 1) = if (c k).isSome then leftS c k ||| bitN k else leftS c k := rfl
      have HWW := Lib.hid (swith_any (leftS c k) (leftS_lt c k) (k : Int) (by omega) (by omega))
      obtain ⟨q, hq⟩ : ∃ q, q = (c k).isSome := ⟨_, rfl⟩
      rw [← hq] at HOK hn
      have HN := Lib.hid hn
      clear hq hn
      cases q with
      | true =>
        go_wp2_with (first
          | (go_at_call 21; refine HOK.out.mono ?_; rintro e w1 ⟨rfl, rfl⟩)
          | (go_at_call 22; refine (HWW.out _).mono ?_; rintro e w1 ⟨rfl, rfl⟩))
        go_roundw
        case rel => exact ⟨k + 1, by omega, by go_num, by rw [HN.out]; rfl, trivial⟩
        case measure => simp [intOf] <;> omega
      | false =>
        go_wp2_with (go_at_call 21; refine HOK.out.mono ?_; rintro e w1 ⟨rfl, rfl⟩)
        go_roundw
        case rel => exact ⟨k + 1, by omega, by go_num, by rw [HN.out]; rfl, trivial⟩
        case measure => simp [intOf] <;> omega
    · obtain rfl : k = 64 := by omega
      go_wp2_with fail
      go_ret
      exact ⟨rfl, rfl⟩
theorem born_nil (z : Value) (b : Value) (w : World) : Calls Try.prog 14 #[.pointer none, z, b] w fun e w' => e = .returned (.bool false) ∧ w = w' := by
  go_enter Try.func14, Try.ntmps14
  go_wp2_with fail
  go_ret
  exact ⟨rfl, rfl⟩
theorem wrong_nil (z : Int) (b : Bool) (w : World) : Calls Try.prog 25 #[.pointer none, .int .i64 z, .bool b] w fun e w' => e = .returned (.int .i64 14) ∧ w = w' := by
  go_enter Try.func25, Try.ntmps25
  go_wp2_with fail
  go_ret
  exact ⟨rfl, rfl⟩
theorem exit_nil (z : Int) (x : Nat) (b : Bool) (w : World) : Calls Try.prog 15 #[.pointer none, .int .i64 z, .int .u64 (x : Nat), .bool b] w fun e w' => e = .returned (.tuple #[.bool false, .int .i64 14]) ∧ w = w' := by
  go_enter Try.func15, Try.ntmps15
  go_wp2_with fail
  refine (wrong_nil z true _).mono ?_
  rintro e w1 ⟨rfl, rfl⟩
  go_wp2_with fail
  go_ret2
  exact ⟨rfl, rfl⟩
theorem reap_nil (z : Int) (w : World) : Calls Try.prog 16 #[.pointer none, .int .i64 z] w fun e w' => e = .returned (.tuple #[.int .u64 0, .int .i64 14]) ∧ w = w' := by
  go_enter Try.func16, Try.ntmps16
  go_wp2_with fail
  refine (wrong_nil z false _).mono ?_
  rintro e w1 ⟨rfl, rfl⟩
  go_wp2_with fail
  go_ret2
  exact ⟨rfl, rfl⟩
theorem Over_nil (z : Value) (w : World) : Calls Try.prog 11 #[.pointer none, z] w fun e w' => e = .returned (.bool false) ∧ w = w' := by
  go_enter Try.func11, Try.ntmps11
  go_wp2_with fail
  go_ret
  exact ⟨rfl, rfl⟩
theorem alive_nil (w : World) : Calls Try.prog 8 #[.pointer none] w fun e w' => e = .returned (.int .u64 0) ∧ w = w' := by
  go_enter Try.func8, Try.ntmps8
  go_wp2_with fail
  go_ret
  exact ⟨rfl, rfl⟩
theorem left_nil (w : World) : Calls Try.prog 10 #[.pointer none] w fun e w' => e = .returned (.int .u64 0) ∧ w = w' := by
  go_enter Try.func10, Try.ntmps10
  go_wp2_with fail
  go_ret
  exact ⟨rfl, rfl⟩
set_option maxHeartbeats 2000000 in
theorem awake_any (w : World) :
    Calls Try.prog 13 #[] w fun e w' => e = .returned (.bool true) ∧ Chg [] w w' := by
  go_enter Try.func13, Try.ntmps13
  go_wp2_with fail
  refine (knew_any _).mono ?_
  rintro e w1 ⟨kb, mb, rfl, K1, C1, g1, g2⟩
  go_wp2_with fail
  refine (born_yes kb mb 0 0 0 _ _ K1 1 (by omega) (by omega) (by decide) rfl false).mono ?_
  rintro e w2 ⟨rfl, K2, C2⟩
  go_wp2_with fail
  refine (exit_yes kb mb 0 _ _ _ _ K2 1 (by omega) (by omega) 7 (by omega) false (by decide) (by omega)).mono ?_
  rintro e w3 ⟨rfl, K3, C3⟩
  go_wp2_with fail
  refine (reap_yes kb mb 1 _ _ _ _ K3 1 (by omega) (by omega) (by decide) 7 (by decide)).mono ?_
  rintro e w4 ⟨rfl, K4, C4⟩
  go_wp2_with fail
  refine (reap_no kb mb 1 _ _ _ _ K4 1 (by omega) (by omega) (by decide)).mono ?_
  rintro e w5 ⟨rfl, hw⟩
  subst hw
  go_wp2_with fail
  go_ret
  refine ⟨?_, ((C1.then C2 (fun g hg => .inr (by simp at hg; omega))).then C3 (fun g hg => .inr (by simp at hg; omega))).then C4 (fun g hg => .inr (by simp at hg; omega))⟩
  rfl
end Go.Proofs.Ytiidlbicdkmloaa
