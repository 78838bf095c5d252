/- sets: a number's bit, all numbers below one, is a number in a set, the next one; seat: the allowed ones. -/
import Derived.Test.YtjdbgohfedjifaaDoorCnt
import Derived.Test.YtjdbgohfedjifaaDoorSetQ
import Derived.Laws.ShiftsVarLaws
import Derived.Laws.BitsAllLaws
namespace Go.Proofs.YtjdbgohfedjifaaDoor
open Go.RowKit Bosun
theorem bit_any (i : Int) (h0 : -9223372036854775808 ≤ i) (h1 : i ≤ 9223372036854775807) (w : World) :
    Calls Tryd.prog 82 #[.int .i64 i] w fun e w' => e = .returned (.int .u64 (bitN i : Nat)) ∧ w = w' := by
  by_cases h : 0 ≤ i ∧ i < 64
  · obtain ⟨k, rfl⟩ := Int.eq_ofNat_of_zero_le h.1
    have hk : k < 64 := by omega
    have e : bitN (k : Int) = 2 ^ k := by unfold bitN; rw [if_pos h, Int.toNat_natCast]
    rw [e]
    clear h e
    go_enter Tryd.func82, Tryd.ntmps82
    go_wp2_with fail
    go_ret
    refine ⟨ret_int ?_, rfl⟩
    have h2 : 2 ^ k ≤ 2 ^ 63 := Nat.pow_le_pow_right (by omega) (by omega)
    have h3 : (2 : Nat) ^ 63 = 9223372036854775808 := by decide
    rw [IntKind.wrap_u64, show ((2 : Int) ^ k) = ((2 ^ k : Nat) : Int) from by rw [Int.natCast_pow]; rfl]
    generalize (2 : Nat) ^ k = z at *
    omega
  · have e : bitN i = 0 := by unfold bitN; rw [if_neg h]
    rw [e]
    have g1 : 64 ≤ IntKind.u64.wrap i := by rw [IntKind.wrap_u64]; omega
    have g2 : decide (64 ≤ IntKind.u64.wrap i) = true := decide_eq_true g1
    clear h e
    go_enter Tryd.func82, Tryd.ntmps82
    go_wp2_with fail
    go_ret
    exact ⟨rfl, rfl⟩
theorem bitN_mid {n : Int} (h0 : 0 < n) (h1 : n < 64) : IntKind.u64.wrap ((bitN n : Nat) - 1) = (allBelow n : Nat) := by
  obtain ⟨k, rfl⟩ := Int.eq_ofNat_of_zero_le (show 0 ≤ n by omega)
  rw [allBelow_mid (by omega), show bitN (k : Int) = 2 ^ k from by unfold bitN; rw [if_pos (by omega), Int.toNat_natCast], IntKind.wrap_u64]
  have h2 : 2 ^ k ≤ 2 ^ 63 := Nat.pow_le_pow_right (by omega) (by omega)
  have h3 : (2 : Nat) ^ 63 = 9223372036854775808 := by decide
  have h4 : 0 < 2 ^ k := Nat.two_pow_pos _
  omega
theorem shas_any (s : Nat) (hs : s < 18446744073709551616) (i : Int) (h0 : -9223372036854775808 ≤ i) (h1 : i ≤ 9223372036854775807) (w : World) :
    Calls Tryd.prog 59 #[.int .u64 (s : Nat), .int .i64 i] w fun e w' => e = .returned (.bool (has s i)) ∧ w = w' := by
  have HB := Lib.hid (fun w => bit_any i h0 h1 w)
  have hl := bitN_lt i
  have hb := has_bit s i
  obtain ⟨z, hz⟩ : ∃ z, z = bitN i := ⟨_, rfl⟩
  rw [← hz] at HB hl hb
  have r1 : bits .and .u64 (s : Int) (z : Int) = ((s &&& z : Nat) : Int) := bits_and_u64_nat _ _ hs hl
  obtain ⟨y, hy⟩ : ∃ y, y = s &&& z := ⟨_, rfl⟩
  rw [← hy] at r1 hb
  have r2 : ((y : Int) != 0) = has s i := by
    cases hh : has s i with
    | true => have := hb.2 hh; simp; omega
    | false =>
      have : ¬ y ≠ 0 := fun h => by rw [hb.1 h] at hh; cases hh
      have : y = 0 := by omega
      subst this; rfl
  obtain ⟨b, hbb⟩ : ∃ b, b = has s i := ⟨_, rfl⟩
  rw [← hbb] at r2 ⊢
  clear hz hy hbb hb
  go_enter Tryd.func59, Tryd.ntmps59
  go_wp2_with (go_at_call 82; refine (HB.out _).mono ?_; rintro e w2 ⟨rfl, rfl⟩)
  go_ret
  exact ⟨rfl, rfl⟩
end Go.Proofs.YtjdbgohfedjifaaDoor
