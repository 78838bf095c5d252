/- sets: With, Without (as XSet4 has them). -/
import Derived.Test.YtjdbgohfedjifaaDoorSt
import Derived.Deep.QuietTactic
import Derived.BigQuiet
namespace Bosun
open Go
theorem bitN_testBit (i : Int) (j : Nat) : (bitN i).testBit j = (decide (j < 64) && decide ((j : Int) = i)) := by
  unfold bitN
  by_cases h : 0 ≤ i ∧ i < 64
  · rw [if_pos h, Nat.testBit_two_pow]
    by_cases e : (j : Int) = i
    · simp [e]; omega
    · have : ¬ i.toNat = j := by omega
      simp [e, this]
  · rw [if_neg h, Nat.zero_testBit]
    symm
    simp; omega
theorem or_bit {s : Nat} (hs : s < 18446744073709551616) (i : Int) : s ||| bitN i = put s i true := by
  apply Nat.eq_of_testBit_eq
  intro j
  rw [Nat.testBit_or, bitN_testBit, put_testBit]
  by_cases hj : j < 64
  · by_cases e : (j : Int) = i <;> simp [hj, e]
  · simp [hj, bits_above hs (show 64 ≤ j by omega)]
theorem andNot_bit {s : Nat} (hs : s < 18446744073709551616) (i : Int) : s &&& (18446744073709551615 - bitN i) = put s i false := by
  have hb : bitN i < 2 ^ 64 := by simpa using bitN_lt i
  apply Nat.eq_of_testBit_eq
  intro j
  rw [Nat.testBit_and, show 18446744073709551615 - bitN i = 2 ^ 64 - (bitN i + 1) from by omega, Nat.testBit_two_pow_sub_succ hb, bitN_testBit, put_testBit]
  by_cases hj : j < 64
  · by_cases e : (j : Int) = i <;> simp [hj, e]
  · simp [hj]
theorem members_fold_lt (l : List Int) : l.foldl (fun s i => put s i true) 0 < 18446744073709551616 := by
  rcases List.eq_nil_or_concat l with h | ⟨l', i, h⟩
  · rw [h]; decide
  · rw [h, List.concat_eq_append, List.foldl_append]; exact put_lt _ _ _
end Bosun
namespace Go.Proofs.YtjdbgohfedjifaaDoor
open Go.RowKit Bosun
theorem with_any (s : Nat) (hs : s < 18446744073709551616) (i : Int) (h0 : -9223372036854775808 ≤ i) (h1 : i ≤ 9223372036854775807) (w : World) :
    Calls Tryd.prog 80 #[.int .u64 (s : Nat), .int .i64 i] w fun e w' => e = .returned (.int .u64 (put s i true : Nat)) ∧ w = w' := by
  have HB := Lib.hid (fun w => bit_any i h0 h1 w)
  have hl := bitN_lt i
  rw [← or_bit hs i]
  obtain ⟨z, hz⟩ : ∃ z, z = bitN i := ⟨_, rfl⟩
  rw [← hz] at HB hl ⊢
  have r1 : bits .or .u64 (s : Int) (z : Int) = ((s ||| z : Nat) : Int) := bits_or_u64_nat _ _ hs hl
  obtain ⟨y, hy⟩ : ∃ y, y = s ||| z := ⟨_, rfl⟩
  rw [← hy] at r1 ⊢
  clear hz hy
  go_enter Tryd.func80, Tryd.ntmps80
  go_wp2_with (go_at_call 82; refine (HB.out _).mono ?_; rintro e w2 ⟨rfl, rfl⟩)
  go_ret
  exact ⟨rfl, rfl⟩
theorem without_any (s : Nat) (hs : s < 18446744073709551616) (i : Int) (h0 : -9223372036854775808 ≤ i) (h1 : i ≤ 9223372036854775807) (w : World) :
    Calls Tryd.prog 79 #[.int .u64 (s : Nat), .int .i64 i] w fun e w' => e = .returned (.int .u64 (put s i false : Nat)) ∧ w = w' := by
  have HB := Lib.hid (fun w => bit_any i h0 h1 w)
  have hl := bitN_lt i
  have hp := andNot_bit hs i
  obtain ⟨y, hy⟩ : ∃ y, y = put s i false := ⟨_, rfl⟩
  rw [← hy] at hp ⊢
  obtain ⟨z, hz⟩ : ∃ z, z = bitN i := ⟨_, rfl⟩
  rw [← hz] at HB hl hp
  have r1 : bits .andNot .u64 (s : Int) (z : Int) = (y : Nat) := by rw [u64_andNot_nat _ _ hs hl, hp]
  clear hz hy hp
  go_enter Tryd.func79, Tryd.ntmps79
  go_wp2_with (go_at_call 82; refine (HB.out _).mono ?_; rintro e w2 ⟨rfl, rfl⟩)
  go_ret
  exact ⟨rfl, rfl⟩
end Go.Proofs.YtjdbgohfedjifaaDoor
