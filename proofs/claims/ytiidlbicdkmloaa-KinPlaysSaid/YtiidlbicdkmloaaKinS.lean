/- sets: a number's bit; a set with it, without it; is it in? -/
import Derived.Test.YtiidlbicdkmloaaProg
import Derived.Test.YtiidlbicdkmloaaBase
import Derived.KernelRfl
import Derived.Lib.Hide
import Derived.IntWalk
import Derived.Laws.Bits64b
import Derived.Laws.BitsAllLaws
namespace Bosun
/-- A number's bit; 0: no set may have it. -/
def bitN (i : Int) : Nat := if 0 ≤ i ∧ i < 64 then 2 ^ i.toNat else 0
theorem bitN_in {i : Nat} (h : i < 64) : bitN i = 2 ^ i := by unfold bitN; rw [if_pos (by omega)]; simp
theorem bitN_out {i : Int} (h : ¬ (0 ≤ i ∧ i < 64)) : bitN i = 0 := if_neg h
theorem bitN_lt (i : Int) : bitN i < 18446744073709551616 := by
  unfold bitN; split
  · have : i.toNat < 64 := by omega
    exact Nat.lt_of_lt_of_le (Nat.pow_lt_pow_right (by omega) this) (by decide)
  · omega
end Bosun
namespace Go.Proofs.Ytiidlbicdkmloaa
open Go.RowKit Bosun
theorem sbit_any (i : Int) (h0 : -9223372036854775808 ≤ i) (h1 : i ≤ 9223372036854775807) (w : World) :
    Calls Try.prog 29 #[.int .i64 i] w fun e w' => e = .returned (.int .u64 (bitN i : Nat)) ∧ w = w' := by
  by_cases h : 0 ≤ i ∧ i < 64
  · obtain ⟨n, rfl⟩ := Int.eq_ofNat_of_zero_le h.1
    have hn : n < 64 := by omega
    rw [bitN_in hn]
    clear h h0 h1
    have e : IntKind.u64.wrap ((2 : Int) ^ n) = ((2 ^ n : Nat) : Int) := by
      rw [IntKind.wrap_u64]
      have h2 := bitN_lt n
      rw [bitN_in hn] at h2
      have e2 : ((2 : Int) ^ n) = ((2 ^ n : Nat) : Int) := by simp
      rw [e2]
      generalize 2 ^ n = z at h2 ⊢
      omega
    have HE := Lib.hid e
    clear e
    go_enter Try.func29, Try.ntmps29
    go_wp2_with fail
    go_ret
    exact ⟨ret_int HE.out, rfl⟩
  · rw [bitN_out h]
    have e : IntKind.u64.wrap i = i % 18446744073709551616 := IntKind.wrap_u64 i
    have e2 : decide (64 ≤ i % 18446744073709551616) = true := by simp; omega
    clear h
    go_enter Try.func29, Try.ntmps29
    go_wp2_with fail
    go_ret
    exact ⟨rfl, rfl⟩
/-- Is a number in a set? -/
theorem shas_any (s : Nat) (hs : s < 18446744073709551616) (i : Int) (h0 : -9223372036854775808 ≤ i) (h1 : i ≤ 9223372036854775807) (w : World) :
    Calls Try.prog 23 #[.int .u64 (s : Nat), .int .i64 i] w fun e w' => e = .returned (.bool (s &&& bitN i != 0)) ∧ w = w' := by
  have HB := Lib.hid (fun w => sbit_any i h0 h1 w)
  have hb := bitN_lt i
  obtain ⟨b, hbb⟩ : ∃ b, b = bitN i := ⟨_, rfl⟩
  rw [← hbb] at HB hb ⊢
  have eb : bits .and .u64 (s : Int) (b : Int) = ((s &&& b : Nat) : Int) := bits_and_u64_nat s b hs hb
  have HE := Lib.hid eb
  clear hbb h0 h1 eb
  go_enter Try.func23, Try.ntmps23
  go_wp2_with fail
  refine (HB.out _).mono ?_
  rintro e w1 ⟨rfl, rfl⟩
  go_wp2_with fail
  go_ret
  exact ⟨ret_bool (by rw [HE.out]; cases hq : (s &&& b != 0) <;> simp at hq ⊢ <;> omega), rfl⟩
theorem swith_any (s : Nat) (hs : s < 18446744073709551616) (i : Int) (h0 : -9223372036854775808 ≤ i) (h1 : i ≤ 9223372036854775807) (w : World) :
    Calls Try.prog 22 #[.int .u64 (s : Nat), .int .i64 i] w fun e w' => e = .returned (.int .u64 (s ||| bitN i : Nat)) ∧ w = w' := by
  have HB := Lib.hid (fun w => sbit_any i h0 h1 w)
  have hb := bitN_lt i
  obtain ⟨b, hbb⟩ : ∃ b, b = bitN i := ⟨_, rfl⟩
  rw [← hbb] at HB hb ⊢
  have eb : bits .or .u64 (s : Int) (b : Int) = ((s ||| b : Nat) : Int) := bits_or_u64_nat s b hs hb
  have HE := Lib.hid eb
  clear hbb h0 h1 eb
  go_enter Try.func22, Try.ntmps22
  go_wp2_with fail
  refine (HB.out _).mono ?_
  rintro e w1 ⟨rfl, rfl⟩
  go_wp2_with fail
  go_ret
  exact ⟨ret_int HE.out, rfl⟩
theorem swithout_any (s : Nat) (hs : s < 18446744073709551616) (i : Int) (h0 : -9223372036854775808 ≤ i) (h1 : i ≤ 9223372036854775807) (w : World) :
    Calls Try.prog 24 #[.int .u64 (s : Nat), .int .i64 i] w fun e w' => e = .returned (.int .u64 (s &&& (18446744073709551615 - bitN i) : Nat)) ∧ w = w' := by
  have HB := Lib.hid (fun w => sbit_any i h0 h1 w)
  have hb := bitN_lt i
  obtain ⟨b, hbb⟩ : ∃ b, b = bitN i := ⟨_, rfl⟩
  rw [← hbb] at HB hb ⊢
  have eb : bits .andNot .u64 (s : Int) (b : Int) = ((s &&& (18446744073709551615 - b) : Nat) : Int) := u64_andNot_nat s b hs hb
  have HE := Lib.hid eb
  clear hbb h0 h1 eb
  go_enter Try.func24, Try.ntmps24
  go_wp2_with fail
  refine (HB.out _).mono ?_
  rintro e w1 ⟨rfl, rfl⟩
  go_wp2_with fail
  go_ret
  exact ⟨ret_int HE.out, rfl⟩
end Go.Proofs.Ytiidlbicdkmloaa
