/- sets: how many members; the least one. -/
import Derived.Test.YtjdbgohfedjifaaDoorSets1
import Derived.Test.YtjdbgohfedjifaaDoorSetP
import Derived.Laws.Bits64b
import Derived.IntWalk
import Derived.Shelf.Spec.TrailingZeros
namespace Bosun
open Go
theorem bits_and_i64_nat (a b : Nat) (ha : a < 9223372036854775808) (hb : b < 9223372036854775808) : bits .and .i64 (a : Int) (b : Int) = ((a &&& b : Nat) : Int) := by
  have hx : a &&& b < 2 ^ 63 := Nat.and_lt_two_pow _ (by omega)
  have h1 : (BitVec.ofInt 64 (a : Int)).toNat = a := by
    rw [BitVec.ofInt_natCast, BitVec.toNat_ofNat]; exact Nat.mod_eq_of_lt (by omega)
  have h2 : (BitVec.ofInt 64 (b : Int)).toNat = b := by
    rw [BitVec.ofInt_natCast, BitVec.toNat_ofNat]; exact Nat.mod_eq_of_lt (by omega)
  show IntKind.i64.wrap ((BitVec.ofInt 64 (a : Int) &&& BitVec.ofInt 64 (b : Int)).toNat : Int) = _
  rw [BitVec.toNat_and, h1, h2, IntKind.wrap_i64]
  omega
theorem cnt_r1 {x : Nat} (h : x < 18446744073709551616) (h1 : pop1 x < 18446744073709551616) : IntKind.u64.wrap (bits .and .u64 ((x : Int) / 2) 6148914691236517205 + bits .and .u64 (x : Int) 6148914691236517205) = (pop1 x : Nat) := by
  rw [show ((x : Int) / 2) = ((x / 2 : Nat) : Int) from by omega, show (6148914691236517205 : Int) = ((6148914691236517205 : Nat) : Int) from rfl, bits_and_u64_nat _ _ (by omega) (by omega), bits_and_u64_nat _ _ h (by omega), IntKind.wrap_u64]
  unfold pop1 at *
  omega
theorem cnt_r2 {x : Nat} (h : x < 18446744073709551616) (h1 : pop2 x < 18446744073709551616) : IntKind.u64.wrap (bits .and .u64 ((x : Int) / 4) 3689348814741910323 + bits .and .u64 (x : Int) 3689348814741910323) = (pop2 x : Nat) := by
  rw [show ((x : Int) / 4) = ((x / 4 : Nat) : Int) from by omega, show (3689348814741910323 : Int) = ((3689348814741910323 : Nat) : Int) from rfl, bits_and_u64_nat _ _ (by omega) (by omega), bits_and_u64_nat _ _ h (by omega), IntKind.wrap_u64]
  unfold pop2 at *
  omega
theorem cnt_r3 {x : Nat} (h : x / 16 + x < 18446744073709551616) : bits .and .u64 (IntKind.u64.wrap ((x : Int) / 16 + (x : Int))) 1085102592571150095 = (pop3 x : Nat) := by
  rw [show IntKind.u64.wrap ((x : Int) / 16 + (x : Int)) = ((x / 16 + x : Nat) : Int) from by rw [IntKind.wrap_u64]; omega, show (1085102592571150095 : Int) = ((1085102592571150095 : Nat) : Int) from rfl, bits_and_u64_nat _ _ (by omega) (by omega)]
  rfl
end Bosun
namespace Go.Proofs.YtjdbgohfedjifaaDoor
open Go.RowKit Bosun
/-- The table lies where the program keeps it. -/
abbrev TabW (w : World) : Prop := TabAt 0 Lib.deBruijn64tab w
theorem TabW.keep {w w' : World} (h : TabW w) (C : Chg [] w w') : TabW w' := fun j hj => (World.cell?_of_block (C.block _ (World.block_lt_of_cell? _ _ (h j hj)) (by simp))).trans (h j hj)
set_option maxHeartbeats 1000000 in
theorem tz_any (x : Nat) (h0 : x ≠ 0) (hx : x < 18446744073709551616) (w : World) (hT : TabW w) :
    Calls Tryd.prog 61 #[.int .u64 (x : Nat)] w fun e w' => e = .returned (.int .i64 (Lib.ctz 64 x : Nat)) ∧ w = w' := by
  obtain ⟨hlow, hk⟩ := Lib.lowest_bit 64 x h0 hx
  obtain ⟨hi, htab⟩ := Lib.deBruijn64_at _ hk
  have hcell := hT _ hi
  rw [htab] at hcell
  have key := tz64_key x _ hx h0 hlow
  have hx0 : ((x : Int) == 0) = false := by simp; omega
  obtain ⟨k, hke⟩ : ∃ k, k = Lib.ctz 64 x := ⟨_, rfl⟩
  rw [← hke] at hcell key hk hi ⊢
  obtain ⟨idx, hidx⟩ : ∃ idx, idx = 2 ^ k * 285870213051353865 % 18446744073709551616 / 288230376151711744 := ⟨_, rfl⟩
  rw [← hidx] at hcell key hi
  have i0 : (0 : Int) ≤ (idx : Int) := by omega
  have i1 : (idx : Int) < 64 := by omega
  clear hlow htab hke hidx hT h0
  go_enter Tryd.func61, Tryd.ntmps61
  go_wp2_with (simp only [key])
  go_ret
  exact ⟨rfl, rfl⟩
theorem least_any (x : Nat) (hx : x < 18446744073709551616) (w : World) (hT : TabW w) :
    Calls Tryd.prog 42 #[.int .u64 (x : Nat)] w fun e w' => e = .returned (.int .i64 (leastI x)) ∧ w = w' := by
  by_cases h0 : x = 0
  · subst h0
    rw [leastI_zero]
    clear hx hT
    go_enter Tryd.func42, Tryd.ntmps42
    go_wp2_with fail
    go_ret
    exact ⟨rfl, rfl⟩
  · have HZ := Lib.hid (tz_any x h0 hx w hT)
    rw [leastI_low h0 hx]
    have hx0 : ((x : Int) == 0) = false := by simp; omega
    obtain ⟨k, hke⟩ : ∃ k, k = Lib.ctz 64 x := ⟨_, rfl⟩
    rw [← hke] at HZ ⊢
    clear hke hT h0
    go_enter Tryd.func42, Tryd.ntmps42
    go_wp2_with (go_at_call 61; refine HZ.out.mono ?_; rintro e w2 ⟨rfl, rfl⟩)
    go_ret
    exact ⟨rfl, rfl⟩
end Go.Proofs.YtjdbgohfedjifaaDoor
