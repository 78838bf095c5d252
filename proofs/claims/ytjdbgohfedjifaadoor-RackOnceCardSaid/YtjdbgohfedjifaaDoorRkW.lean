/- rack: the document's Hold and Words. -/
import Derived.Test.YtjdbgohfedjifaaDoorRkB
namespace Bosun
theorem hold_end : ∀ n, n < 257 → ∀ j, j < 9 → 2 ^ j ≤ n → n < 2 ^ (j + 1) → Nat.log2 n = j := fun n _ j _ h1 h2 => by
  have hn : n ≠ 0 := by
    have := Nat.two_pow_pos j; omega
  exact (Nat.log2_eq_iff hn).2 ⟨h1, h2⟩
end Bosun
namespace Go.Proofs.YtjdbgohfedjifaaDoor
open Go.RowKit Bosun
set_option maxRecDepth 100000 in
set_option maxHeartbeats 1000000 in
theorem rhold_any (c : Int) (_h0 : -9223372036854775808 ≤ c) (_h1 : c ≤ 9223372036854775807) (w : World) :
    Calls Tryd.prog 32 #[.int .i64 c] w fun e w' => e = .returned (.int .i64 (holdN c : Nat)) ∧ w = w' := by
  have hr := clampN_range c
  have HE := Lib.hid (fun j (hj : j < 9) h1 h2 => hold_end (clampN c) (by omega) j hj h1 h2)
  have HN := Lib.hid (show holdN c = 2 ^ Nat.log2 (clampN c) from rfl)
  obtain ⟨r, hre⟩ : ∃ r, r = holdN c := ⟨_, rfl⟩
  rw [← hre] at HN ⊢
  have HCL := Lib.hid (show (clampN c : Int) = min (max c 1) 256 by unfold clampN; omega)
  obtain ⟨n, hn⟩ : ∃ n, n = clampN c := ⟨_, rfl⟩
  rw [← hn] at HE HN HCL hr
  clear hre hn
  go_enter Tryd.func32, Tryd.ntmps32
  go_wp2_with fail
  go_loopw [3] (fun x wr => ∃ p : Nat, x = .int .i64 (p : Nat) ∧ 1 ≤ p ∧ p ≤ 256 ∧ Hid (∃ j, j < 9 ∧ p = 2 ^ j ∧ p ≤ n) ∧ w = wr)
    (fun x _ => 256 - (intOf x).toNat)
  case atStart => exact ⟨1, rfl, by omega, by omega, Lib.hid ⟨0, by omega, rfl, hr.1⟩, rfl⟩
  case round =>
    obtain ⟨p, rfl, hp1, hp2, HJ, rfl⟩ := hrel
    have wm : IntKind.i64.wrap ((p : Int) * 2) = (p : Int) * 2 := by rw [IntKind.wrap_i64]; omega
    by_cases h256 : p < 256
    · by_cases hle : (p : Int) * 2 ≤ c
      · go_wp2_with fail
        go_roundw
        case rel =>
          refine ⟨p * 2, by go_num, by omega, ?_, Lib.hid ?_, by trivial⟩
          · obtain ⟨j, hj, hpj, hpn⟩ := HJ.out
            have hj8 : j < 8 := by
              rcases Nat.lt_or_ge j 8 with h | h
              · exact h
              · obtain rfl : j = 8 := by omega
                rw [hpj] at h256; exact absurd h256 (by decide)
            have : 2 ^ (j + 1) ≤ 2 ^ 8 := Nat.pow_le_pow_right (by decide) (by omega)
            rw [Nat.pow_succ, ← hpj] at this
            omega
          · obtain ⟨j, hj, hpj, hpn⟩ := HJ.out
            have hj8 : j < 8 := by
              rcases Nat.lt_or_ge j 8 with h | h
              · exact h
              · obtain rfl : j = 8 := by omega
                rw [hpj] at h256; exact absurd h256 (by decide)
            have h8 : 2 ^ (j + 1) ≤ 2 ^ 8 := Nat.pow_le_pow_right (by decide) (by omega)
            rw [Nat.pow_succ, ← hpj] at h8
            have hcl := HCL.out
            exact ⟨j + 1, by omega, by rw [Nat.pow_succ, ← hpj], by omega⟩
        case measure => simp [intOf] <;> omega
      · have hR := Lib.hid (show r = p by
          obtain ⟨j, hj, hpj, hpn⟩ := HJ.out
          have hcl := HCL.out
          rw [HN.out, HE.out j hj (by omega) (by rw [Nat.pow_succ, ← hpj]; omega), hpj])
        have d1 : decide ((p : Int) * 2 ≤ c) = false := decide_eq_false hle
        go_wp2_with fail
        go_ret
        exact ⟨ret_int (by rw [hR.out]), rfl⟩
    · obtain rfl : p = 256 := by omega
      have hR := Lib.hid (show r = 256 by
        obtain ⟨j, hj, hpj, hpn⟩ := HJ.out
        rw [HN.out, HE.out j hj (by omega) (by rw [Nat.pow_succ, ← hpj]; omega), hpj])
      go_wp2_with fail
      go_ret
      exact ⟨ret_int (by rw [hR.out]), rfl⟩
theorem refwords_any (c : Int) (h0 : -9223372036854775808 ≤ c) (h1 : c ≤ 9223372036854775807) (w : World) :
    Calls Tryd.prog 8 #[.int .i64 c] w fun e w' => e = .returned (.int .i64 (1 + 16 * (2 + (holdN c : Nat)))) ∧ w = w' := by
  have HL := Lib.hid (fun w => rhold_any c h0 h1 w)
  have hl := (holdN_pow2 c).le
  obtain ⟨n, hn⟩ : ∃ n, n = holdN c := ⟨_, rfl⟩
  rw [← hn] at HL hl ⊢
  clear h0 h1 hn
  go_enter Tryd.func8, Tryd.ntmps8
  go_wp2_with fail
  refine (HL.out _).mono ?_
  rintro e w1 ⟨rfl, rfl⟩
  go_wp2_with fail
  go_ret
  exact ⟨rfl, rfl⟩
end Go.Proofs.YtjdbgohfedjifaaDoor
