/- kin: one call, of the program's and of the page's. -/
import Derived.Test.YtiidlbicdkmloaaKin5
import Derived.Deep.RegionHeld3
namespace Go.Proofs.Ytiidlbicdkmloaa
open Go.RowKit Bosun
/-- One result of both, and what becomes of both. -/
theorem born_both (kb mb rb n al lo : Nat) (c : Int → Option Nat) (S : Nat → K3) (hs : SimK al lo c S) (z : Int) (h0 : -9223372036854775808 ≤ z) (h1 : z ≤ 9223372036854775807) (loose : Bool) :
    ∃ (b : Bool) (al' lo' : Nat) (S' : Nat → K3), SimK al' lo' c S' ∧
      (∀ w, IsKin w kb mb n al lo c → Calls Try.prog 14 #[.pointer (some ⟨kb, 0, none⟩), .int .i64 z, .bool loose] w fun e w' => e = .returned (.bool b) ∧ IsKin w' kb mb n al' lo' c ∧ Chg [kb] w w') ∧
      (∀ w, IsRow w rb S → Calls Try.prog 17 #[.pointer (some ⟨rb, 0, none⟩), .int .i64 z, .bool loose] w fun e w' => e = .returned (.bool b) ∧ IsRow w' rb S' ∧ Chg [rb] w w') := by
  by_cases hz : 0 ≤ z ∧ z < 64
  · obtain ⟨k, rfl⟩ := Int.eq_ofNat_of_zero_le hz.1
    have hk : k < 64 := by omega
    have h2 := hs.st k hk
    by_cases e : (S k).st = 0
    · refine ⟨true, _, _, _, hs.born hk e loose, fun w h => (born_yes kb mb n al lo c w h k (by omega) (by omega) (by rw [hs.has hk, e]; rfl) (by rw [hs.codes k hk, e]; rfl) loose).mono fun e w' hh => hh, fun w h => rborn_yes rb S k hk loose w h e⟩
    · refine ⟨false, al, lo, S, hs, fun w h => (born_no kb mb n al lo c w h k h0 h1 (.inr ?_) loose).mono ?_, fun w h => (rborn_no rb S k loose w h (.inr (by simpa using e))).mono ?_⟩
      · rw [hs.has hk, hs.codes k hk]
        rcases (show (S k).st = 1 ∨ (S k).st = 2 by omega) with e | e <;> simp [e]
      · rintro e w' ⟨rfl, rfl⟩
        exact ⟨rfl, h, Chg.refl _ _⟩
      · rintro e w' ⟨rfl, rfl⟩
        exact ⟨rfl, h, Chg.refl _ _⟩
  · refine ⟨false, al, lo, S, hs, fun w h => (born_no kb mb n al lo c w h z h0 h1 (.inl hz) loose).mono ?_, fun w h => (rborn_no rb S z loose w h (.inl hz)).mono ?_⟩
    · rintro e w' ⟨rfl, rfl⟩
      exact ⟨rfl, h, Chg.refl _ _⟩
    · rintro e w' ⟨rfl, rfl⟩
      exact ⟨rfl, h, Chg.refl _ _⟩
theorem updK_none {c : Int → Option Nat} {k : Int} (h : c k = none) : updK c k none = c := by
  funext y; unfold updK; split
  · rename_i e; rw [e, h]
  · rfl
theorem wrongR_zero {S : Nat → K3} {z : Int} {s : Nat} (h : wrongR S z s = 0) : ∃ k : Nat, z = k ∧ k < 64 ∧ (S k).st = s := by
  unfold wrongR at h
  by_cases hz : 0 ≤ z ∧ z < 64
  · obtain ⟨k, rfl⟩ := Int.eq_ofNat_of_zero_le hz.1
    rw [if_neg (fun e => e hz)] at h
    simp only [Int.toNat_natCast] at h
    refine ⟨k, rfl, by omega, ?_⟩
    by_cases e0 : (S k).st = 0
    · rw [if_pos e0] at h; omega
    · rw [if_neg e0] at h
      by_cases e1 : (S k).st = s
      · exact e1
      · rw [if_pos e1] at h; omega
  · rw [if_pos hz] at h; omega
theorem reap_both (kb mb rb n al lo : Nat) (c : Int → Option Nat) (S : Nat → K3) (hs : SimK al lo c S) (z : Int) (h0 : -9223372036854775808 ≤ z) (h1 : z ≤ 9223372036854775807) :
    ∃ (x : Nat) (q : Int) (c' : Int → Option Nat) (S' : Nat → K3), SimK al lo c' S' ∧
      (∀ w, IsKin w kb mb n al lo c → Calls Try.prog 16 #[.pointer (some ⟨kb, 0, none⟩), .int .i64 z] w fun e w' => e = .returned (.tuple #[.int .u64 (x : Nat), .int .i64 q]) ∧ IsKin w' kb mb n al lo c' ∧ Chg [mb] w w') ∧
      (∀ w, IsRow w rb S → Calls Try.prog 18 #[.pointer (some ⟨rb, 0, none⟩), .int .i64 z] w fun e w' => e = .returned (.tuple #[.int .u64 (x : Nat), .int .i64 q]) ∧ IsRow w' rb S' ∧ Chg [rb] w w') := by
  have hst : 0 ≤ z → z < 64 → (S z.toNat).st ≤ 2 := fun a b => hs.st _ (by omega)
  have e2 := hs.wrong2 z
  by_cases hw : wrongR S z 2 = 0
  · obtain ⟨k, rfl, hk, h2⟩ := wrongR_zero hw
    have hc : c k = some (S k).cd := by rw [hs.codes k hk, if_pos h2]
    exact ⟨(S k).cd, 0, _, _, hs.gone hk al (.inl rfl) (fun _ => by omega) none (by simp) _ rfl, fun w h => reap_yes kb mb n al lo c w h k h0 h1 (by rw [e2, hw]) _ hc, fun w h => rreap_yes rb S k hk w h h2⟩
  · refine ⟨0, wrongR S z 2, c, S, hs, fun w h => (reap_no kb mb n al lo c w h z h0 h1 (by rw [e2]; exact hw)).mono ?_, fun w h => (rreap_no rb S z w h hst hw).mono ?_⟩
    · rintro e w' ⟨rfl, rfl⟩
      exact ⟨by rw [e2]; rfl, h, Chg.refl _ _⟩
    · rintro e w' ⟨rfl, rfl⟩
      exact ⟨rfl, h, Chg.refl _ _⟩
theorem exit_both (kb mb rb n al lo : Nat) (c : Int → Option Nat) (S : Nat → K3) (hs : SimK al lo c S) (z : Int) (h0 : -9223372036854775808 ≤ z) (h1 : z ≤ 9223372036854775807) (code : Nat) (hcode : code < 18446744073709551616) (joined : Bool) (hn : n < 1000000) :
    ∃ (b : Bool) (q : Int) (al' : Nat) (c' : Int → Option Nat) (S' : Nat → K3), SimK al' lo c' S' ∧
      (∀ w, IsKin w kb mb n al lo c → Calls Try.prog 15 #[.pointer (some ⟨kb, 0, none⟩), .int .i64 z, .int .u64 (code : Nat), .bool joined] w fun e w' => e = .returned (.tuple #[.bool b, .int .i64 q]) ∧ IsKin w' kb mb (n + 1) al' lo c' ∧ Chg [kb, mb] w w') ∧
      (∀ w, IsRow w rb S → Calls Try.prog 19 #[.pointer (some ⟨rb, 0, none⟩), .int .i64 z, .int .u64 (code : Nat), .bool joined] w fun e w' => e = .returned (.tuple #[.bool b, .int .i64 q]) ∧ IsRow w' rb S' ∧ Chg [rb] w w') := by
  have hst : 0 ≤ z → z < 64 → (S z.toNat).st ≤ 2 := fun a b => hs.st _ (by omega)
  have e1 := hs.wrong1 z
  by_cases hw : wrongR S z 1 = 0
  · obtain ⟨k, rfl, hk, h2⟩ := wrongR_zero hw
    have hc : c k = none := by rw [hs.codes k hk, if_neg (by omega)]
    have hl : (lo &&& bitN k != 0) = (S k).lo := by rw [and_bitN lo k hk]; exact hs.loose k hk h2
    have hy := fun w h => exit_yes kb mb n al lo c w h k h0 h1 code hcode joined (by rw [e1, hw]) hn
    have hr := fun w h => rexit_yes rb S k hk code joined w h h2
    rw [hl, Bool.or_comm] at hy
    by_cases hj : ((S k).lo || joined) = true
    · rw [hj] at hy hr
      simp only [if_true] at hy hr
      have hg := hs.gone hk (lessN al k) (.inr rfl) (fun e => by
        have := hs.alive k hk
        rw [← e] at this
        unfold lessN at this
        rw [lessN_testBit al k hk hs.alt] at this
        simp at this
        exact this) none (by simp) _ rfl
      rw [updK_none hc] at hg
      exact ⟨_, _, _, _, _, hg, hy, hr⟩
    · have hj' : ((S k).lo || joined) = false := by simpa using hj
      rw [hj'] at hy hr
      simp only [Bool.false_eq_true, if_false] at hy hr
      have hg := hs.gone hk (lessN al k) (.inr rfl) (fun e => by
        have := hs.alive k hk
        rw [← e] at this
        unfold lessN at this
        rw [lessN_testBit al k hk hs.alt] at this
        simp at this
        exact this) (some code) (fun y hy => by cases hy; exact hcode) _ rfl
      exact ⟨_, _, _, _, _, hg, hy, hr⟩
  · refine ⟨false, wrongR S z 1, al, c, S, hs, fun w h => (exit_no kb mb n al lo c w h z h0 h1 code joined (by rw [e1]; exact hw)).mono ?_, fun w h => (rexit_no rb S z code joined w h hst hw).mono ?_⟩
    · rintro e w' ⟨rfl, rfl⟩
      exact ⟨by rw [e1], ⟨h.head, by obtain ⟨D, h1, h2⟩ := h.codes; exact ⟨D, h1.mono (by omega), h2⟩, h.ne, h.al, h.lo⟩, Chg.refl _ _⟩
    · rintro e w' ⟨rfl, rfl⟩
      exact ⟨rfl, h, Chg.refl _ _⟩
end Go.Proofs.Ytiidlbicdkmloaa
