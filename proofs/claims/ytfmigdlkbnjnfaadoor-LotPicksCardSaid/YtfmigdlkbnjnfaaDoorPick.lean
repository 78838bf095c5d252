/- lot: a member that a number draws; another processor, the document's. -/
import Derived.Test.YtfmigdlkbnjnfaaDoorCnt
import Derived.Test.YtfmigdlkbnjnfaaDoorLot3
namespace Go.Proofs.YtfmigdlkbnjnfaaDoor
open Go.RowKit Bosun
set_option maxHeartbeats 1000000 in
theorem member_any (d : Nat) (hd : d < 18446744073709551616) (s : Nat) (hs : s < 18446744073709551616) (w : World) (hT : TabW w) :
    Calls Tryd.prog 6 #[.int .u64 (d : Nat), .int .u64 (s : Nat)] w fun e w' => e = .returned (.int .i64 (memberI d s)) ∧ w = w' := by
  have HC := Lib.hid (fun w => count_any s hs w)
  have HTW := Lib.hid hT
  obtain ⟨l, hl⟩ : ∃ l, l = members s := ⟨_, rfl⟩
  have hl64 : l.length ≤ 64 := by rw [hl]; exact members_le s
  obtain ⟨q, hq⟩ : ∃ q : Nat, q = if l.length = 0 then 0 else d % l.length := ⟨_, rfl⟩
  have hq2 : l.length ≠ 0 → q < l.length := fun h => by rw [hq, if_neg h]; exact Nat.mod_lt _ (Nat.pos_of_ne_zero h)
  have hq3 : q < 64 := by
    by_cases h : l.length = 0
    · rw [hq, if_pos h]; omega
    · have := hq2 h; omega
  have hp : pickI (d : Int) (l.length : Nat) = (q : Nat) := by
    unfold pickI
    by_cases h : l.length = 0
    · rw [hq, if_pos h, if_pos (by omega)]; rfl
    · rw [hq, if_neg h, if_neg (by omega)]; simp
  have hres : ∀ s', members s' = l.drop q → leastI s' = memberI d s := fun s' h => by
    unfold memberI
    rw [← hl]
    by_cases h0 : l.length = 0
    · rw [if_pos h0]
      have : l = [] := List.eq_nil_of_length_eq_zero h0
      unfold leastI
      rw [h, this]; simp
    · rw [if_neg h0, drop_least (hq2 h0) h]
      have : q = d % l.length := by rw [hq, if_neg h0]
      subst this
      simp [List.getD, hq2 h0]
  have HQ0 := Lib.hid (show l.length = 0 → q = 0 from fun h => by rw [hq, if_pos h])
  have HRES := Lib.hid hres
  have HP := Lib.hid hp
  have HQ2 := Lib.hid hq2
  rw [← hl] at HC
  have HL := Lib.hid hl
  clear hres hp hq hl hT hq2
  go_enter Tryd.func6, Tryd.ntmps6
  go_wp2_with (first
    | (go_at_call 11; refine (HC.out _).mono ?_; rintro e w2 ⟨rfl, rfl⟩)
    | (go_at_call 4; refine (pick_any _ _ (by omega) (by omega) (by omega) _).mono ?_; rw [HP.out]; rintro e w2 ⟨rfl, rfl⟩))
  go_loopw [1, 5] (fun x1 x5 wr => ∃ (j k s' : Nat), j + k = q ∧ s' < 18446744073709551616 ∧ x5 = .int .i64 (k : Nat) ∧ x1 = .int .u64 (s' : Nat) ∧ Hid (members s' = l.drop j) ∧ w = wr) (fun _ x5 _ => (intOf x5).toNat)
  case atStart => exact ⟨0, q, s, by omega, hs, rfl, rfl, Lib.hid (by rw [List.drop_zero]; exact HL.out.symm), rfl⟩
  case round =>
    obtain ⟨j, k, s', hjk, hs', rfl, rfl, HM, rfl⟩ := hrel
    by_cases hk : 0 < k
    · have hjl : j < l.length := by
        by_cases h : l.length = 0
        · have := HQ0.out h; omega
        · have := HQ2.out h; omega
      obtain ⟨n0, nm⟩ := drop_turn hjl hs' HM
      obtain ⟨s1, hs1⟩ : ∃ s1, s1 = s' - 1 := ⟨_, rfl⟩
      obtain ⟨z, hz⟩ : ∃ z, z = s' &&& (s' - 1) := ⟨_, rfl⟩
      have r1 : IntKind.u64.wrap ((s' : Int) - 1) = (s1 : Nat) := by rw [IntKind.wrap_u64]; omega
      have r2 : bits .and .u64 (s' : Int) (s1 : Int) = (z : Nat) := by rw [bits_and_u64_nat _ _ hs' (by omega), hz, hs1]
      have e1 : ((s' : Int) - 1) = (s1 : Nat) := by omega
      have r3 : bits .and .u64 (s' : Int) ((s' : Int) - 1) = (z : Nat) := by rw [e1]; exact r2
      have hzl : z < 18446744073709551616 := by rw [hz]; exact Nat.lt_of_le_of_lt Nat.and_le_left hs'
      rw [← hz] at nm
      have NM := Lib.hid nm
      clear nm hz hs1 e1 HM
      go_wp2_with fail
      go_roundw
      case rel => exact ⟨j + 1, k - 1, z, by omega, hzl, by go_num, rfl, NM, by trivial⟩
      case measure => simp [intOf] <;> omega
    · obtain rfl : k = 0 := by omega
      obtain rfl : j = q := by omega
      have HR := Lib.hid (HRES.out s' HM)
      have HLE := Lib.hid (least_any s' hs' w HTW.out)
      rw [HR.out] at HLE
      clear HM
      go_wp2_with (go_at_call 12; refine HLE.out.mono ?_; rintro e w2 ⟨rfl, rfl⟩)
      go_ret
      exact ⟨rfl, rfl⟩
set_option maxHeartbeats 1000000 in
theorem rvictim_any (d self n : Int) (hd0 : 0 ≤ d) (hd : d ≤ 18446744073709551615) (hs : -9223372036854775808 ≤ self) (hs2 : self ≤ 9223372036854775807)
    (hn1 : -9223372036854775808 ≤ n) (hn2 : n ≤ 9223372036854775807) (w : World) :
    Calls Tryd.prog 10 #[.int .u64 d, .int .i64 self, .int .i64 n] w fun e w' => e = .returned (.int .i64 (victimI d self n)) ∧ w = w' := by
  by_cases hc : n < 2 ∨ self < 0 ∨ n ≤ self
  · have e : victimI d self n = -1 := by unfold victimI; rw [if_pos hc]
    have E := Lib.hid e
    clear e
    go_enter Tryd.func10, Tryd.ntmps10
    by_cases h1 : n < 2
    · go_wp2
      go_ret
      exact ⟨ret_int E.out.symm, rfl⟩
    · by_cases h2 : self < 0
      · go_wp2
        go_ret
        exact ⟨ret_int E.out.symm, rfl⟩
      · have h3 : n ≤ self := by omega
        go_wp2
        go_ret
        exact ⟨ret_int E.out.symm, rfl⟩
  · have h1 := Int.emod_nonneg d (show n - 1 ≠ 0 by omega)
    have h2 := Int.emod_lt_of_pos d (show 0 < n - 1 by omega)
    have hp : pickI d (n - 1) = d % (n - 1) := by unfold pickI; rw [if_neg (by omega)]
    obtain ⟨q, hq⟩ : ∃ q : Nat, d % (n - 1) = (q : Int) := ⟨(d % (n - 1)).toNat, by omega⟩
    rw [hq] at hp h1 h2
    have hv : victimI d self n = if (q : Int) < n - 1 - self then self + 1 + q else q - (n - 1 - self) := by unfold victimI; rw [if_neg hc, hq]
    have HP := Lib.hid hp
    have HV := Lib.hid hv
    have n2 : ¬ n < 2 := fun h => hc (.inl h)
    have s0 : ¬ self < 0 := fun h => hc (.inr (.inl h))
    have sn : ¬ n ≤ self := fun h => hc (.inr (.inr h))
    clear hp hv hq hc
    go_enter Tryd.func10, Tryd.ntmps10
    go_wp2_with (go_at_call 5; refine (rpick_any _ _ (by omega) (by omega) (by omega) _).mono ?_; rw [HP.out]; rintro e w2 ⟨rfl, rfl⟩)
    go_loopw [7, 8] (fun x7 x8 wr => ∃ j : Nat, j ≤ q + 1 ∧ x8 = .int .i64 ((q : Int) - j) ∧ x7 = .int .i64 (if self + j < n then self + j else self + j - n) ∧ w = wr) (fun _ x8 _ => (intOf x8 + 1).toNat)
    case atStart => exact ⟨0, by omega, by simp, by rw [if_pos (by omega)]; simp, rfl⟩
    case round =>
      obtain ⟨j, hj, rfl, rfl, rfl⟩ := hrel
      obtain ⟨a, ha⟩ : ∃ a : Int, a = if self + j < n then self + j else self + j - n := ⟨_, rfl⟩
      rw [← ha]
      by_cases hjq : j ≤ q
      · have a0 : 0 ≤ a ∧ a < n := by rw [ha]; split <;> omega
        have hnx : (if self + ((j + 1 : Nat) : Int) < n then self + ((j + 1 : Nat) : Int) else self + ((j + 1 : Nat) : Int) - n) = if a + 1 = n then 0 else a + 1 := by
          rw [ha]; split <;> split <;> split <;> omega
        have HNX := Lib.hid hnx
        clear ha hnx
        by_cases hw : a + 1 = n
        · have hw' : (a + 1 == n) = true := by simpa using hw
          go_wp2_with fail
          go_roundw
          case rel => exact ⟨j + 1, by omega, by congr 1; omega, by rw [HNX.out, if_pos hw], by trivial⟩
          case measure => simp [intOf] <;> omega
        · have hw' : (a + 1 == n) = false := by simpa using hw
          go_wp2_with fail
          go_roundw
          case rel => exact ⟨j + 1, by omega, by congr 1; omega, by rw [HNX.out, if_neg hw], by trivial⟩
          case measure => simp [intOf] <;> omega
      · obtain rfl : j = q + 1 := by omega
        have HE := Lib.hid (show a = victimI d self n by rw [HV.out, ha]; split <;> split <;> omega)
        clear ha
        go_wp2_with fail
        go_ret
        exact ⟨ret_int HE.out, rfl⟩
end Go.Proofs.YtfmigdlkbnjnfaaDoor
