/- seat: Legal, Pinned, May, Target. -/
import Derived.Test.YtalnokbfffhhnaaDoorSeat3
namespace Go.Proofs.YtalnokbfffhhnaaDoor
open Go.RowKit Bosun
theorem legal_any (m : Nat) (hm : m < 18446744073709551616) (n : Int) (h0 : -9223372036854775808 ≤ n) (h1 : n ≤ 9223372036854775807) (w : World) :
    Calls Tryd.prog 19 #[.int .u64 (m : Nat), .int .i64 n] w fun e w' => e = .returned (.bool (decide (0 < (lst m n).length))) ∧ w = w' := by
  have HA := Lib.hid (fun w => allowed_any m hm n h0 h1 w)
  have hsl : (m &&& allBelow n) < 18446744073709551616 := Nat.lt_of_le_of_lt Nat.and_le_left hm
  have hz := members_nil_iff hsl
  unfold lst
  obtain ⟨s, hs⟩ : ∃ s, s = m &&& allBelow n := ⟨_, rfl⟩
  rw [← hs] at HA hsl hz ⊢
  have r2 : ((s : Int) != 0) = decide (0 < (members s).length) := by
    by_cases hq : s = 0
    · rw [hz.2 hq, hq]; rfl
    · have : members s ≠ [] := fun h => hq (hz.1 h)
      have : 0 < (members s).length := List.length_pos_iff.2 this
      rw [decide_eq_true this]; simp; omega
  obtain ⟨b, hb⟩ : ∃ b, b = decide (0 < (members s).length) := ⟨_, rfl⟩
  rw [← hb] at r2 ⊢
  clear hs hz hb
  go_enter Tryd.func19, Tryd.ntmps19
  go_wp2_with (go_at_call 17; refine (HA.out _).mono ?_; rintro e w2 ⟨rfl, rfl⟩)
  go_ret
  exact ⟨rfl, rfl⟩
theorem pinned_any (m : Nat) (hm : m < 18446744073709551616) (n : Int) (h0 : -9223372036854775808 ≤ n) (h1 : n ≤ 9223372036854775807) (w : World) :
    Calls Tryd.prog 20 #[.int .u64 (m : Nat), .int .i64 n] w fun e w' => e = .returned (.bool (decide ((lst m n).length = 1))) ∧ w = w' := by
  have HA := Lib.hid (fun w => allowed_any m hm n h0 h1 w)
  have hsl : (m &&& allBelow n) < 18446744073709551616 := Nat.lt_of_le_of_lt Nat.and_le_left hm
  unfold lst
  obtain ⟨s, hs⟩ : ∃ s, s = m &&& allBelow n := ⟨_, rfl⟩
  rw [← hs] at HA hsl ⊢
  have HC := Lib.hid (fun w => count_any s hsl w)
  obtain ⟨k, hk⟩ : ∃ k, k = (members s).length := ⟨_, rfl⟩
  rw [← hk] at HC ⊢
  have r2 : ((k : Int) == 1) = decide (k = 1) := by
    by_cases h : k = 1
    · subst h; rfl
    · rw [decide_eq_false h]; simp; omega
  obtain ⟨b, hb⟩ : ∃ b, b = decide (k = 1) := ⟨_, rfl⟩
  rw [← hb] at r2 ⊢
  clear hs hk hb
  go_enter Tryd.func20, Tryd.ntmps20
  go_wp2_with (first
    | (go_at_call 17; refine (HA.out _).mono ?_; rintro e w2 ⟨rfl, rfl⟩)
    | (go_at_call 30; refine (HC.out _).mono ?_; rintro e w2 ⟨rfl, rfl⟩))
  go_ret
  exact ⟨rfl, rfl⟩
theorem may_any (m : Nat) (hm : m < 18446744073709551616) (n : Int) (h0 : -9223372036854775808 ≤ n) (h1 : n ≤ 9223372036854775807) (c : Int) (c0 : -9223372036854775808 ≤ c) (c1 : c ≤ 9223372036854775807) (w : World) :
    Calls Tryd.prog 21 #[.int .u64 (m : Nat), .int .i64 n, .int .i64 c] w fun e w' => e = .returned (.bool (has (m &&& allBelow n) c)) ∧ w = w' := by
  have HA := Lib.hid (fun w => allowed_any m hm n h0 h1 w)
  have hsl : (m &&& allBelow n) < 18446744073709551616 := Nat.lt_of_le_of_lt Nat.and_le_left hm
  obtain ⟨s, hs⟩ : ∃ s, s = m &&& allBelow n := ⟨_, rfl⟩
  rw [← hs] at HA hsl ⊢
  have HC := Lib.hid (fun w => shas_any s hsl c c0 c1 w)
  obtain ⟨b, hb⟩ : ∃ b, b = has s c := ⟨_, rfl⟩
  rw [← hb] at HC ⊢
  clear hs hb
  go_enter Tryd.func21, Tryd.ntmps21
  go_wp2_with (first
    | (go_at_call 17; refine (HA.out _).mono ?_; rintro e w2 ⟨rfl, rfl⟩)
    | (go_at_call 31; refine (HC.out _).mono ?_; rintro e w2 ⟨rfl, rfl⟩))
  go_ret
  exact ⟨rfl, rfl⟩
theorem target_any (m : Nat) (hm : m < 18446744073709551616) (n : Int) (h0 : -9223372036854775808 ≤ n) (h1 : n ≤ 9223372036854775807) (c : Int) (c0 : -9223372036854775808 ≤ c) (c1 : c ≤ 9223372036854775807) (w : World) (hT : TabW w) :
    Calls Tryd.prog 7 #[.int .u64 (m : Nat), .int .i64 n, .int .i64 c] w fun e w' => e = .returned (.int .i64 (nextI (m &&& allBelow n) (homeI n c))) ∧ w = w' := by
  have HA := Lib.hid (allowed_any m hm n h0 h1 w)
  have hsl : (m &&& allBelow n) < 18446744073709551616 := Nat.lt_of_le_of_lt Nat.and_le_left hm
  obtain ⟨s, hs⟩ : ∃ s, s = m &&& allBelow n := ⟨_, rfl⟩
  rw [← hs] at HA hsl ⊢
  have HC := Lib.hid (fun c a b => next_any s hsl c a b w hT)
  clear hs hT
  by_cases hc0 : c < 0
  · have e : homeI n c = 0 := by unfold homeI; rw [if_pos (.inl hc0)]
    have HN := Lib.hid (HC.out 0 (by decide) (by decide))
    rw [e]
    obtain ⟨q, hq⟩ : ∃ q, q = nextI s 0 := ⟨_, rfl⟩
    rw [← hq] at HN ⊢
    clear e hq HC
    go_enter Tryd.func7, Tryd.ntmps7
    go_wp2_with (first
      | (go_at_call 17; refine HA.out.mono ?_; rintro e w2 ⟨rfl, rfl⟩)
      | (go_at_call 22; refine HN.out.mono ?_; rintro e w2 ⟨rfl, rfl⟩))
    go_ret
    exact ⟨rfl, rfl⟩
  · by_cases hc1 : n ≤ c
    · have e : homeI n c = 0 := by unfold homeI; rw [if_pos (.inr hc1)]
      have HN := Lib.hid (HC.out 0 (by decide) (by decide))
      rw [e]
      obtain ⟨q, hq⟩ : ∃ q, q = nextI s 0 := ⟨_, rfl⟩
      rw [← hq] at HN ⊢
      clear e hq HC
      go_enter Tryd.func7, Tryd.ntmps7
      go_wp2_with (first
        | (go_at_call 17; refine HA.out.mono ?_; rintro e w2 ⟨rfl, rfl⟩)
        | (go_at_call 22; refine HN.out.mono ?_; rintro e w2 ⟨rfl, rfl⟩))
      go_ret
      exact ⟨rfl, rfl⟩
    · have e : homeI n c = c := by unfold homeI; rw [if_neg (by omega)]
      have HN := Lib.hid (HC.out c c0 c1)
      rw [e]
      obtain ⟨q, hq⟩ : ∃ q, q = nextI s c := ⟨_, rfl⟩
      rw [← hq] at HN ⊢
      clear e hq HC
      go_enter Tryd.func7, Tryd.ntmps7
      go_wp2_with (first
        | (go_at_call 17; refine HA.out.mono ?_; rintro e w2 ⟨rfl, rfl⟩)
        | (go_at_call 22; refine HN.out.mono ?_; rintro e w2 ⟨rfl, rfl⟩))
      go_ret
      exact ⟨rfl, rfl⟩
end Go.Proofs.YtalnokbfffhhnaaDoor
