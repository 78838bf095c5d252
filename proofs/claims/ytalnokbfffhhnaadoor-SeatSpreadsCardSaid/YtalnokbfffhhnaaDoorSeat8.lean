/- seat: Spread. -/
import Derived.Test.YtalnokbfffhhnaaDoorSeat7
namespace Bosun
open Go
theorem leastI_range (s : Nat) : -1 ≤ leastI s ∧ leastI s ≤ 63 := by
  unfold leastI
  cases h : members s with
  | nil => simp
  | cons a t =>
    have := (members_mem (s := s) (a := a) (by rw [h]; simp)).1
    simp only []; omega
theorem nextI_range (s : Nat) (i : Int) : -1 ≤ nextI s i ∧ nextI s i ≤ 63 := by unfold nextI; split <;> exact leastI_range _
/-- The home at the k-th step of a spread. -/
def homeAt (s : Nat) : Nat → Int
  | 0 => 0
  | k + 1 => nextI s (homeAt s k) + 1
theorem homeAt_range (s : Nat) (k : Nat) : 0 ≤ homeAt s k ∧ homeAt s k ≤ 64 := by
  cases k with
  | zero => simp [homeAt]
  | succ k => have := nextI_range s (homeAt s k); simp only [homeAt]; omega
def spr (s c : Nat) : List Int := if s = 0 then [] else (List.range c).map fun k => nextI s (homeAt s k)
end Bosun
namespace Go.Proofs.YtalnokbfffhhnaaDoor
open Go.RowKit Bosun
set_option maxHeartbeats 400000 in
theorem clamp_any (x lo hi : Int) (w : World) :
    Calls Tryd.prog 27 #[.int .i64 x, .int .i64 lo, .int .i64 hi] w fun e w' => e = .returned (.int .i64 (if x < lo then lo else min x hi)) ∧ w = w' := by
  by_cases h : x < lo
  · rw [if_pos h]
    go_enter Tryd.func27, Tryd.ntmps27
    go_wp2
    go_ret
    exact ⟨rfl, rfl⟩
  · rw [if_neg h]
    have m1 : min x hi = if hi < x then hi else x := by split <;> omega
    have M1 := Lib.hid m1
    clear m1
    go_enter Tryd.func27, Tryd.ntmps27
    go_wp2_with (refine wpList_min rfl (.tmp 11) _ _ _ rfl .i64 x hi (min x hi) rfl rfl M1.out ?_)
    go_ret
    exact ⟨rfl, rfl⟩
set_option maxHeartbeats 1000000 in
theorem spread_any (m : Nat) (hm : m < 18446744073709551616) (n : Int) (h0 : -9223372036854775808 ≤ n) (h1 : n ≤ 9223372036854775807) (t : Int) (c : Nat) (hcl : (if t < 0 then (0 : Int) else min t 64) = (c : Nat)) (w : World) (hT : TabW w) :
    Calls Tryd.prog 14 #[.int .u64 (m : Nat), .int .i64 n, .int .i64 t] w fun e w' => ∃ v, e = .returned v ∧ Reads w' v (ints (spr (m &&& allBelow n) c)) ∧ Chg [] w w' := by
  have HA := Lib.hid (allowed_any m hm n h0 h1 w)
  have hsl : (m &&& allBelow n) < 18446744073709551616 := Nat.lt_of_le_of_lt Nat.and_le_left hm
  obtain ⟨s, hs⟩ : ∃ s, s = m &&& allBelow n := ⟨_, rfl⟩
  rw [← hs] at HA hsl ⊢
  clear hs
  have HCL := Lib.hid hcl
  have hc64 : c ≤ 64 := by split at hcl <;> omega
  clear hcl
  by_cases hz : s = 0
  · subst hz
    go_enter Tryd.func14, Tryd.ntmps14
    go_wp2_with (go_at_call 17; refine HA.out.mono ?_; rintro e w2 ⟨rfl, rfl⟩)
    go_ret
    exact ⟨_, rfl, by unfold spr; rw [if_pos rfl]; exact Reads.nil _ _ _, Chg.refl _ _⟩
  · have hz' : ((s : Int) == 0) = false := beq_eq_false_iff_ne.2 (by omega)
    have HSP := Lib.hid (show spr s c = (List.range c).map fun k => nextI s (homeAt s k) by unfold spr; rw [if_neg hz])
    have HTW := Lib.hid hT
    clear hT hz
    go_enter Tryd.func14, Tryd.ntmps14
    go_wp2_with (first
      | (go_at_call 17; refine HA.out.mono ?_; rintro e w2 ⟨rfl, rfl⟩)
      | (go_at_call 27; refine (clamp_any _ _ _ _).mono ?_; rw [HCL.out]; rintro e w2 ⟨rfl, rfl⟩)
      | (refine wpList_make1 rfl (.tmp 17) (.tmp 17) 26 rfl 3 (.int .i64 0) 8 Tryd.underlying26 infoInt rfl .i64 .i64 c rfl rfl (by omega) (by omega) ?_; intro w1 H1 H2 H3))
    have hwp : 0 < w.heap.size := World.block_lt_of_cell? w _ (HTW.out 0 (by decide))
    go_loopw [9, 10, 21] (fun h _ i wr => ∃ k : Nat, k ≤ c ∧ i = .int .i64 k ∧ h = .int .i64 (homeAt s k) ∧ (∃ cells : Array Value, Blk wr w.heap.size cells 3 ∧ cells.size = c ∧ Hid (∀ j, j < k → cells[j]? = some (.int .i64 (nextI s (homeAt s j))))) ∧ Chg [] w wr)
      (fun _ _ i _ => c - (intOf i).toNat)
    case atStart => exact ⟨0, by omega, rfl, rfl, ⟨_, H1, by simp, Lib.hid (fun j hj => by omega)⟩, H2⟩
    case round =>
      obtain ⟨k, hk, rfl, rfl, ⟨cells, HB, hs, HC⟩, H⟩ := hrel
      have HS := Lib.hid hs
      by_cases hkc : k < c
      · obtain ⟨x0, hx⟩ : ∃ x0, wr.cell? ⟨w.heap.size, k, none⟩ = some x0 := ⟨_, by rw [HB.cell, Array.getElem?_eq_getElem (by omega)]⟩
        have hfz := HB.frozen k
        have hr := homeAt_range s k
        have hnr := nextI_range s (homeAt s k)
        have HN := Lib.hid (next_any s hsl (homeAt s k) (by omega) (by omega) wr (TabW.below hwp H.below HTW.out))
        have HH := Lib.hid (show homeAt s (k + 1) = nextI s (homeAt s k) + 1 from rfl)
        have HC' := Lib.hid HC.out
        obtain ⟨y, hy⟩ : ∃ y, y = nextI s (homeAt s k) := ⟨_, rfl⟩
        rw [← hy] at HN HH hnr
        have HY := Lib.hid hy
        clear hs hy
        have hcs := World.cell?_setCell_same' wr ⟨w.heap.size, k, none⟩ (.int .i64 y) (by rw [hx]; rfl)
        go_wp2_with (go_at_call 22; refine HN.out.mono ?_; rintro e w4 ⟨rfl, rfl⟩)
        go_roundw
        case rel =>
          refine ⟨k + 1, by omega, by go_num, by rw [HH.out], ⟨_, HB.setCell k _, by simp [HS.out], Lib.hid (fun j hj => ?_)⟩, H.setCell (.inr (by simp)) _⟩
          rw [Array.getElem?_setIfInBounds]
          by_cases hjk : k = j
          · subst hjk; rw [if_pos rfl, if_pos (by rw [HS.out]; omega), ← HY.out]
          · rw [if_neg hjk]; exact HC.out j (by omega)
        case measure => simp [intOf] <;> omega
      · obtain rfl : k = c := by omega
        clear hs
        go_wp2
        go_ret
        refine ⟨_, rfl, HB.reads k k (by rw [HS.out]; exact Nat.le_refl _) (by rw [HS.out]; unfold maxLen; omega) ?_, H⟩
        rw [HSP.out]
        apply List.ext_getElem?
        intro j
        by_cases hj : j < k
        · have e : cells.toList[j]? = some (.int .i64 (nextI s (homeAt s j))) := (Array.getElem?_toList ..).trans (HC.out j hj)
          rw [List.getElem?_take, if_pos hj, e]
          simp [ints, hj]
        · rw [List.getElem?_take, if_neg hj]
          simp [ints]; omega
end Go.Proofs.YtalnokbfffhhnaaDoor
