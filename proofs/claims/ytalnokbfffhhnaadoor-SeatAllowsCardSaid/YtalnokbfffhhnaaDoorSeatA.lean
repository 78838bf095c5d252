/- seat: the plain law and the walk of SeatAllows. -/
import Derived.Test.YtalnokbfffhhnaaDoorSeatT
namespace Bosun
open Go
theorem fold_put : ∀ (l : List Nat) (s0 : Nat) (_ : s0 < 18446744073709551616) (j : Nat), ((l.map fun i => ((i : Nat) : Int)).foldl (fun s i => put s i true) s0).testBit j = (decide (j < 64) && (s0.testBit j || decide (j ∈ l)))
  | [], s0, h, j => by
    by_cases hj : j < 64
    · simp [hj]
    · simp [hj, bits_above h (show 64 ≤ j by omega)]
  | a :: l, s0, h, j => by
    rw [List.map_cons, List.foldl_cons, fold_put l _ (put_lt _ _ _) j, put_testBit]
    by_cases hj : j < 64
    · by_cases ha : j = a
      · subst ha; simp [hj]
      · have : ¬ ((j : Int) = (a : Int)) := by omega
        simp [hj, ha, this]
    · simp [hj]
theorem lst_of (m : Nat) (n : Int) (hm : m < 18446744073709551616) : ((lst m n).map fun i => ((i : Nat) : Int)).foldl (fun s i => put s i true) 0 = m &&& allBelow n := by
  have hsl : (m &&& allBelow n) < 18446744073709551616 := Nat.lt_of_le_of_lt Nat.and_le_left hm
  apply Nat.eq_of_testBit_eq
  intro j
  rw [fold_put _ _ (by decide)]
  unfold lst
  generalize m &&& allBelow n = s at *
  by_cases hj : j < 64
  · have e : (j ∈ members s) ↔ s.testBit j = true := by unfold members; simp [hj]
    cases hb : s.testBit j <;> simp [hj, e, hb]
  · simp [hj, bits_above hsl (show 64 ≤ j by omega)]
theorem lst_has (m : Nat) (n c : Int) : has (m &&& allBelow n) c = decide (∃ i ∈ lst m n, ((i : Nat) : Int) = c) := by
  unfold lst
  generalize m &&& allBelow n = s
  apply Bool.eq_iff_iff.2
  rw [decide_eq_true_iff]
  unfold has members
  constructor
  · intro h
    simp only [Bool.and_eq_true, decide_eq_true_eq] at h
    exact ⟨c.toNat, by simp [h.2.2]; omega, by omega⟩
  · rintro ⟨i, hi, rfl⟩
    have := List.mem_filter.1 hi
    have h64 := List.mem_range.1 this.1
    simp [this.2]; omega
end Bosun
namespace Go.Proofs.YtalnokbfffhhnaaDoor
open Go.RowKit Bosun
set_option maxHeartbeats 2000000 in
theorem seatAllows_walk (w : World) (hT : TabW w) (m : Nat) (hm : m < 18446744073709551616) (n : Int) (h0 : -9223372036854775808 ≤ n) (h1 : n ≤ 9223372036854775807) (c : Int) (c0 : -9223372036854775808 ≤ c) (c1 : c ≤ 9223372036854775807) :
    Calls Tryd.prog 6 #[.int .u64 (m : Nat), .int .i64 n, .int .i64 c] w fun e w' => e = .returned (.bool true) ∧ Chg [] w w' := by
  have hwp : 0 < w.heap.size := World.block_lt_of_cell? w _ (hT 0 (by decide))
  have hle := lst_le m n
  have hlt : ∀ i ∈ (lst m n).map (fun i => ((i : Nat) : Int)), -9223372036854775808 ≤ i ∧ i ≤ 9223372036854775807 := fun i hi => by
    obtain ⟨a, ha, rfl⟩ := List.mem_map.1 hi
    have := lst_lt ha; omega
  have HO := Lib.hid (fun v w (hr : Reads w v (nats (lst m n))) => of_any v _ hlt w (by rw [← nats_ints]; exact hr))
  rw [lst_of m n hm] at HO
  have HA := Lib.hid (fun w => allowed_any m hm n h0 h1 w)
  have HG := Lib.hid (fun w => legal_any m hm n h0 h1 w)
  have HP := Lib.hid (fun w => pinned_any m hm n h0 h1 w)
  have HY := Lib.hid (fun w => may_any m hm n h0 h1 c c0 c1 w)
  rw [lst_has] at HY
  have HM := Lib.hid (fun w => rmay_any m hm n c w)
  have HL := Lib.hid (fun w => rlist_any' m hm n w)
  have HW := Lib.hid (fun w1 (H : Chg [] w w1) => awake_any w1 (TabW.below hwp H.below hT))
  obtain ⟨b, hb⟩ : ∃ b, b = decide (∃ i ∈ lst m n, ((i : Nat) : Int) = c) := ⟨_, rfl⟩
  rw [← hb] at HY HM
  obtain ⟨L, hL⟩ : ∃ L, L = lst m n := ⟨_, rfl⟩
  rw [← hL] at HO HG HP HL hle
  obtain ⟨k, hk⟩ : ∃ k, k = L.length := ⟨_, rfl⟩
  rw [← hk] at HG HP HL hle
  obtain ⟨s, hs⟩ : ∃ s, s = m &&& allBelow n := ⟨_, rfl⟩
  rw [← hs] at HO HA
  have q1 : decide ((0 : Int) < (k : Int)) = decide (0 < k) := by apply decide_eq_decide.2; omega
  have q2 : ((k : Int) == 1) = decide (k = 1) := by
    apply Bool.eq_iff_iff.2; simp; omega
  obtain ⟨g, hg⟩ : ∃ g, g = decide (0 < k) := ⟨_, rfl⟩
  rw [← hg] at HG q1
  obtain ⟨p, hp⟩ : ∃ p, p = decide (k = 1) := ⟨_, rfl⟩
  rw [← hp] at HP q2
  have q3 : decide (0 < k) = g := hg.symm
  clear hb hk hs hT hlt hg hp hL
  go_enter Tryd.func6, Tryd.ntmps6
  go_wp2_with (first
    | (go_at_call 11; refine (HL.out _).mono ?_; rintro e w1 ⟨ao, cp, rfl, hr, H1⟩; have OF := Lib.hid (HO.out _ w1 hr))
    | (go_at_call 17; refine (HA.out _).mono ?_; rintro e w2 ⟨rfl, rfl⟩)
    | (go_at_call 18; refine OF.out.mono ?_; rintro e w3 ⟨rfl, H3⟩)
    | (go_at_call 19; refine (HG.out _).mono ?_; rintro e w4 ⟨rfl, rfl⟩)
    | (go_at_call 20; refine (HP.out _).mono ?_; rintro e w4 ⟨rfl, rfl⟩)
    | (go_at_call 21; refine (HY.out _).mono ?_; rintro e w4 ⟨rfl, rfl⟩)
    | (go_at_call 10; refine (HM.out _).mono ?_; rintro e w5 ⟨rfl, H5⟩; have W5 := Lib.hid (HW.out _ ((H1.trans H3).trans H5)))
    | (go_at_call 9; refine W5.out.mono ?_; rintro e w6 ⟨rfl, H6⟩))
  go_ret
  exact ⟨rfl, ((H1.trans H3).trans H5).trans H6⟩
end Go.Proofs.YtalnokbfffhhnaaDoor
