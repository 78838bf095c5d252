/- seat: the plain law and the walk of SeatTargets. -/
import Derived.Test.YtalnokbfffhhnaaDoorSeat9
namespace Bosun
open Go
theorem lst_mem {m : Nat} {n : Int} {a : Nat} (h : a ∈ lst m n) : (a : Int) < n := by
  rw [lst_eq] at h
  unfold membersTo at h
  exact (limN_in (List.mem_range.1 (List.mem_filter.1 h).1)).1
theorem lst_sorted (m : Nat) (n : Int) : (lst m n).Pairwise (· < ·) := by
  unfold lst members
  exact List.Pairwise.filter _ List.pairwise_lt_range
theorem tgt_home {m : Nat} {n c : Int} (h : ∃ i ∈ lst m n, ((i : Nat) : Int) = c) : rtgt (lst m n) n c = c := by
  obtain ⟨i, hi, he⟩ := h
  have hn := lst_mem hi
  have hs := lst_sorted m n
  obtain ⟨k, hk, rfl⟩ := List.mem_iff_getElem.1 hi
  rw [rtgt_some (k := k) (by omega) hk (by omega) (fun j hj hjk => by
    have := List.pairwise_iff_getElem.1 hs j k hj hk hjk; omega), he]
theorem tgt_in (L : List Nat) (n c : Int) (h : L ≠ []) : ∃ i ∈ L, ((i : Nat) : Int) = rtgt L n c := by
  cases L with
  | nil => exact absurd rfl h
  | cons a L' =>
    unfold rtgt; simp only []
    split
    · cases hq : (a :: L').find? (fun x : Nat => decide (c ≤ (x : Int))) with
      | some x => exact ⟨x, List.mem_of_find?_eq_some hq, rfl⟩
      | none => exact ⟨a, List.mem_cons_self .., rfl⟩
    · exact ⟨a, List.mem_cons_self .., rfl⟩
end Bosun
namespace Go.Proofs.YtalnokbfffhhnaaDoor
open Go.RowKit Bosun
set_option maxHeartbeats 2000000 in
theorem seatTargets_walk (w : World) (hT : TabW w) (m : Nat) (hm : m < 18446744073709551616) (n : Int) (h0 : -9223372036854775808 ≤ n) (h1 : n ≤ 9223372036854775807) (c : Int) (c0 : -9223372036854775808 ≤ c) (c1 : c ≤ 9223372036854775807) :
    Calls Tryd.prog 3 #[.int .u64 (m : Nat), .int .i64 n, .int .i64 c] w fun e w' => e = .returned (.bool true) ∧ Chg [] w w' := by
  have hwp : 0 < w.heap.size := World.block_lt_of_cell? w _ (hT 0 (by decide))
  have A1 := target_any m hm n h0 h1 c c0 c1 w hT
  rw [next_is m n c hm] at A1
  have HA := Lib.hid A1
  have HB := Lib.hid (fun w => rtarget_any m hm n c w)
  have HW := Lib.hid (fun w1 (H : Chg [] w w1) => awake_any w1 (TabW.below hwp H.below hT))
  have HM := Lib.hid (fun c w => rmay_any m hm n c w)
  have HL := Lib.hid (fun w => rlist_any' m hm n w)
  have F1 := @tgt_home m n c
  have F2 := tgt_in (lst m n) n c
  have F3 : lst m n = [] → rtgt (lst m n) n c = -1 := fun h => by rw [h]; rfl
  obtain ⟨L, hL⟩ : ∃ L, L = lst m n := ⟨_, rfl⟩
  rw [← hL] at HA HB HM HL F1 F2 F3
  obtain ⟨q, hq⟩ : ∃ q, q = rtgt L n c := ⟨_, rfl⟩
  rw [← hq] at HA HB F1 F2 F3
  clear hL hq A1 hT
  have HM1 := Lib.hid (HM.out c)
  have HM2 := Lib.hid (HM.out q)
  by_cases hin : ∃ i ∈ L, ((i : Nat) : Int) = c
  · have hqc := F1 hin
    subst hqc
    rw [decide_eq_true hin] at HM1
    clear F1 F2 F3 hin HM HM2
    go_enter Tryd.func3, Tryd.ntmps3
    go_wp2_with (first
      | (go_at_call 7; refine HA.out.mono ?_; rintro e w1 ⟨rfl, rfl⟩)
      | (go_at_call 8; refine (HB.out _).mono ?_; rintro e w2 ⟨rfl, H2⟩; have W2 := Lib.hid (HW.out w2 H2))
      | (go_at_call 9; refine W2.out.mono ?_; rintro e w3 ⟨rfl, H3⟩)
      | (go_at_call 10; refine (HM1.out _).mono ?_; rintro e w4 ⟨rfl, H4⟩))
    go_ret
    exact ⟨rfl, (H2.trans H3).trans H4⟩
  · rw [decide_eq_false hin] at HM1
    clear F1 hin HM
    by_cases hz : L = []
    · have hqc := F3 hz
      subst hz hqc
      clear F2 F3 HM2
      go_enter Tryd.func3, Tryd.ntmps3
      go_wp2_with (first
        | (go_at_call 7; refine HA.out.mono ?_; rintro e w1 ⟨rfl, rfl⟩)
        | (go_at_call 8; refine (HB.out _).mono ?_; rintro e w2 ⟨rfl, H2⟩; have W2 := Lib.hid (HW.out w2 H2))
        | (go_at_call 9; refine W2.out.mono ?_; rintro e w3 ⟨rfl, H3⟩)
        | (go_at_call 10; refine (HM1.out _).mono ?_; rintro e w4 ⟨rfl, H4⟩)
        | (go_at_call 11; refine (HL.out _).mono ?_; rintro e w5 ⟨ao, cp, rfl, _, H5⟩))
      go_ret
      exact ⟨rfl, ((H2.trans H3).trans H4).trans H5⟩
    · have hex := F2 hz
      rw [decide_eq_true hex] at HM2
      obtain ⟨y, _, hy⟩ := hex
      have hq1 : ¬ q = -1 := by omega
      have hq2 : (q == -1) = false := beq_eq_false_iff_ne.2 hq1
      clear F2 F3 hz hy
      go_enter Tryd.func3, Tryd.ntmps3
      go_wp2_with (first
        | (go_at_call 7; refine HA.out.mono ?_; rintro e w1 ⟨rfl, rfl⟩)
        | (go_at_call 8; refine (HB.out _).mono ?_; rintro e w2 ⟨rfl, H2⟩; have W2 := Lib.hid (HW.out w2 H2))
        | (go_at_call 9; refine W2.out.mono ?_; rintro e w3 ⟨rfl, H3⟩)
        | (go_at_call 10; refine (HM1.out _).mono ?_; clear HM1; rintro e w4 ⟨rfl, H4⟩)
        | (go_at_call 10; refine (HM2.out _).mono ?_; rintro e w5 ⟨rfl, H5⟩))
      go_ret
      exact ⟨rfl, ((H2.trans H3).trans H4).trans H5⟩
end Go.Proofs.YtalnokbfffhhnaaDoor
