/- kin: the page's row of threads: what each of its calls answers, and makes of the row. -/
import Derived.Test.YtiidlbicdkmloaaKinP
import Derived.Test.YtiidlbicdkmloaaSets1
import Derived.Test.YtiidlbicdkmloaaCells
namespace Go.Proofs.Ytiidlbicdkmloaa
open Go.RowKit Bosun
theorem is_any (z : Int) (w : World) : Calls Try.prog 12 #[.int .i64 z] w fun e w' => e = .returned (.bool (decide (0 ≤ z ∧ z < 64))) ∧ w = w' := by
  by_cases h0 : 0 ≤ z
  · go_enter Try.func12, Try.ntmps12
    go_wp2_with fail
    go_ret
    exact ⟨ret_bool (by simp [h0]), rfl⟩
  · have hd : decide (0 ≤ z) = false := by simp; omega
    rw [show decide (0 ≤ z ∧ z < 64) = false from by simp; omega]
    go_enter Try.func12, Try.ntmps12
    go_wp2_with fail
    go_ret
    exact ⟨rfl, rfl⟩
theorem rwrong_any (rb : Nat) (S : Nat → K3) (z : Int) (s : Nat) (hs : s = 1 ∨ s = 2) (w : World) (h : Blk w rb (row3 S) 28) (hst : 0 ≤ z → z < 64 → (S z.toNat).st ≤ 2) :
    Calls Try.prog 26 #[.pointer (some ⟨rb, 0, none⟩), .int .i64 z, .int .i64 (s : Nat)] w fun e w' => e = .returned (.int .i64 (wrongR S z s)) ∧ w = w' := by
  have HI := Lib.hid (is_any z)
  by_cases hz : 0 ≤ z ∧ z < 64
  · obtain ⟨k, rfl⟩ := Int.eq_ofNat_of_zero_le hz.1
    have hk : k < 64 := by omega
    have c0 : w.cell? ⟨rb, k * 3, none⟩ = some (.int .i64 ((S k).st : Nat)) := by rw [h.cell, row3_get0 S hk]
    have h2 := hst (by omega) (by omega)
    rw [decide_eq_true hz] at HI
    have hw : wrongR S k s = if (S k).st = 0 then 7 else if (S k).st ≠ s then 14 else 0 := by unfold wrongR; rw [if_neg (by omega)]; rfl
    rw [hw]
    simp only [Int.toNat_natCast] at h2
    obtain ⟨x, hx⟩ : ∃ x, x = (S k).st := ⟨_, rfl⟩
    rw [← hx] at c0 h2 ⊢
    clear hx hw hz h hst
    rcases hs with rfl | rfl <;> rcases (show x = 0 ∨ x = 1 ∨ x = 2 by omega) with rfl | rfl | rfl
    all_goals
      clear h2
      go_enter Try.func26, Try.ntmps26
      go_wp2_with fail
      refine (HI.out _).mono ?_
      rintro e w1 ⟨rfl, rfl⟩
      go_wp2_with fail
      go_ret
      exact ⟨rfl, rfl⟩
  · rw [decide_eq_false hz] at HI
    have hw : wrongR S z s = 5 := by unfold wrongR; rw [if_pos hz]
    rw [hw]
    clear hw hz h hst hs
    go_enter Try.func26, Try.ntmps26
    go_wp2_with fail
    refine (HI.out _).mono ?_
    rintro e w1 ⟨rfl, rfl⟩
    go_wp2_with fail
    go_ret
    exact ⟨rfl, rfl⟩
abbrev IsRow (w : World) (rb : Nat) (S : Nat → K3) : Prop := Blk w rb (row3 S) 28
set_option maxHeartbeats 1000000 in
theorem rborn_yes (rb : Nat) (S : Nat → K3) (k : Nat) (hk : k < 64) (loose : Bool) (w : World) (h : IsRow w rb S) (h0 : (S k).st = 0) :
    Calls Try.prog 17 #[.pointer (some ⟨rb, 0, none⟩), .int .i64 (k : Nat), .bool loose] w fun e w' => e = .returned (.bool true) ∧ IsRow w' rb (set3 S k ⟨1, loose, 0⟩) ∧ Chg [rb] w w' := by
  have HI := Lib.hid (is_any (k : Int))
  rw [decide_eq_true (show (0 : Int) ≤ k ∧ (k : Int) < 64 from by omega)] at HI
  have c0 : w.cell? ⟨rb, k * 3, none⟩ = some (.int .i64 0) := by rw [h.cell, row3_get0 S hk, h0]; rfl
  have HH := Lib.hid h
  clear h h0
  go_enter Try.func17, Try.ntmps17
  go_wp2_with fail
  refine (HI.out _).mono ?_
  rintro e w1 ⟨rfl, rfl⟩
  go_wp2_with (refine wpList_put_cells rfl 27 (.tmp 24) (.tmp 22) rfl rb (k * 3) rfl _ rfl [.int .i64 1, .bool loose, .int .u64 0] rfl _ _ HH.out (by kernel_rfl) (by rw [row3_size]; simp; omega) (by simp [Value.oneCell']) ?_; intro w2 cur B2 s2 g2 C2)
  go_ret
  exact ⟨rfl, by rw [row3_put S k ⟨1, loose, 0⟩ cur hk (by rw [s2, row3_size]) g2] at B2; exact B2, C2⟩
theorem rborn_no (rb : Nat) (S : Nat → K3) (z : Int) (loose : Bool) (w : World) (h : IsRow w rb S) (hn : ¬ (0 ≤ z ∧ z < 64) ∨ (S z.toNat).st ≠ 0) :
    Calls Try.prog 17 #[.pointer (some ⟨rb, 0, none⟩), .int .i64 z, .bool loose] w fun e w' => e = .returned (.bool false) ∧ w = w' := by
  have HI := Lib.hid (is_any z)
  by_cases hz : 0 ≤ z ∧ z < 64
  · obtain ⟨k, rfl⟩ := Int.eq_ofNat_of_zero_le hz.1
    have hk : k < 64 := by omega
    have hne : (S k).st ≠ 0 := by
      rcases hn with e | e
      · exact absurd hz e
      · simpa using e
    have c0 : w.cell? ⟨rb, k * 3, none⟩ = some (.int .i64 ((S k).st : Nat)) := by rw [h.cell, row3_get0 S hk]
    rw [decide_eq_true hz] at HI
    obtain ⟨x, hx⟩ : ∃ x, x = (S k).st := ⟨_, rfl⟩
    rw [← hx] at c0 hne
    have d1 : ((x : Int) != 0) = true := by simp; omega
    clear hx hz h hn hne
    go_enter Try.func17, Try.ntmps17
    go_wp2_with fail
    refine (HI.out _).mono ?_
    rintro e w1 ⟨rfl, rfl⟩
    go_wp2_with fail
    go_ret
    exact ⟨rfl, rfl⟩
  · rw [decide_eq_false hz] at HI
    clear hz h hn
    go_enter Try.func17, Try.ntmps17
    go_wp2_with fail
    refine (HI.out _).mono ?_
    rintro e w1 ⟨rfl, rfl⟩
    go_wp2_with fail
    go_ret
    exact ⟨rfl, rfl⟩
set_option maxHeartbeats 1000000 in
theorem rexit_no (rb : Nat) (S : Nat → K3) (z : Int) (code : Nat) (joined : Bool) (w : World) (h : IsRow w rb S) (hst : 0 ≤ z → z < 64 → (S z.toNat).st ≤ 2) (hn : wrongR S z 1 ≠ 0) :
    Calls Try.prog 19 #[.pointer (some ⟨rb, 0, none⟩), .int .i64 z, .int .u64 (code : Nat), .bool joined] w fun e w' => e = .returned (.tuple #[.bool false, .int .i64 (wrongR S z 1)]) ∧ w = w' := by
  have HW := Lib.hid (rwrong_any rb S z 1 (.inl rfl) w h hst)
  obtain ⟨q, hq⟩ : ∃ q, q = wrongR S z 1 := ⟨_, rfl⟩
  rw [← hq] at HW hn ⊢
  have e1 : (q != 0) = true := by simpa using hn
  clear hq hn h hst
  go_enter Try.func19, Try.ntmps19
  go_wp2_with fail
  refine HW.out.mono ?_
  rintro e w1 ⟨rfl, rfl⟩
  go_wp2_with fail
  go_ret2
  exact ⟨rfl, rfl⟩
theorem rreap_no (rb : Nat) (S : Nat → K3) (z : Int) (w : World) (h : IsRow w rb S) (hst : 0 ≤ z → z < 64 → (S z.toNat).st ≤ 2) (hn : wrongR S z 2 ≠ 0) :
    Calls Try.prog 18 #[.pointer (some ⟨rb, 0, none⟩), .int .i64 z] w fun e w' => e = .returned (.tuple #[.int .u64 0, .int .i64 (wrongR S z 2)]) ∧ w = w' := by
  have HW := Lib.hid (rwrong_any rb S z 2 (.inr rfl) w h hst)
  obtain ⟨q, hq⟩ : ∃ q, q = wrongR S z 2 := ⟨_, rfl⟩
  rw [← hq] at HW hn ⊢
  have e1 : (q != 0) = true := by simpa using hn
  clear hq hn h hst
  go_enter Try.func18, Try.ntmps18
  go_wp2_with fail
  refine HW.out.mono ?_
  rintro e w1 ⟨rfl, rfl⟩
  go_wp2_with fail
  go_ret2
  exact ⟨rfl, rfl⟩
set_option maxHeartbeats 1000000 in
theorem rreap_yes (rb : Nat) (S : Nat → K3) (k : Nat) (hk : k < 64) (w : World) (h : IsRow w rb S) (h0 : (S k).st = 2) :
    Calls Try.prog 18 #[.pointer (some ⟨rb, 0, none⟩), .int .i64 (k : Nat)] w fun e w' => e = .returned (.tuple #[.int .u64 ((S k).cd : Nat), .int .i64 0]) ∧ IsRow w' rb (set3 S k ⟨0, false, 0⟩) ∧ Chg [rb] w w' := by
  have HW := Lib.hid (rwrong_any rb S k 2 (.inr rfl) w h (fun _ _ => by simp [h0]))
  have e0 : wrongR S k 2 = 0 := by unfold wrongR; rw [if_neg (by omega)]; simp [h0]
  rw [e0] at HW
  have c2 : w.cell? ⟨rb, k * 3 + 2, none⟩ = some (.int .u64 ((S k).cd : Nat)) := by rw [h.cell, row3_get2 S hk]
  have HH := Lib.hid h
  obtain ⟨x, hx⟩ : ∃ x, x = (S k).cd := ⟨_, rfl⟩
  rw [← hx] at c2 ⊢
  clear h h0 e0 hx
  go_enter Try.func18, Try.ntmps18
  go_wp2_with fail
  refine HW.out.mono ?_
  rintro e w1 ⟨rfl, rfl⟩
  go_wp2_with (refine wpList_put_cells rfl 27 (.tmp 24) (.tmp 22) rfl rb (k * 3) rfl _ rfl [.int .i64 0, .bool false, .int .u64 0] rfl _ _ HH.out (by kernel_rfl) (by rw [row3_size]; simp; omega) (by simp [Value.oneCell']) ?_; intro w2 cur B2 s2 g2 C2)
  go_ret2
  exact ⟨rfl, by rw [row3_put S k ⟨0, false, 0⟩ cur hk (by rw [s2, row3_size]) g2] at B2; exact B2, C2⟩
set_option maxHeartbeats 2000000 in
theorem rexit_yes (rb : Nat) (S : Nat → K3) (k : Nat) (hk : k < 64) (code : Nat) (joined : Bool) (w : World) (h : IsRow w rb S) (h0 : (S k).st = 1) :
    Calls Try.prog 19 #[.pointer (some ⟨rb, 0, none⟩), .int .i64 (k : Nat), .int .u64 (code : Nat), .bool joined] w fun e w' => e = .returned (.tuple #[.bool ((S k).lo || joined), .int .i64 0]) ∧ IsRow w' rb (set3 S k (if (S k).lo || joined then ⟨0, false, 0⟩ else ⟨2, false, code⟩)) ∧ Chg [rb] w w' := by
  have HW := Lib.hid (rwrong_any rb S k 1 (.inl rfl) w h (fun _ _ => by simp [h0]))
  have e0 : wrongR S k 1 = 0 := by unfold wrongR; rw [if_neg (by omega)]; simp [h0]
  rw [e0] at HW
  have c1 : w.cell? ⟨rb, k * 3 + 1, none⟩ = some (.bool (S k).lo) := by rw [h.cell, row3_get1 S hk]
  have HH := Lib.hid h
  obtain ⟨x, hx⟩ : ∃ x, x = (S k).lo := ⟨_, rfl⟩
  rw [← hx] at c1 ⊢
  clear h h0 e0 hx
  cases x <;> cases joined
  · go_enter Try.func19, Try.ntmps19
    go_wp2_with fail
    refine HW.out.mono ?_
    rintro e w1 ⟨rfl, rfl⟩
    go_wp2_with (refine wpList_put_cells rfl 27 (.tmp 36) (.tmp 34) rfl rb (k * 3) rfl _ rfl [.int .i64 2, .bool false, .int .u64 (code : Nat)] rfl _ _ HH.out (by kernel_rfl) (by rw [row3_size]; simp; omega) (by simp [Value.oneCell']) ?_; intro w2 cur B2 s2 g2 C2)
    go_ret2
    exact ⟨rfl, by rw [row3_put S k ⟨2, false, code⟩ cur hk (by rw [s2, row3_size]) g2] at B2; exact B2, C2⟩
  all_goals
    go_enter Try.func19, Try.ntmps19
    go_wp2_with fail
    refine HW.out.mono ?_
    rintro e w1 ⟨rfl, rfl⟩
    go_wp2_with (refine wpList_put_cells rfl 27 (.tmp 30) (.tmp 28) rfl rb (k * 3) rfl _ rfl [.int .i64 0, .bool false, .int .u64 0] rfl _ _ HH.out (by kernel_rfl) (by rw [row3_size]; simp; omega) (by simp [Value.oneCell']) ?_; intro w2 cur B2 s2 g2 C2)
    go_ret2
    exact ⟨rfl, by rw [row3_put S k ⟨0, false, 0⟩ cur hk (by rw [s2, row3_size]) g2] at B2; exact B2, C2⟩
set_option maxHeartbeats 2000000 in
theorem rset_any (rb : Nat) (S : Nat → K3) (s : Nat) (w : World) (h : IsRow w rb S) :
    Calls Try.prog 9 #[.pointer (some ⟨rb, 0, none⟩), .int .i64 (s : Nat)] w fun e w' => e = .returned (.int .u64 (foldS (fun i => (S i).st == s) 64 : Nat)) ∧ Chg [] w w' := by
  have HR := Lib.hid h
  clear h
  go_enter Try.func9, Try.ntmps9
  go_wp2_with fail
  go_loopw [5, 6] (fun x5 x6 wr => ∃ k : Nat, k ≤ 64 ∧ x6 = .int .i64 k ∧ x5 = .int .u64 (foldS (fun i => (S i).st == s) k : Nat) ∧ Chg [] w wr) (fun _ x6 _ => 64 - (intOf x6).toNat)
  case atStart => exact ⟨0, by omega, rfl, rfl, Chg.refl _ _⟩
  case round =>
    rename_i wr _
    obtain ⟨k, hk, rfl, rfl, C⟩ := hrel
    by_cases hk64 : k < 64
    · have c0 : wr.cell? ⟨rb, k * 3, none⟩ = some (.int .i64 ((S k).st : Nat)) := by rw [(HR.out.chg C (by simp)).cell, row3_get0 S hk64]
      have HP := Lib.hid (put_any (foldS (fun i => (S i).st == s) k) (foldS_lt _ k) k true wr)
      obtain ⟨x, hx⟩ : ∃ x, x = (S k).st := ⟨_, rfl⟩
      rw [← hx] at c0
      by_cases e : x = s
      · have hp := foldS_put (fun i => (S i).st == s) k hk64 (by simp [← hx, e])
        rw [hp] at HP
        have d1 : ((x : Int) == (s : Int)) = true := by simp [e]
        clear hx e hp
        go_wp2_with (go_at_call 20; refine HP.out.mono ?_; rintro e w2 ⟨rfl, C2⟩)
        go_roundw
        case rel => exact ⟨k + 1, by omega, by go_num, rfl, C.then C2 (by simp)⟩
        case measure => simp [intOf] <;> omega
      · have hp := foldS_skip (fun i => (S i).st == s) k (by simp [← hx, e])
        have HQ := Lib.hid hp
        have d1 : ((x : Int) == (s : Int)) = false := by simp; omega
        clear hx e hp HP
        go_wp2_with fail
        go_roundw
        case rel => exact ⟨k + 1, by omega, by go_num, by rw [← HQ.out], C⟩
        case measure => simp [intOf] <;> omega
    · obtain rfl : k = 64 := by omega
      go_wp2_with fail
      go_ret
      exact ⟨rfl, C⟩
end Go.Proofs.Ytiidlbicdkmloaa
