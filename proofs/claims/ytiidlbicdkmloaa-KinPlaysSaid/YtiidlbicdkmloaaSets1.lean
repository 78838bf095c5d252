/- The reference's sets: what Row, Set, Put, Has, All, Of, List and Same answer. -/
import Derived.Test.YtiidlbicdkmloaaProg
import Derived.Test.YtiidlbicdkmloaaSets0
import Derived.Test.YtiidlbicdkmloaaBase
import Derived.KernelRfl
namespace Go.Proofs.Ytiidlbicdkmloaa
open Go.RowKit Bosun

theorem alloc64b (w : World) : (Instr.alloc 57 true (.tuple #[])).run Try.prog w = .ok (.pointer (some ⟨w.heap.size, 0, none⟩)) (w.alloc (.cells (boolRow fun _ => false) 57)) := by kernel_rfl
theorem size64b (f : Nat → Bool) : (Try.prog.info? 57).map (·.size) = some (boolRow f).size := by rw [boolRow_size]; kernel_rfl

set_option maxHeartbeats 400000 in
theorem row_any (s : Nat) (hs : s < 18446744073709551616) (w : World) :
    Calls Try.prog 27 #[.int .u64 s] w fun e w' => e = .returned (.agg (boolRow s.testBit)) ∧ Chg [] w w' := by
  go_enter Try.func27, Try.ntmps27
  go_wp2
  go_loopw [0, 4] (fun x i wr => ∃ k : Nat, k ≤ 64 ∧ i = .int .i64 k ∧ x = .int .u64 ((s / 2 ^ k : Nat) : Int) ∧
      Blk wr w.heap.size (boolRow fun _ => false) 57 ∧
      Blk wr (w.heap.size + 1) (boolRow fun j => decide (j < k) && s.testBit j) 57 ∧ Chg [] w wr)
    (fun _ i _ => 64 - (intOf i).toNat)
  case atStart =>
    refine ⟨0, by omega, rfl, by simp, (heap_alloc2_old w _ _).trans rfl, (heap_alloc2_new w _ _).trans ?_, ?_⟩
    · rw [boolRow_congr (f := fun j => decide (j < 0) && s.testBit j) (g := fun _ => false) (by simp)]; rfl
    · exact ((Chg.refl _ _).alloc _).alloc _
  case round =>
    obtain ⟨k, hk, rfl, rfl, H0, H1, H2⟩ := hrel
    obtain ⟨y, hy⟩ : ∃ y, y = s / 2 ^ k := ⟨_, rfl⟩
    have hylt : y < 18446744073709551616 := by rw [hy]; exact Nat.lt_of_le_of_lt (Nat.div_le_self _ _) hs
    rw [← hy]
    have HY := Lib.hid hy
    clear hy
    by_cases hk64 : k < 64
    · have hc : wr.cell? ⟨w.heap.size + 1, k, none⟩ = some (.bool false) := by
        rw [H1.cell, boolRow_get _ hk64]; simp
      have hz := H1.frozen k
      go_wp2
      go_roundw
      case rel =>
        refine ⟨k + 1, by omega, by go_num, ?_, H0.setCell_other _ (by simp), ?_, H2.setCell (.inr (by simp)) _⟩
        · rw [Nat.pow_succ, ← Nat.div_div_eq_div_mul, ← HY.out]; go_num
        · have h := H1.setCell k (.bool (decide ((y : Int) % 2 = 1)))
          rw [boolRow_set] at h
          rw [boolRow_congr (f := fun j => decide (j < k + 1) && s.testBit j) (g := fun j => if j = k then decide ((y : Int) % 2 = 1) else decide (j < k) && s.testBit j)]
          · exact h
          · intro j _
            by_cases hj : j = k
            · subst hj
              rw [if_pos rfl, Nat.testBit_eq_decide_div_mod_eq, ← HY.out]
              have h1 : j < j + 1 := by omega
              simp only [h1, decide_true, Bool.true_and]
              congr 1
              exact propext ⟨fun h => by omega, fun h => by omega⟩
            · rw [if_neg hj]
              have : (j < k) = (j < k + 1) := propext ⟨fun h => by omega, fun h => by omega⟩
              simp only [this]
      case measure => simp [intOf] <;> omega
    · obtain rfl : k = 64 := by omega
      go_wp2_with (first
        | (refine wpList_get_row rfl 57 (.tmp 3) rfl (w.heap.size + 1) rfl 57 _ _ H1 Try.underlying57 rfl (size64b _) ?_)
        | (refine wpList_put_row rfl 57 (.tmp 2) (.tmp 16) rfl w.heap.size _ rfl rfl 57 _ H0 (size64b _) (by simp only [boolRow_size]) (boolRow_one _) ?_; intro w3 H3 H4))
      have e : (boolRow fun j => decide (j < 64) && s.testBit j) = boolRow s.testBit := boolRow_congr fun j hj => by simp [hj]
      refine bodyPost_ret (results_row rfl _ _ w.heap.size 57 _ _ rfl H3 Try.underlying57 rfl (size64b _)) rfl ⟨by rw [e], ?_⟩
      exact H2.then H4 (fun g hg => .inr (by simp at hg; omega))

set_option maxHeartbeats 400000 in
theorem set_any (f : Nat → Bool) (w : World) :
    Calls Try.prog 28 #[.agg (boolRow f)] w fun e w' => e = .returned (.int .u64 (ofBits 64 f : Nat)) ∧ Chg [] w w' := by
  go_enter Try.func28, Try.ntmps28
  go_wp2
  go_loopw [3, 4] (fun x i wr => ((∃ m : Nat, m < 64 ∧ i = .int .i64 m ∧ x = .int .u64 (fromBit f (m + 1) : Nat)) ∨ (i = .int .i64 (-1) ∧ x = .int .u64 (fromBit f 0 : Nat))) ∧
      Blk wr w.heap.size (boolRow f) 57 ∧ Chg [] w wr)
    (fun _ i _ => (intOf i + 1).toNat)
  case atStart => exact ⟨.inl ⟨63, by omega, rfl, by rw [fromBit_end]; rfl⟩, Blk.new _ _ _, (Chg.refl _ _).alloc _⟩
  case round =>
    obtain ⟨h, H1, H2⟩ := hrel
    rcases h with ⟨m, hm, rfl, rfl⟩ | ⟨rfl, rfl⟩
    · have hc : wr.cell? ⟨w.heap.size, m, none⟩ = some (.bool (f m)) := by
        rw [H1.cell, boolRow_get _ hm]
      have hlt := fromBit_lt' f (m + 1) (by omega)
      have HS := Lib.hid (fromBit_step f m hm)
      obtain ⟨y, hy⟩ : ∃ y, y = fromBit f (m + 1) := ⟨_, rfl⟩
      rw [← hy] at hlt HS ⊢
      clear hy
      cases hfm : f m
      all_goals
        rw [hfm] at HS hc
        clear hfm
        go_wp2
        go_roundw
        case rel =>
          refine ⟨?_, H1, H2⟩
          by_cases h0 : m = 0
          · subst h0; exact .inr ⟨by go_num, by rw [HS.out]; simp <;> omega⟩
          · exact .inl ⟨m - 1, by omega, by go_num, by rw [show m - 1 + 1 = m from by omega, HS.out]; simp <;> omega⟩
        case measure => simp [intOf] <;> omega
    · go_wp2
      go_ret
      exact ⟨ret_int (by rw [fromBit_zero]), H2⟩

set_option maxHeartbeats 400000 in
theorem put_any (s : Nat) (hs : s < 18446744073709551616) (i : Int) (b : Bool) (w : World) :
    Calls Try.prog 20 #[.int .u64 s, .int .i64 i, .bool b] w fun e w' => e = .returned (.int .u64 (put s i b : Nat)) ∧ Chg [] w w' := by
  by_cases hi : 0 ≤ i ∧ i < 64
  · obtain ⟨h0, h1⟩ := hi
    obtain ⟨k, rfl⟩ := Int.eq_ofNat_of_zero_le h0
    have hk : k < 64 := by omega
    go_enter Try.func20, Try.ntmps20
    go_wp2_with fail
    refine (row_any s hs _).mono ?_
    rintro e w1 ⟨rfl, H1⟩
    go_wp2_with (first
      | (refine wpList_new_row rfl 57 rfl _ (alloc64b _) ?_; intro w2 H2 H3 H4)
      | (refine wpList_put_row rfl 57 (.tmp 7) (.tmp 9) rfl w1.heap.size _ rfl rfl 57 _ H2 (size64b _) (by simp only [boolRow_size]) (boolRow_one _) ?_; intro w3 H5 H6; have hz := H5.frozen k; have hc : w3.cell? ⟨w1.heap.size, k, none⟩ = some (.bool (s.testBit k)) := by rw [H5.cell, boolRow_get _ hk])
      | (refine wpList_get_row rfl 57 (.tmp 7) rfl w1.heap.size rfl 57 _ _ (H5.setCell k (.bool b)) Try.underlying57 rfl (by rw [boolRow_set]; exact size64b _) ?_; rw [boolRow_set])
      | (go_at_call 28; refine (set_any _ _).mono ?_; rintro e w4 ⟨rfl, H7⟩))
    go_ret
    refine ⟨ret_int ?_, ?_⟩
    · refine congrArg _ (ofBits_congr fun j _ => ?_)
      simp only [Int.natCast_inj]
    · exact (((H1.then H3 (by simp)).then H6 (fun g hg => .inr (by simp at hg; have := H1.size; omega))).setCell (.inr H1.size) _).then H7 (by simp)
  · go_enter Try.func20, Try.ntmps20
    go_wp2_with fail
    refine (row_any s hs _).mono ?_
    rintro e w1 ⟨rfl, H1⟩
    go_wp2_with (first
      | (refine wpList_new_row rfl 57 rfl _ (alloc64b _) ?_; intro w2 H2 H3 H4)
      | (refine wpList_put_row rfl 57 (.tmp 7) (.tmp 9) rfl w1.heap.size _ rfl rfl 57 _ H2 (size64b _) (by simp only [boolRow_size]) (boolRow_one _) ?_; intro w3 H5 H6)
      | (refine wpList_get_row rfl 57 (.tmp 7) rfl w1.heap.size rfl 57 _ _ H5 Try.underlying57 rfl (size64b _) ?_)
      | (go_at_call 28; refine (set_any _ _).mono ?_; rintro e w4 ⟨rfl, H7⟩))
    all_goals
      go_ret
      refine ⟨ret_int ?_, ?_⟩
      · rw [ofBits_self hs, put_out hs (by omega)]
      · exact ((H1.then H3 (by simp)).then H6 (fun g hg => .inr (by simp at hg; have := H1.size; omega))).then H7 (by simp)

theorem allBelow_out (n : Int) (k : Nat) (h : (k = 64 ∧ (64 : Int) ≤ n) ∨ (k : Int) = n ∨ (k = 0 ∧ n ≤ 0)) : allBelow k = allBelow n := by
  refine ofBits_congr fun j hj => ?_
  congr 1
  exact propext ⟨fun h => by omega, fun h => by omega⟩

theorem infoInt : (Try.prog.info? 3).map (fun i => (i.zero, i.size, i.bytes)) = some (some (.int .i64 0), 1, 8) := by kernel_rfl

end Go.Proofs.Ytiidlbicdkmloaa
