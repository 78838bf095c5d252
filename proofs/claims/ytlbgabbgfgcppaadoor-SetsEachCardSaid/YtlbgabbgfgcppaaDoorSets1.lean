/- The reference's sets: what Row, Set, Put, Has, All, Of, List and Same answer. -/
import Derived.Test.YtlbgabbgfgcppaaDoorProg
import Derived.Test.YtlbgabbgfgcppaaDoorSets0
import Derived.Test.YtlbgabbgfgcppaaDoorBase
import Derived.KernelRfl
namespace Go.Proofs.YtlbgabbgfgcppaaDoor
open Go.RowKit Bosun

theorem alloc64b (w : World) : (Instr.alloc 44 true (.tuple #[])).run Tryd.prog w = .ok (.pointer (some ⟨w.heap.size, 0, none⟩)) (w.alloc (.cells (boolRow fun _ => false) 44)) := by kernel_rfl
theorem size64b (f : Nat → Bool) : (Tryd.prog.info? 44).map (·.size) = some (boolRow f).size := by rw [boolRow_size]; kernel_rfl

set_option maxHeartbeats 400000 in
theorem row_any (s : Nat) (hs : s < 18446744073709551616) (w : World) :
    Calls Tryd.prog 29 #[.int .u64 s] w fun e w' => e = .returned (.agg (boolRow s.testBit)) ∧ Chg [] w w' := by
  go_enter Tryd.func29, Tryd.ntmps29
  go_wp2
  go_loopw [0, 4] (fun x i wr => ∃ k : Nat, k ≤ 64 ∧ i = .int .i64 k ∧ x = .int .u64 ((s / 2 ^ k : Nat) : Int) ∧
      Blk wr w.heap.size (boolRow fun _ => false) 44 ∧
      Blk wr (w.heap.size + 1) (boolRow fun j => decide (j < k) && s.testBit j) 44 ∧ Chg [] w wr)
    (fun _ i _ => 64 - (intOf i).toNat)
  case atStart =>
    refine ⟨0, by omega, rfl, by simp, (heap_alloc2_old w _ _).trans rfl, (heap_alloc2_new w _ _).trans ?_, ?_⟩
    · rw [boolRow_congr (f := fun j => decide (j < 0) && s.testBit j) (g := fun _ => false) (by simp)]; rfl
    · exact ((Chg.refl _ _).alloc _).alloc _
  case round =>
    obtain ⟨k, hk, rfl, rfl, H0, H1, H2⟩ := hrel
    obtain ⟨y, hy⟩ : ∃ y, y = s / 2 ^ k := ⟨_, rfl⟩
    have hylt : y < 18446744073709551616 := by rw [hy]; exact Nat.lt_of_le_of_lt (Nat.div_le_self _ _) hs
    rw [← hy]
    have HY := Lib.hid hy
    clear hy
    by_cases hk64 : k < 64
    · have hc : wr.cell? ⟨w.heap.size + 1, k, none⟩ = some (.bool false) := by
        rw [H1.cell, boolRow_get _ hk64]; simp
      have hz := H1.frozen k
      go_wp2
      go_roundw
      case rel =>
        refine ⟨k + 1, by omega, by go_num, ?_, H0.setCell_other _ (by simp), ?_, H2.setCell (.inr (by simp)) _⟩
        · rw [Nat.pow_succ, ← Nat.div_div_eq_div_mul, ← HY.out]; go_num
        · have h := H1.setCell k (.bool (decide ((y : Int) % 2 = 1)))
          rw [boolRow_set] at h
          rw [boolRow_congr (f := fun j => decide (j < k + 1) && s.testBit j) (g := fun j => if j = k then decide ((y : Int) % 2 = 1) else decide (j < k) && s.testBit j)]
          · exact h
          · intro j _
            by_cases hj : j = k
            · subst hj
              rw [if_pos rfl, Nat.testBit_eq_decide_div_mod_eq, ← HY.out]
              have h1 : j < j + 1 := by omega
              simp only [h1, decide_true, Bool.true_and]
              congr 1
              exact propext ⟨fun h => by omega, fun h => by omega⟩
            · rw [if_neg hj]
              have : (j < k) = (j < k + 1) := propext ⟨fun h => by omega, fun h => by omega⟩
              simp only [this]
      case measure => simp [intOf] <;> omega
    · obtain rfl : k = 64 := by omega
      go_wp2_with (first
        | (refine wpList_get_row rfl 44 (.tmp 3) rfl (w.heap.size + 1) rfl 44 _ _ H1 Tryd.underlying44 rfl (size64b _) ?_)
        | (refine wpList_put_row rfl 44 (.tmp 2) (.tmp 16) rfl w.heap.size _ rfl rfl 44 _ H0 (size64b _) (by simp only [boolRow_size]) (boolRow_one _) ?_; intro w3 H3 H4))
      have e : (boolRow fun j => decide (j < 64) && s.testBit j) = boolRow s.testBit := boolRow_congr fun j hj => by simp [hj]
      refine bodyPost_ret (results_row rfl _ _ w.heap.size 44 _ _ rfl H3 Tryd.underlying44 rfl (size64b _)) rfl ⟨by rw [e], ?_⟩
      exact H2.then H4 (fun g hg => .inr (by simp at hg; omega))

set_option maxHeartbeats 400000 in
theorem set_any (f : Nat → Bool) (w : World) :
    Calls Tryd.prog 31 #[.agg (boolRow f)] w fun e w' => e = .returned (.int .u64 (ofBits 64 f : Nat)) ∧ Chg [] w w' := by
  go_enter Tryd.func31, Tryd.ntmps31
  go_wp2
  go_loopw [3, 4] (fun x i wr => ((∃ m : Nat, m < 64 ∧ i = .int .i64 m ∧ x = .int .u64 (fromBit f (m + 1) : Nat)) ∨ (i = .int .i64 (-1) ∧ x = .int .u64 (fromBit f 0 : Nat))) ∧
      Blk wr w.heap.size (boolRow f) 44 ∧ Chg [] w wr)
    (fun _ i _ => (intOf i + 1).toNat)
  case atStart => exact ⟨.inl ⟨63, by omega, rfl, by rw [fromBit_end]; rfl⟩, Blk.new _ _ _, (Chg.refl _ _).alloc _⟩
  case round =>
    obtain ⟨h, H1, H2⟩ := hrel
    rcases h with ⟨m, hm, rfl, rfl⟩ | ⟨rfl, rfl⟩
    · have hc : wr.cell? ⟨w.heap.size, m, none⟩ = some (.bool (f m)) := by
        rw [H1.cell, boolRow_get _ hm]
      have hlt := fromBit_lt' f (m + 1) (by omega)
      have HS := Lib.hid (fromBit_step f m hm)
      obtain ⟨y, hy⟩ : ∃ y, y = fromBit f (m + 1) := ⟨_, rfl⟩
      rw [← hy] at hlt HS ⊢
      clear hy
      cases hfm : f m
      all_goals
        rw [hfm] at HS hc
        clear hfm
        go_wp2
        go_roundw
        case rel =>
          refine ⟨?_, H1, H2⟩
          by_cases h0 : m = 0
          · subst h0; exact .inr ⟨by go_num, by rw [HS.out]; simp <;> omega⟩
          · exact .inl ⟨m - 1, by omega, by go_num, by rw [show m - 1 + 1 = m from by omega, HS.out]; simp <;> omega⟩
        case measure => simp [intOf] <;> omega
    · go_wp2
      go_ret
      exact ⟨ret_int (by rw [fromBit_zero]), H2⟩

set_option maxHeartbeats 400000 in
theorem put_any (s : Nat) (hs : s < 18446744073709551616) (i : Int) (b : Bool) (w : World) :
    Calls Tryd.prog 19 #[.int .u64 s, .int .i64 i, .bool b] w fun e w' => e = .returned (.int .u64 (put s i b : Nat)) ∧ Chg [] w w' := by
  by_cases hi : 0 ≤ i ∧ i < 64
  · obtain ⟨h0, h1⟩ := hi
    obtain ⟨k, rfl⟩ := Int.eq_ofNat_of_zero_le h0
    have hk : k < 64 := by omega
    go_enter Tryd.func19, Tryd.ntmps19
    go_wp2_with fail
    refine (row_any s hs _).mono ?_
    rintro e w1 ⟨rfl, H1⟩
    go_wp2_with (first
      | (refine wpList_new_row rfl 44 rfl _ (alloc64b _) ?_; intro w2 H2 H3 H4)
      | (refine wpList_put_row rfl 44 (.tmp 7) (.tmp 9) rfl w1.heap.size _ rfl rfl 44 _ H2 (size64b _) (by simp only [boolRow_size]) (boolRow_one _) ?_; intro w3 H5 H6; have hz := H5.frozen k; have hc : w3.cell? ⟨w1.heap.size, k, none⟩ = some (.bool (s.testBit k)) := by rw [H5.cell, boolRow_get _ hk])
      | (refine wpList_get_row rfl 44 (.tmp 7) rfl w1.heap.size rfl 44 _ _ (H5.setCell k (.bool b)) Tryd.underlying44 rfl (by rw [boolRow_set]; exact size64b _) ?_; rw [boolRow_set])
      | (go_at_call 31; refine (set_any _ _).mono ?_; rintro e w4 ⟨rfl, H7⟩))
    go_ret
    refine ⟨ret_int ?_, ?_⟩
    · refine congrArg _ (ofBits_congr fun j _ => ?_)
      simp only [Int.natCast_inj]
    · exact (((H1.then H3 (by simp)).then H6 (fun g hg => .inr (by simp at hg; have := H1.size; omega))).setCell (.inr H1.size) _).then H7 (by simp)
  · go_enter Tryd.func19, Tryd.ntmps19
    go_wp2_with fail
    refine (row_any s hs _).mono ?_
    rintro e w1 ⟨rfl, H1⟩
    go_wp2_with (first
      | (refine wpList_new_row rfl 44 rfl _ (alloc64b _) ?_; intro w2 H2 H3 H4)
      | (refine wpList_put_row rfl 44 (.tmp 7) (.tmp 9) rfl w1.heap.size _ rfl rfl 44 _ H2 (size64b _) (by simp only [boolRow_size]) (boolRow_one _) ?_; intro w3 H5 H6)
      | (refine wpList_get_row rfl 44 (.tmp 7) rfl w1.heap.size rfl 44 _ _ H5 Tryd.underlying44 rfl (size64b _) ?_)
      | (go_at_call 31; refine (set_any _ _).mono ?_; rintro e w4 ⟨rfl, H7⟩))
    all_goals
      go_ret
      refine ⟨ret_int ?_, ?_⟩
      · rw [ofBits_self hs, put_out hs (by omega)]
      · exact ((H1.then H3 (by simp)).then H6 (fun g hg => .inr (by simp at hg; have := H1.size; omega))).then H7 (by simp)

set_option maxHeartbeats 400000 in
theorem has_any (s : Nat) (hs : s < 18446744073709551616) (i : Int) (w : World) :
    Calls Tryd.prog 17 #[.int .u64 s, .int .i64 i] w fun e w' => e = .returned (.bool (has s i)) ∧ Chg [] w w' := by
  by_cases hi : 0 ≤ i ∧ i < 64
  · obtain ⟨h0, h1⟩ := hi
    obtain ⟨k, rfl⟩ := Int.eq_ofNat_of_zero_le h0
    have hk : k < 64 := by omega
    go_enter Tryd.func17, Tryd.ntmps17
    go_wp2_with fail
    refine (row_any s hs _).mono ?_
    rintro e w1 ⟨rfl, H1⟩
    go_wp2_with (first
      | (refine wpList_new_row rfl 44 rfl _ (alloc64b _) ?_; intro w2 H2 H3 H4)
      | (refine wpList_put_row rfl 44 (.tmp 5) (.tmp 7) rfl w1.heap.size _ rfl rfl 44 _ H2 (size64b _) (by simp only [boolRow_size]) (boolRow_one _) ?_; intro w3 H5 H6; have hc : w3.cell? ⟨w1.heap.size, k, none⟩ = some (.bool (s.testBit k)) := by rw [H5.cell, boolRow_get _ hk]))
    go_ret
    refine ⟨ret_bool ?_, ?_⟩
    · have e1 : decide ((0 : Int) ≤ k) = true := by simp
      have e2 : decide ((k : Int) < 64) = true := by simp; omega
      unfold has
      rw [e1, e2]
      simp
    · exact (H1.then H3 (by simp)).then H6 (fun g hg => .inr (by simp at hg; have := H1.size; omega))
  · have e1 : has s i = false := by
      unfold has
      by_cases h : 0 ≤ i
      · have : decide (i < 64) = false := by simp; omega
        rw [this]; simp
      · have : decide (0 ≤ i) = false := by simp; omega
        rw [this]; simp
    rw [e1]
    clear e1
    go_enter Tryd.func17, Tryd.ntmps17
    go_wp2_with fail
    refine (row_any s hs _).mono ?_
    rintro e w1 ⟨rfl, H1⟩
    by_cases h : 0 ≤ i
    · have h64 : decide (i < 64) = false := by simp; omega
      go_wp2_with (first
        | (refine wpList_new_row rfl 44 rfl _ (alloc64b _) ?_; intro w2 H2 H3 H4)
        | (refine wpList_put_row rfl 44 (.tmp 5) (.tmp 7) rfl w1.heap.size _ rfl rfl 44 _ H2 (size64b _) (by simp only [boolRow_size]) (boolRow_one _) ?_; intro w3 H5 H6))
      go_ret
      exact ⟨rfl, (H1.then H3 (by simp)).then H6 (fun g hg => .inr (by simp at hg; have := H1.size; omega))⟩
    · have h64 : decide (0 ≤ i) = false := by simp; omega
      go_wp2_with (first
        | (refine wpList_new_row rfl 44 rfl _ (alloc64b _) ?_; intro w2 H2 H3 H4)
        | (refine wpList_put_row rfl 44 (.tmp 5) (.tmp 7) rfl w1.heap.size _ rfl rfl 44 _ H2 (size64b _) (by simp only [boolRow_size]) (boolRow_one _) ?_; intro w3 H5 H6))
      go_ret
      exact ⟨rfl, (H1.then H3 (by simp)).then H6 (fun g hg => .inr (by simp at hg; have := H1.size; omega))⟩

theorem allBelow_out (n : Int) (k : Nat) (h : (k = 64 ∧ (64 : Int) ≤ n) ∨ (k : Int) = n ∨ (k = 0 ∧ n ≤ 0)) : allBelow k = allBelow n := by
  refine ofBits_congr fun j hj => ?_
  congr 1
  exact propext ⟨fun h => by omega, fun h => by omega⟩

set_option maxHeartbeats 400000 in
theorem all_any (n : Int) (hn0 : -9223372036854775808 ≤ n) (hn : n ≤ 9223372036854775807) (w : World) :
    Calls Tryd.prog 15 #[.int .i64 n] w fun e w' => e = .returned (.int .u64 (allBelow n : Nat)) ∧ Chg [] w w' := by
  go_enter Tryd.func15, Tryd.ntmps15
  go_wp2
  go_loopw [3, 4] (fun x i wr => ∃ k : Nat, k ≤ 64 ∧ (k = 0 ∨ (k : Int) ≤ n) ∧ i = .int .i64 k ∧ x = .int .u64 (allBelow k : Nat) ∧ Chg [] w wr)
    (fun _ i _ => 64 - (intOf i).toNat)
  case atStart => exact ⟨0, by omega, .inl rfl, rfl, by rw [allBelow_zero]; rfl, Chg.refl _ _⟩
  case round =>
    obtain ⟨k, hk, hkn, rfl, rfl, H⟩ := hrel
    obtain ⟨y, hy⟩ : ∃ y, y = allBelow k := ⟨_, rfl⟩
    have hylt : y < 18446744073709551616 := by rw [hy]; exact allBelow_lt _
    rw [← hy]
    have HY := Lib.hid hy
    clear hy
    by_cases hc : k < 64 ∧ (k : Int) < n
    · obtain ⟨hc1, hc2⟩ := hc
      go_wp2_with (go_at_call 19; refine (put_any y hylt _ _ _).mono ?_; rintro e w1 ⟨rfl, H1⟩)
      go_roundw
      case rel => exact ⟨k + 1, by omega, by omega, by go_num, by rw [HY.out, allBelow_step k hc1]; simp, H.then H1 (by simp)⟩
      case measure => simp [intOf] <;> omega
    · have e1 : allBelow k = allBelow n := allBelow_out n k (by omega)
      have E1 := Lib.hid e1
      clear e1
      by_cases hc1 : k < 64
      · have d1 : decide ((k : Int) < n) = false := by simp; omega
        go_wp2
        go_ret
        exact ⟨ret_int (by rw [HY.out, E1.out]), H⟩
      · have d1 : decide ((k : Int) < 64) = false := by simp; omega
        go_wp2
        go_ret
        exact ⟨ret_int (by rw [HY.out, E1.out]), H⟩

theorem infoInt : (Tryd.prog.info? 3).map (fun i => (i.zero, i.size, i.bytes)) = some (some (.int .i64 0), 1, 8) := by kernel_rfl

set_option maxHeartbeats 400000 in
theorem list_any (s : Nat) (hs : s < 18446744073709551616) (w : World) :
    Calls Tryd.prog 8 #[.int .u64 s] w fun e w' => ∃ v, e = .returned v ∧ Own w' w.heap.size 3 v (nats (members s)) ∧ Chg [] w w' := by
  go_enter Tryd.func8, Tryd.ntmps8
  go_wp2_with fail
  refine (row_any s hs _).mono ?_
  rintro e w1 ⟨rfl, H1⟩
  go_wp2_with (first
    | (refine wpList_new_row rfl 44 rfl _ (alloc64b _) ?_; intro w2 H2 H3 H4)
    | (refine wpList_put_row rfl 44 (.tmp 4) (.tmp 7) rfl w1.heap.size _ rfl rfl 44 _ H2 (size64b _) (by simp only [boolRow_size]) (boolRow_one _) ?_; intro w3 H5 H6))
  have H7 : Chg [] w w3 := (H1.then H3 (by simp)).then H6 (fun g hg => .inr (by simp at hg; have := H1.size; omega))
  have hB := H5.lt
  have hsz := H1.size
  clear H2 H3 H4 H6
  go_loopw [3, 5] (fun v i wr => ∃ k : Nat, k ≤ 64 ∧ i = .int .i64 k ∧ Own wr (w1.heap.size + 1) 3 v (nats (membersTo s k)) ∧
      Blk wr w1.heap.size (boolRow s.testBit) 44 ∧ Chg [] w wr ∧ w1.heap.size + 1 ≤ wr.heap.size)
    (fun _ i _ => 64 - (intOf i).toNat)
  case atStart => exact ⟨0, by omega, rfl, Own.nil _ _ _, H5, H7, hB⟩
  case round =>
    obtain ⟨k, hk, rfl, hown, HB, H, hsz2⟩ := hrel
    by_cases hk64 : k < 64
    · have hc : wr.cell? ⟨w1.heap.size, k, none⟩ = some (.bool (s.testBit k)) := by rw [HB.cell, boolRow_get _ hk64]
      have hlen := membersTo_len s k
      cases hb : s.testBit k
      · rw [hb] at hc
        have HS := Lib.hid (membersTo_no s k hb)
        clear hb
        go_wp2
        go_roundw
        case rel => exact ⟨k + 1, by omega, by go_num, by rw [HS.out]; exact hown, HB, H, hsz2⟩
        case measure => simp [intOf] <;> omega
      · rw [hb] at hc
        have HS := Lib.hid (membersTo_yes s k hb)
        clear hb
        go_wp2_with (first
          | (refine wpList_app1 rfl (.tmp 15) (.tmp 17) 23 rfl (w1.heap.size + 1) 3 (.int .i64 0) 8 Tryd.underlying23 infoInt rfl _ _ rfl (hown.alloc _) wr.heap.size 1 (.int .i64 k) rfl (by go_simp) rfl (by rw [nats_len]; unfold maxLen; omega) (by rw [nats_len]; omega) (by simp; omega) ?_; intro v' w4 H8 H9))
        go_roundw
        case rel =>
          have hblk := hown.block
          refine ⟨k + 1, by omega, by go_num, by rw [HS.out, nats_snoc]; exact H8, (HB.alloc _).chg H9 (fun hm => ?_), (H.alloc _).then H9 (fun g hg => .inr ?_), Nat.le_trans hsz2 (Nat.le_trans (by simp) H9.size)⟩
          · have := hblk _ hm; omega
          · have := hblk _ hg; omega
        case measure => simp [intOf] <;> omega
    · obtain rfl : k = 64 := by omega
      go_wp2
      go_ret
      exact ⟨_, rfl, hown.mono (by omega), H⟩

set_option maxHeartbeats 400000 in
theorem of_any (v : Value) (l : List Int) (hl : ∀ i ∈ l, -9223372036854775808 ≤ i ∧ i ≤ 9223372036854775807) (w : World) (hr : Reads w v (ints l)) :
    Calls Tryd.prog 13 #[v] w fun e w' => e = .returned (.int .u64 (l.foldl (fun s i => put s i true) 0 : Nat)) ∧ Chg [] w w' := by
  obtain ⟨ao, cap, rfl, hm, hc⟩ := hr
  rw [ints_len] at hm ⊢
  unfold maxLen at hm
  go_enter Tryd.func13, Tryd.ntmps13
  go_wp2
  go_loopw [3, 4] (fun x i wr => ∃ k : Nat, k ≤ l.length ∧ i = .int .i64 k ∧ x = .int .u64 ((l.take k).foldl (fun s i => put s i true) 0 : Nat) ∧ Chg [] w wr)
    (fun _ i _ => l.length - (intOf i).toNat)
  case atStart => exact ⟨0, by omega, rfl, rfl, Chg.refl _ _⟩
  case round =>
    obtain ⟨k, hk, rfl, rfl, H⟩ := hrel
    obtain ⟨y, hy⟩ : ∃ y, y = (l.take k).foldl (fun s i => put s i true) 0 := ⟨_, rfl⟩
    have hylt : y < 18446744073709551616 := by
      rw [hy]
      rcases List.eq_nil_or_concat (l.take k) with h | ⟨l', i, h⟩
      · rw [h]; decide
      · rw [h, List.concat_eq_append, List.foldl_append]; exact put_lt _ _ _
    rw [← hy]
    have HY := Lib.hid hy
    clear hy
    by_cases hkl : k < l.length
    · obtain ⟨g, off, rfl, hcell⟩ := hc k _ (ints_get l hkl)
      have hcell' : wr.cell? ⟨g, off + k, none⟩ = some (.int .i64 l[k]) := by
        rw [World.cell?_of_block (w := w) (H.block g (World.block_lt_of_cell? w _ hcell) (by simp)), hcell]
      have hb := hl _ (List.getElem_mem hkl)
      obtain ⟨x, hx⟩ : ∃ x, x = l[k] := ⟨_, rfl⟩
      rw [← hx] at hcell' hb
      have HX := Lib.hid hx
      clear hx hcell hc
      go_wp2_with (go_at_call 19; refine (put_any y hylt _ _ _).mono ?_; rintro e w1 ⟨rfl, H1⟩)
      go_roundw
      case rel => exact ⟨k + 1, by omega, by go_num, by rw [List.take_succ_eq_append_getElem hkl, List.foldl_append, ← HY.out, HX.out]; rfl, H.then H1 (by simp)⟩
      case measure => simp [intOf] <;> omega
    · obtain rfl : k = l.length := by omega
      clear hc
      go_wp2
      go_ret
      exact ⟨ret_int (by rw [HY.out, List.take_length]), H⟩

set_option maxHeartbeats 400000 in
theorem same_any (v u : Value) (l m : List Int) (w : World) (hv : Reads w v (ints l)) (hu : Reads w u (ints m)) :
    Calls Tryd.prog 9 #[v, u] w fun e w' => e = .returned (.bool (decide (l = m))) ∧ Chg [] w w' := by
  obtain ⟨ao, cap, rfl, hm, hc⟩ := hv
  obtain ⟨bo, dap, rfl, hn, hd⟩ := hu
  rw [ints_len] at hm hn ⊢
  rw [ints_len]
  unfold maxLen at hm hn
  by_cases hlen : l.length = m.length
  · rw [← hlen]
    go_enter Tryd.func9, Tryd.ntmps9
    go_wp2
    go_loopw [5] (fun i wr => ∃ k : Nat, k ≤ l.length ∧ i = .int .i64 k ∧ l.take k = m.take k ∧ Chg [] w wr)
      (fun i _ => l.length - (intOf i).toNat)
    case atStart => exact ⟨0, by omega, rfl, rfl, Chg.refl _ _⟩
    case round =>
      obtain ⟨k, hk, rfl, ht, H⟩ := hrel
      have HT := Lib.hid ht
      have HL := Lib.hid hlen
      clear ht
      by_cases hkl : k < l.length
      · have hkm : k < m.length := by omega
        obtain ⟨g, off, rfl, hcell⟩ := hc k _ (ints_get l hkl)
        obtain ⟨g', off', rfl, hdell⟩ := hd k _ (ints_get m hkm)
        have hcell' : wr.cell? ⟨g, off + k, none⟩ = some (.int .i64 l[k]) := by
          rw [World.cell?_of_block (w := w) (H.block g (World.block_lt_of_cell? w _ hcell) (by simp)), hcell]
        have hdell' : wr.cell? ⟨g', off' + k, none⟩ = some (.int .i64 m[k]) := by
          rw [World.cell?_of_block (w := w) (H.block g' (World.block_lt_of_cell? w _ hdell) (by simp)), hdell]
        have HX := Lib.hid (List.take_succ_eq_append_getElem hkl)
        have HY := Lib.hid (List.take_succ_eq_append_getElem hkm)
        clear hcell hdell hc hd hlen
        by_cases he : l[k] = m[k]
        · obtain ⟨x, hx⟩ : ∃ x, x = l[k] := ⟨_, rfl⟩
          rw [← he] at hdell' HY
          rw [← hx] at hcell' hdell' HX HY
          clear hx he
          go_wp2_with fail
          go_quiet (fail)
          go_wp2
          go_roundw
          case rel => exact ⟨k + 1, by omega, by go_num, by rw [HX.out, HY.out, HT.out], H.drewN _⟩
          case measure => simp [intOf] <;> omega
        · have hne : (l[k] == m[k]) = false := by simpa using he
          have hne' : (l[k] != m[k]) = true := by simpa using he
          obtain ⟨x, hx⟩ : ∃ x, x = l[k] := ⟨_, rfl⟩
          obtain ⟨y, hy⟩ : ∃ y, y = m[k] := ⟨_, rfl⟩
          have HD := Lib.hid (show decide (l = m) = false by
            rw [decide_eq_false_iff_not]; intro h; subst h; exact he rfl)
          rw [← hx] at hcell' HX hne hne'
          rw [← hy] at hdell' HY hne hne'
          clear hx hy he
          go_wp2_with fail
          go_quiet (fail)
          go_wp2
          go_ret
          exact ⟨ret_bool HD.out.symm, H.drewN _⟩
      · obtain rfl : k = l.length := by omega
        have HD := Lib.hid (show decide (l = m) = true by
          rw [decide_eq_true_eq]
          have h := HT.out
          rw [List.take_length, HL.out, List.take_length] at h
          exact h)
        clear hc hd hlen
        go_wp2
        go_ret
        exact ⟨ret_bool HD.out.symm, H⟩
  · have HD := Lib.hid (show decide (l = m) = false by
      rw [decide_eq_false_iff_not]; intro h; subst h; exact hlen rfl)
    have hne : ((l.length : Int) != (m.length : Int)) = true := by rw [bne_iff_ne]; omega
    go_enter Tryd.func9, Tryd.ntmps9
    go_wp2
    go_ret
    exact ⟨ret_bool HD.out.symm, Chg.refl _ _⟩
end Go.Proofs.YtlbgabbgfgcppaaDoor
