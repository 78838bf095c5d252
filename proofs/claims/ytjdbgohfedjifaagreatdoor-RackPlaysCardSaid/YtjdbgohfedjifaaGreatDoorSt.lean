/- The reference's sets: what Row, Set, Put, Has, All, Of, List and Same answer. -/
import Derived.Test.YtjdbgohfedjifaaGreatDoorProg
import Derived.Test.YtjdbgohfedjifaaGreatDoorBs
import Derived.KernelRfl
import Derived.Lib.TrailingZeros
import Derived.Laws.Bits64b
import Derived.IntWalk
import Derived.Shelf.Spec.TrailingZeros
import Derived.Laws.ShiftsVarLaws
import Derived.Laws.BitsAllLaws
namespace Go.Proofs.YtjdbgohfedjifaaGreatDoor
open Go.RowKit Bosun

theorem alloc64b (w : World) : (Instr.alloc 118 true (.tuple #[])).run Tryz.prog w = .ok (.pointer (some ⟨w.heap.size, 0, none⟩)) (w.alloc (.cells (boolRow fun _ => false) 118)) := by kernel_rfl
theorem size64b (f : Nat → Bool) : (Tryz.prog.info? 118).map (·.size) = some (boolRow f).size := by rw [boolRow_size]; kernel_rfl

set_option maxHeartbeats 400000 in
theorem row_any (s : Nat) (hs : s < 18446744073709551616) (w : World) :
    Calls Tryz.prog 76 #[.int .u64 s] w fun e w' => e = .returned (.agg (boolRow s.testBit)) ∧ Chg [] w w' := by
  go_enter Tryz.func76, Tryz.ntmps76
  go_wp2
  go_loopw [0, 4] (fun x i wr => ∃ k : Nat, k ≤ 64 ∧ i = .int .i64 k ∧ x = .int .u64 ((s / 2 ^ k : Nat) : Int) ∧
      Blk wr w.heap.size (boolRow fun _ => false) 118 ∧
      Blk wr (w.heap.size + 1) (boolRow fun j => decide (j < k) && s.testBit j) 118 ∧ Chg [] w wr)
    (fun _ i _ => 64 - (intOf i).toNat)
  case atStart =>
    refine ⟨0, by omega, rfl, by simp, (heap_alloc2_old w _ _).trans rfl, (heap_alloc2_new w _ _).trans ?_, ?_⟩
    · rw [boolRow_congr (f := fun j => decide (j < 0) && s.testBit j) (g := fun _ => false) (by simp)]; rfl
    · exact ((Chg.refl _ _).alloc _).alloc _
  case round =>
    obtain ⟨k, hk, rfl, rfl, H0, H1, H2⟩ := hrel
    obtain ⟨y, hy⟩ : ∃ y, y = s / 2 ^ k := ⟨_, rfl⟩
    have hylt : y < 18446744073709551616 := by rw [hy]; exact Nat.lt_of_le_of_lt (Nat.div_le_self _ _) hs
    rw [← hy]
    have HY := Lib.hid hy
    clear hy
    by_cases hk64 : k < 64
    · have hc : wr.cell? ⟨w.heap.size + 1, k, none⟩ = some (.bool false) := by
        rw [H1.cell, boolRow_get _ hk64]; simp
      have hz := H1.frozen k
      go_wp2
      go_roundw
      case rel =>
        refine ⟨k + 1, by omega, by go_num, ?_, H0.setCell_other _ (by simp), ?_, H2.setCell (.inr (by simp)) _⟩
        · rw [Nat.pow_succ, ← Nat.div_div_eq_div_mul, ← HY.out]; go_num
        · have h := H1.setCell k (.bool (decide ((y : Int) % 2 = 1)))
          rw [boolRow_set] at h
          rw [boolRow_congr (f := fun j => decide (j < k + 1) && s.testBit j) (g := fun j => if j = k then decide ((y : Int) % 2 = 1) else decide (j < k) && s.testBit j)]
          · exact h
          · intro j _
            by_cases hj : j = k
            · subst hj
              rw [if_pos rfl, Nat.testBit_eq_decide_div_mod_eq, ← HY.out]
              have h1 : j < j + 1 := by omega
              simp only [h1, decide_true, Bool.true_and]
              congr 1
              exact propext ⟨fun h => by omega, fun h => by omega⟩
            · rw [if_neg hj]
              have : (j < k) = (j < k + 1) := propext ⟨fun h => by omega, fun h => by omega⟩
              simp only [this]
      case measure => simp [intOf] <;> omega
    · obtain rfl : k = 64 := by omega
      go_wp2_with (first
        | (refine wpList_get_row rfl 118 (.tmp 3) rfl (w.heap.size + 1) rfl 118 _ _ H1 Tryz.underlying118 rfl (size64b _) ?_)
        | (refine wpList_put_row rfl 118 (.tmp 2) (.tmp 16) rfl w.heap.size _ rfl rfl 118 _ H0 (size64b _) (by simp only [boolRow_size]) (boolRow_one _) ?_; intro w3 H3 H4))
      have e : (boolRow fun j => decide (j < 64) && s.testBit j) = boolRow s.testBit := boolRow_congr fun j hj => by simp [hj]
      refine bodyPost_ret (results_row rfl _ _ w.heap.size 118 _ _ rfl H3 Tryz.underlying118 rfl (size64b _)) rfl ⟨by rw [e], ?_⟩
      exact H2.then H4 (fun g hg => .inr (by simp at hg; omega))

set_option maxHeartbeats 400000 in
theorem set_any (f : Nat → Bool) (w : World) :
    Calls Tryz.prog 103 #[.agg (boolRow f)] w fun e w' => e = .returned (.int .u64 (ofBits 64 f : Nat)) ∧ Chg [] w w' := by
  go_enter Tryz.func103, Tryz.ntmps103
  go_wp2
  go_loopw [3, 4] (fun x i wr => ((∃ m : Nat, m < 64 ∧ i = .int .i64 m ∧ x = .int .u64 (fromBit f (m + 1) : Nat)) ∨ (i = .int .i64 (-1) ∧ x = .int .u64 (fromBit f 0 : Nat))) ∧
      Blk wr w.heap.size (boolRow f) 118 ∧ Chg [] w wr)
    (fun _ i _ => (intOf i + 1).toNat)
  case atStart => exact ⟨.inl ⟨63, by omega, rfl, by rw [fromBit_end]; rfl⟩, Blk.new _ _ _, (Chg.refl _ _).alloc _⟩
  case round =>
    obtain ⟨h, H1, H2⟩ := hrel
    rcases h with ⟨m, hm, rfl, rfl⟩ | ⟨rfl, rfl⟩
    · have hc : wr.cell? ⟨w.heap.size, m, none⟩ = some (.bool (f m)) := by
        rw [H1.cell, boolRow_get _ hm]
      have hlt := fromBit_lt' f (m + 1) (by omega)
      have HS := Lib.hid (fromBit_step f m hm)
      obtain ⟨y, hy⟩ : ∃ y, y = fromBit f (m + 1) := ⟨_, rfl⟩
      rw [← hy] at hlt HS ⊢
      clear hy
      cases hfm : f m
      all_goals
        rw [hfm] at HS hc
        clear hfm
        go_wp2
        go_roundw
        case rel =>
          refine ⟨?_, H1, H2⟩
          by_cases h0 : m = 0
          · subst h0; exact .inr ⟨by go_num, by rw [HS.out]; simp <;> omega⟩
          · exact .inl ⟨m - 1, by omega, by go_num, by rw [show m - 1 + 1 = m from by omega, HS.out]; simp <;> omega⟩
        case measure => simp [intOf] <;> omega
    · go_wp2
      go_ret
      exact ⟨ret_int (by rw [fromBit_zero]), H2⟩

set_option maxHeartbeats 400000 in
theorem put_any (s : Nat) (hs : s < 18446744073709551616) (i : Int) (b : Bool) (w : World) :
    Calls Tryz.prog 68 #[.int .u64 s, .int .i64 i, .bool b] w fun e w' => e = .returned (.int .u64 (put s i b : Nat)) ∧ Chg [] w w' := by
  by_cases hi : 0 ≤ i ∧ i < 64
  · obtain ⟨h0, h1⟩ := hi
    obtain ⟨k, rfl⟩ := Int.eq_ofNat_of_zero_le h0
    have hk : k < 64 := by omega
    go_enter Tryz.func68, Tryz.ntmps68
    go_wp2_with fail
    refine (row_any s hs _).mono ?_
    rintro e w1 ⟨rfl, H1⟩
    go_wp2_with (first
      | (refine wpList_new_row rfl 118 rfl _ (alloc64b _) ?_; intro w2 H2 H3 H4)
      | (refine wpList_put_row rfl 118 (.tmp 7) (.tmp 9) rfl w1.heap.size _ rfl rfl 118 _ H2 (size64b _) (by simp only [boolRow_size]) (boolRow_one _) ?_; intro w3 H5 H6; have hz := H5.frozen k; have hc : w3.cell? ⟨w1.heap.size, k, none⟩ = some (.bool (s.testBit k)) := by rw [H5.cell, boolRow_get _ hk])
      | (refine wpList_get_row rfl 118 (.tmp 7) rfl w1.heap.size rfl 118 _ _ (H5.setCell k (.bool b)) Tryz.underlying118 rfl (by rw [boolRow_set]; exact size64b _) ?_; rw [boolRow_set])
      | (go_at_call 103; refine (set_any _ _).mono ?_; rintro e w4 ⟨rfl, H7⟩))
    go_ret
    refine ⟨ret_int ?_, ?_⟩
    · refine congrArg _ (ofBits_congr fun j _ => ?_)
      simp only [Int.natCast_inj]
    · exact (((H1.then H3 (by simp)).then H6 (fun g hg => .inr (by simp at hg; have := H1.size; omega))).setCell (.inr H1.size) _).then H7 (by simp)
  · go_enter Tryz.func68, Tryz.ntmps68
    go_wp2_with fail
    refine (row_any s hs _).mono ?_
    rintro e w1 ⟨rfl, H1⟩
    go_wp2_with (first
      | (refine wpList_new_row rfl 118 rfl _ (alloc64b _) ?_; intro w2 H2 H3 H4)
      | (refine wpList_put_row rfl 118 (.tmp 7) (.tmp 9) rfl w1.heap.size _ rfl rfl 118 _ H2 (size64b _) (by simp only [boolRow_size]) (boolRow_one _) ?_; intro w3 H5 H6)
      | (refine wpList_get_row rfl 118 (.tmp 7) rfl w1.heap.size rfl 118 _ _ H5 Tryz.underlying118 rfl (size64b _) ?_)
      | (go_at_call 103; refine (set_any _ _).mono ?_; rintro e w4 ⟨rfl, H7⟩))
    all_goals
      go_ret
      refine ⟨ret_int ?_, ?_⟩
      · rw [ofBits_self hs, put_out hs (by omega)]
      · exact ((H1.then H3 (by simp)).then H6 (fun g hg => .inr (by simp at hg; have := H1.size; omega))).then H7 (by simp)

set_option maxHeartbeats 400000 in
theorem has_any (s : Nat) (hs : s < 18446744073709551616) (i : Int) (w : World) :
    Calls Tryz.prog 48 #[.int .u64 s, .int .i64 i] w fun e w' => e = .returned (.bool (has s i)) ∧ Chg [] w w' := by
  by_cases hi : 0 ≤ i ∧ i < 64
  · obtain ⟨h0, h1⟩ := hi
    obtain ⟨k, rfl⟩ := Int.eq_ofNat_of_zero_le h0
    have hk : k < 64 := by omega
    go_enter Tryz.func48, Tryz.ntmps48
    go_wp2_with fail
    refine (row_any s hs _).mono ?_
    rintro e w1 ⟨rfl, H1⟩
    go_wp2_with (first
      | (refine wpList_new_row rfl 118 rfl _ (alloc64b _) ?_; intro w2 H2 H3 H4)
      | (refine wpList_put_row rfl 118 (.tmp 5) (.tmp 7) rfl w1.heap.size _ rfl rfl 118 _ H2 (size64b _) (by simp only [boolRow_size]) (boolRow_one _) ?_; intro w3 H5 H6; have hc : w3.cell? ⟨w1.heap.size, k, none⟩ = some (.bool (s.testBit k)) := by rw [H5.cell, boolRow_get _ hk]))
    go_ret
    refine ⟨ret_bool ?_, ?_⟩
    · have e1 : decide ((0 : Int) ≤ k) = true := by simp
      have e2 : decide ((k : Int) < 64) = true := by simp; omega
      unfold has
      rw [e1, e2]
      simp
    · exact (H1.then H3 (by simp)).then H6 (fun g hg => .inr (by simp at hg; have := H1.size; omega))
  · have e1 : has s i = false := by
      unfold has
      by_cases h : 0 ≤ i
      · have : decide (i < 64) = false := by simp; omega
        rw [this]; simp
      · have : decide (0 ≤ i) = false := by simp; omega
        rw [this]; simp
    rw [e1]
    clear e1
    go_enter Tryz.func48, Tryz.ntmps48
    go_wp2_with fail
    refine (row_any s hs _).mono ?_
    rintro e w1 ⟨rfl, H1⟩
    by_cases h : 0 ≤ i
    · have h64 : decide (i < 64) = false := by simp; omega
      go_wp2_with (first
        | (refine wpList_new_row rfl 118 rfl _ (alloc64b _) ?_; intro w2 H2 H3 H4)
        | (refine wpList_put_row rfl 118 (.tmp 5) (.tmp 7) rfl w1.heap.size _ rfl rfl 118 _ H2 (size64b _) (by simp only [boolRow_size]) (boolRow_one _) ?_; intro w3 H5 H6))
      go_ret
      exact ⟨rfl, (H1.then H3 (by simp)).then H6 (fun g hg => .inr (by simp at hg; have := H1.size; omega))⟩
    · have h64 : decide (0 ≤ i) = false := by simp; omega
      go_wp2_with (first
        | (refine wpList_new_row rfl 118 rfl _ (alloc64b _) ?_; intro w2 H2 H3 H4)
        | (refine wpList_put_row rfl 118 (.tmp 5) (.tmp 7) rfl w1.heap.size _ rfl rfl 118 _ H2 (size64b _) (by simp only [boolRow_size]) (boolRow_one _) ?_; intro w3 H5 H6))
      go_ret
      exact ⟨rfl, (H1.then H3 (by simp)).then H6 (fun g hg => .inr (by simp at hg; have := H1.size; omega))⟩

theorem allBelow_out (n : Int) (k : Nat) (h : (k = 64 ∧ (64 : Int) ≤ n) ∨ (k : Int) = n ∨ (k = 0 ∧ n ≤ 0)) : allBelow k = allBelow n := by
  refine ofBits_congr fun j hj => ?_
  congr 1
  exact propext ⟨fun h => by omega, fun h => by omega⟩

theorem infoInt : (Tryz.prog.info? 3).map (fun i => (i.zero, i.size, i.bytes)) = some (some (.int .i64 0), 1, 8) := by kernel_rfl

set_option maxHeartbeats 400000 in
theorem list_any (s : Nat) (hs : s < 18446744073709551616) (w : World) :
    Calls Tryz.prog 74 #[.int .u64 s] w fun e w' => ∃ v, e = .returned v ∧ Own w' w.heap.size 3 v (nats (members s)) ∧ Chg [] w w' := by
  go_enter Tryz.func74, Tryz.ntmps74
  go_wp2_with fail
  refine (row_any s hs _).mono ?_
  rintro e w1 ⟨rfl, H1⟩
  go_wp2_with (first
    | (refine wpList_new_row rfl 118 rfl _ (alloc64b _) ?_; intro w2 H2 H3 H4)
    | (refine wpList_put_row rfl 118 (.tmp 4) (.tmp 7) rfl w1.heap.size _ rfl rfl 118 _ H2 (size64b _) (by simp only [boolRow_size]) (boolRow_one _) ?_; intro w3 H5 H6))
  have H7 : Chg [] w w3 := (H1.then H3 (by simp)).then H6 (fun g hg => .inr (by simp at hg; have := H1.size; omega))
  have hB := H5.lt
  have hsz := H1.size
  clear H2 H3 H4 H6
  go_loopw [3, 5] (fun v i wr => ∃ k : Nat, k ≤ 64 ∧ i = .int .i64 k ∧ Own wr (w1.heap.size + 1) 3 v (nats (membersTo s k)) ∧
      Blk wr w1.heap.size (boolRow s.testBit) 118 ∧ Chg [] w wr ∧ w1.heap.size + 1 ≤ wr.heap.size)
    (fun _ i _ => 64 - (intOf i).toNat)
  case atStart => exact ⟨0, by omega, rfl, Own.nil _ _ _, H5, H7, hB⟩
  case round =>
    obtain ⟨k, hk, rfl, hown, HB, H, hsz2⟩ := hrel
    by_cases hk64 : k < 64
    · have hc : wr.cell? ⟨w1.heap.size, k, none⟩ = some (.bool (s.testBit k)) := by rw [HB.cell, boolRow_get _ hk64]
      have hlen := membersTo_len s k
      cases hb : s.testBit k
      · rw [hb] at hc
        have HS := Lib.hid (membersTo_no s k hb)
        clear hb
        go_wp2
        go_roundw
        case rel => exact ⟨k + 1, by omega, by go_num, by rw [HS.out]; exact hown, HB, H, hsz2⟩
        case measure => simp [intOf] <;> omega
      · rw [hb] at hc
        have HS := Lib.hid (membersTo_yes s k hb)
        clear hb
        go_wp2_with (first
          | (refine wpList_app1 rfl (.tmp 15) (.tmp 17) 116 rfl (w1.heap.size + 1) 3 (.int .i64 0) 8 Tryz.underlying116 infoInt rfl _ _ rfl (hown.alloc _) wr.heap.size 1 (.int .i64 k) rfl (by go_simp) rfl (by rw [nats_len]; unfold maxLen; omega) (by rw [nats_len]; omega) (by simp; omega) ?_; intro v' w4 H8 H9))
        go_roundw
        case rel =>
          have hblk := hown.block
          refine ⟨k + 1, by omega, by go_num, by rw [HS.out, nats_snoc]; exact H8, (HB.alloc _).chg H9 (fun hm => ?_), (H.alloc _).then H9 (fun g hg => .inr ?_), Nat.le_trans hsz2 (Nat.le_trans (by simp) H9.size)⟩
          · have := hblk _ hm; omega
          · have := hblk _ hg; omega
        case measure => simp [intOf] <;> omega
    · obtain rfl : k = 64 := by omega
      go_wp2
      go_ret
      exact ⟨_, rfl, hown.mono (by omega), H⟩

end Go.Proofs.YtjdbgohfedjifaaGreatDoor

/- How many bits a word has, plainly: by bytes. No program in sight. -/
namespace Bosun
/-- A word out of its bytes. -/
def valB : List Nat → Nat
  | [] => 0
  | b :: l => b + 256 * valB l
def Bytes (l : List Nat) : Prop := ∀ b ∈ l, b < 256
theorem valB_lt : ∀ l : List Nat, Bytes l → valB l < 256 ^ l.length
  | [], _ => by simp [valB]
  | b :: l, h => by
    have h1 := valB_lt l (fun x hx => h x (List.mem_cons_of_mem _ hx))
    have h2 := h b (List.mem_cons_self ..)
    rw [List.length_cons, Nat.pow_succ, valB]
    generalize 256 ^ l.length = p at *
    omega
theorem and_split (a c m M : Nat) (ha : a < 256) (hm : m < 256) : (a + 256 * c) &&& (m + 256 * M) = (a &&& m) + 256 * (c &&& M) := by
  have t : ∀ (b y j : Nat), b < 256 → (b + 256 * y).testBit j = if j < 8 then b.testBit j else y.testBit (j - 8) := fun b y j hb => by
    rw [Nat.add_comm, show (256 : Nat) = 2 ^ 8 from rfl]
    exact Nat.testBit_two_pow_mul_add y (by omega) j
  have hand : (a &&& m) < 256 := Nat.lt_of_le_of_lt Nat.and_le_left ha
  apply Nat.eq_of_testBit_eq
  intro j
  rw [Nat.testBit_and, t _ _ _ ha, t _ _ _ hm, t _ _ _ hand]
  split
  · rw [Nat.testBit_and]
  · rw [Nat.testBit_and]
theorem shift_and {k m : Nat} (hk : k = 1 ∧ m = 85 ∨ k = 2 ∧ m = 51) : ∀ l : List Nat, Bytes l → (valB l / 2 ^ k) &&& valB (l.map fun _ => m) = valB (l.map fun b => (b / 2 ^ k) &&& m)
  | [], _ => by simp [valB]
  | b :: l, h => by
    have ih := shift_and hk l (fun x hx => h x (List.mem_cons_of_mem _ hx))
    have hb := h b (List.mem_cons_self ..)
    simp only [List.map_cons, valB]
    have key1 : ∀ b, b < 256 → ∀ r, r < 2 → ((b / 2 ^ 1 + 128 * r) &&& 85) = ((b / 2 ^ 1) &&& 85) := by decide +kernel
    have key2 : ∀ b, b < 256 → ∀ r, r < 4 → ((b / 2 ^ 2 + 64 * r) &&& 51) = ((b / 2 ^ 2) &&& 51) := by decide +kernel
    rcases hk with ⟨rfl, rfl⟩ | ⟨rfl, rfl⟩
    · have e : (b + 256 * valB l) / 2 ^ 1 = (b / 2 ^ 1 + 128 * (valB l % 2)) + 256 * (valB l / 2 ^ 1) := by omega
      rw [e, and_split _ _ _ _ (by omega) (by omega), key1 b hb _ (Nat.mod_lt _ (by omega)), ih]
    · have e : (b + 256 * valB l) / 2 ^ 2 = (b / 2 ^ 2 + 64 * (valB l % 4)) + 256 * (valB l / 2 ^ 2) := by omega
      rw [e, and_split _ _ _ _ (by omega) (by omega), key2 b hb _ (Nat.mod_lt _ (by omega)), ih]
theorem and_mask (m : Nat) (hm : m < 256) : ∀ l : List Nat, Bytes l → valB l &&& valB (l.map fun _ => m) = valB (l.map fun b => b &&& m)
  | [], _ => by simp [valB]
  | b :: l, h => by
    simp only [List.map_cons, valB]
    rw [and_split _ _ _ _ (h b (List.mem_cons_self ..)) hm, and_mask m hm l (fun x hx => h x (List.mem_cons_of_mem _ hx))]
theorem valB_add (f g : Nat → Nat) : ∀ l : List Nat, valB (l.map f) + valB (l.map g) = valB (l.map fun b => f b + g b)
  | [] => rfl
  | b :: l => by
    have := valB_add f g l
    simp only [List.map_cons, valB]
    omega
def Nib (l : List Nat) : Prop := ∀ b ∈ l, b / 16 ≤ 4 ∧ b % 16 ≤ 4
theorem nib_and : ∀ l : List Nat, Nib l → (valB l / 16 + valB l) &&& valB (l.map fun _ => 15) = valB (l.map fun b => b / 16 + b % 16)
  | [], _ => by simp [valB]
  | b :: l, h => by
    have hl : Nib l := fun x hx => h x (List.mem_cons_of_mem _ hx)
    have ih := nib_and l hl
    obtain ⟨b1, b2⟩ := h b (List.mem_cons_self ..)
    have hv : valB l % 16 ≤ 4 := by
      cases l with
      | nil => simp [valB]
      | cons c l =>
        have := (hl c (List.mem_cons_self ..)).2
        rw [valB]; omega
    simp only [List.map_cons, valB]
    have e : (b + 256 * valB l) / 16 + (b + 256 * valB l) = (b / 16 + 16 * (valB l % 16) + b) + 256 * (valB l / 16 + valB l) := by omega
    have key : ∀ x, x < 256 → (x &&& 15) = x % 16 := by decide +kernel
    rw [e, and_split _ _ _ _ (by omega) (by omega), ih, key _ (by omega)]
    omega
/-- The bits of a byte. -/
def popB (b : Nat) : Nat := b % 2 + b / 2 % 2 + b / 4 % 2 + b / 8 % 2 + b / 16 % 2 + b / 32 % 2 + b / 64 % 2 + b / 128 % 2
def g1 (b : Nat) : Nat := ((b / 2 ^ 1) &&& 85) + (b &&& 85)
def g2 (b : Nat) : Nat := ((b / 2 ^ 2) &&& 51) + (b &&& 51)
def g3 (b : Nat) : Nat := b / 16 + b % 16
theorem g_all : ∀ b, b < 256 → g1 b < 256 ∧ g2 (g1 b) < 256 ∧ g2 (g1 b) / 16 ≤ 4 ∧ g2 (g1 b) % 16 ≤ 4 ∧ g3 (g2 (g1 b)) = popB b := by decide +kernel
theorem popB_le (b : Nat) : popB b ≤ 8 := by unfold popB; omega
/-- How many of the first n bits are there. -/
def cnt (n s : Nat) : Nat := ((List.range n).filter s.testBit).length
theorem cnt_split (n b y : Nat) (hb : b < 256) : cnt (8 + n) (b + 256 * y) = cnt 8 b + cnt n y := by
  have t : ∀ (j : Nat), (b + 256 * y).testBit j = if j < 8 then b.testBit j else y.testBit (j - 8) := fun j => by
    rw [Nat.add_comm, show (256 : Nat) = 2 ^ 8 from rfl]
    exact Nat.testBit_two_pow_mul_add y (by omega) j
  unfold cnt
  rw [List.range_add, List.filter_append, List.length_append]
  congr 1
  · congr 1
    refine List.filter_congr fun j hj => ?_
    rw [t, if_pos (by simpa using hj)]
  · rw [List.filter_map, List.length_map]
    congr 1
    refine List.filter_congr fun j hj => ?_
    simp only [Function.comp]
    rw [t, if_neg (by omega), Nat.add_sub_cancel_left]
theorem cnt8 : ∀ b, b < 256 → cnt 8 b = popB b := by decide +kernel
theorem cnt_bytes : ∀ l : List Nat, Bytes l → cnt (8 * l.length) (valB l) = (l.map popB).sum
  | [], _ => rfl
  | b :: l, h => by
    have hb := h b (List.mem_cons_self ..)
    rw [List.length_cons, show 8 * (l.length + 1) = 8 + 8 * l.length from by omega, valB, cnt_split _ _ _ hb, cnt8 b hb, cnt_bytes l (fun x hx => h x (List.mem_cons_of_mem _ hx))]
    simp
/-- The eight bytes of a word. -/
def bytes8 (x : Nat) : List Nat := [x % 256, x / 256 % 256, x / 65536 % 256, x / 16777216 % 256, x / 4294967296 % 256, x / 1099511627776 % 256, x / 281474976710656 % 256, x / 72057594037927936 % 256]
theorem bytes8_val {x : Nat} (h : x < 18446744073709551616) : valB (bytes8 x) = x := by unfold bytes8; simp only [valB]; omega
theorem bytes8_ok (x : Nat) : Bytes (bytes8 x) := by
  intro b hb
  simp only [bytes8, List.mem_cons, List.mem_nil_iff, or_false] at hb
  rcases hb with rfl | rfl | rfl | rfl | rfl | rfl | rfl | rfl <;> exact Nat.mod_lt _ (by omega)
/-- The words between, and the last one. -/
def pop1 (x : Nat) : Nat := ((x / 2) &&& 6148914691236517205) + (x &&& 6148914691236517205)
def pop2 (x : Nat) : Nat := ((x / 4) &&& 3689348814741910323) + (x &&& 3689348814741910323)
def pop3 (x : Nat) : Nat := (x / 16 + x) &&& 1085102592571150095
theorem map_bytes {f : Nat → Nat} {l : List Nat} (h : ∀ b ∈ l, f b < 256) : Bytes (l.map f) := by
  intro b hb
  obtain ⟨a, ha, rfl⟩ := List.mem_map.1 hb
  exact h a ha
theorem pop_steps {x : Nat} (h : x < 18446744073709551616) : pop1 x = valB ((bytes8 x).map g1) ∧ pop2 (pop1 x) = valB (((bytes8 x).map g1).map g2) ∧ pop3 (pop2 (pop1 x)) = valB ((((bytes8 x).map g1).map g2).map g3) := by
  have hb := bytes8_ok x
  have m1 : valB ((bytes8 x).map fun _ => 85) = 6148914691236517205 := by simp [bytes8, valB]
  have e1 : pop1 x = valB ((bytes8 x).map g1) := by
    have a := shift_and (k := 1) (m := 85) (.inl ⟨rfl, rfl⟩) _ hb
    have c := and_mask 85 (by omega) _ hb
    rw [m1, bytes8_val h] at a c
    unfold pop1
    rw [show x / 2 = x / 2 ^ 1 from rfl, a, c, valB_add]
    rfl
  have hb1 : Bytes ((bytes8 x).map g1) := map_bytes fun b hq => (g_all b (hb b hq)).1
  have e2 : pop2 (pop1 x) = valB (((bytes8 x).map g1).map g2) := by
    have a := shift_and (k := 2) (m := 51) (.inr ⟨rfl, rfl⟩) _ hb1
    have c := and_mask 51 (by omega) _ hb1
    have m2 : valB (((bytes8 x).map g1).map fun _ => 51) = 3689348814741910323 := by simp [bytes8, valB]
    rw [m2] at a c
    unfold pop2
    rw [e1, show ∀ y, y / 4 = y / 2 ^ 2 from fun y => rfl, a, c, valB_add]
    rfl
  refine ⟨e1, e2, ?_⟩
  have hn : Nib (((bytes8 x).map g1).map g2) := by
    intro b hq
    obtain ⟨c, hc, rfl⟩ := List.mem_map.1 hq
    obtain ⟨d, hd, rfl⟩ := List.mem_map.1 hc
    have := g_all d (hb d hd)
    exact ⟨this.2.2.1, this.2.2.2.1⟩
  have a := nib_and _ hn
  have m3 : valB ((((bytes8 x).map g1).map g2).map fun _ => 15) = 1085102592571150095 := by simp [bytes8, valB]
  rw [m3] at a
  unfold pop3
  rw [e2, a]
  rfl
theorem pop3_bytes {x : Nat} (h : x < 18446744073709551616) : pop3 (pop2 (pop1 x)) = valB ((bytes8 x).map popB) := by
  rw [(pop_steps h).2.2, List.map_map, List.map_map]
  congr 1
  refine List.map_congr_left fun b hb => ?_
  exact (g_all b (bytes8_ok x b hb)).2.2.2.2
theorem members_cnt (s : Nat) : (members s).length = cnt 64 s := rfl
theorem members_pop {x : Nat} (h : x < 18446744073709551616) : (members x).length = ((bytes8 x).map popB).sum := by
  rw [members_cnt]
  have := cnt_bytes _ (bytes8_ok x)
  rw [bytes8_val h] at this
  exact this
/-- The bytes added up. -/
theorem fold_y {p0 p1 p2 x y X1 X2 X3 : Nat} (hx : x = p0 + 256 * X1) (h1 : X1 = p1 + 256 * X2) (h2 : X2 = p2 + 256 * X3) (b0 : p0 ≤ 8) (hy : y = x + x / 256) : y = (p0 + p1) + 256 * (p1 + p2) + 65536 * (X2 + X3) := by
  have : x / 256 = X1 := by omega
  omega
theorem fold_z {a c X2 X3 y z : Nat} (hy : y = a + 256 * c + 65536 * (X2 + X3)) (ha : a ≤ 16) (hc : c ≤ 16) (hz : z = y + y / 65536) : z = y + (X2 + X3) := by
  have : y / 65536 = X2 + X3 := by omega
  omega
theorem fold_t {q0 q1 q2 q3 T z t : Nat} (hz : z = q0 + 256 * q1 + 65536 * q2 + 16777216 * q3 + 4294967296 * T) (h0 : q0 ≤ 32) (h1 : q1 ≤ 32) (h2 : q2 ≤ 32) (h3 : q3 ≤ 32) (ht : t = z + z / 4294967296) : t = z + T := by
  have : z / 4294967296 = T := by omega
  omega
theorem fold_sum (p0 p1 p2 p3 p4 p5 p6 p7 X1 X2 X3 X4 X5 X6 : Nat) (h0 : p0 ≤ 8) (h1 : p1 ≤ 8) (h2 : p2 ≤ 8) (h3 : p3 ≤ 8) (h4 : p4 ≤ 8) (h5 : p5 ≤ 8) (h6 : p6 ≤ 8) (h7 : p7 ≤ 8) (x y z t : Nat)
    (hx : x = p0 + 256 * X1) (e1 : X1 = p1 + 256 * X2) (e2 : X2 = p2 + 256 * X3) (e3 : X3 = p3 + 256 * X4) (e4 : X4 = p4 + 256 * X5) (e5 : X5 = p5 + 256 * X6) (e6 : X6 = p6 + 256 * p7) (hy : y = x + x / 256) (hz : z = y + y / 65536) (ht : t = z + z / 4294967296) :
    t % 128 = p0 + p1 + p2 + p3 + p4 + p5 + p6 + p7 ∧ t < 9223372036854775808 := by
  have ey := fold_y hx e1 e2 h0 hy
  have ez := fold_z ey (by omega) (by omega) hz
  have ez2 : z = (p0 + p1 + p2 + p3) + 256 * (p1 + p2 + p3 + p4) + 65536 * (p2 + p3 + p4 + p5) + 16777216 * (p3 + p4 + p5 + p6) + 4294967296 * (X4 + X5 + X6 + p7) := by omega
  have et := fold_t ez2 (by omega) (by omega) (by omega) (by omega) ht
  clear hx hy hz ht ey ez e1 e2 e3
  have ks : X4 + X5 + X6 + p7 = (p4 + p5 + p6 + p7) + 256 * (X5 + X6 + p7) := by omega
  have hb : X4 + X5 + X6 + p7 ≤ 4294967295 / 8 := by omega
  generalize X4 + X5 + X6 + p7 = T at *
  generalize X5 + X6 + p7 = U at *
  clear e4 e5 e6
  constructor
  · have : t = (p0 + p1 + p2 + p3 + p4 + p5 + p6 + p7) + 128 * (2 * (p1 + p2 + p3 + p4) + 512 * (p2 + p3 + p4 + p5) + 131072 * (p3 + p4 + p5 + p6) + 33554432 * T + 2 * U) := by omega
    rw [this, Nat.add_mul_mod_self_left]
    exact Nat.mod_eq_of_lt (by omega)
  · omega
theorem fold_fin {p0 p1 p2 p3 p4 p5 p6 p7 P : Nat} (h0 : p0 ≤ 8) (h1 : p1 ≤ 8) (h2 : p2 ≤ 8) (h3 : p3 ≤ 8) (h4 : p4 ≤ 8) (h5 : p5 ≤ 8) (h6 : p6 ≤ 8) (h7 : p7 ≤ 8)
    (hP : P = p0 + 256 * (p1 + 256 * (p2 + 256 * (p3 + 256 * (p4 + 256 * (p5 + 256 * (p6 + 256 * (p7 + 256 * 0)))))))) :
    ∃ y z t, y = P + P / 256 ∧ z = y + y / 65536 ∧ t = z + z / 4294967296 ∧ t % 128 = p0 + (p1 + (p2 + (p3 + (p4 + (p5 + (p6 + (p7 + 0))))))) ∧ t < 9223372036854775808 := by
  obtain ⟨X6, e6⟩ : ∃ X6, X6 = p6 + 256 * p7 := ⟨_, rfl⟩
  obtain ⟨X5, e5⟩ : ∃ X5, X5 = p5 + 256 * X6 := ⟨_, rfl⟩
  obtain ⟨X4, e4⟩ : ∃ X4, X4 = p4 + 256 * X5 := ⟨_, rfl⟩
  obtain ⟨X3, e3⟩ : ∃ X3, X3 = p3 + 256 * X4 := ⟨_, rfl⟩
  obtain ⟨X2, e2⟩ : ∃ X2, X2 = p2 + 256 * X3 := ⟨_, rfl⟩
  obtain ⟨X1, e1⟩ : ∃ X1, X1 = p1 + 256 * X2 := ⟨_, rfl⟩
  have hP2 : P = p0 + 256 * X1 := by rw [e1, e2, e3, e4, e5, e6, hP, Nat.mul_zero, Nat.add_zero]
  obtain ⟨y, hy⟩ : ∃ y, y = P + P / 256 := ⟨_, rfl⟩
  obtain ⟨z, hz⟩ : ∃ z, z = y + y / 65536 := ⟨_, rfl⟩
  obtain ⟨t, ht⟩ : ∃ t, t = z + z / 4294967296 := ⟨_, rfl⟩
  obtain ⟨c1, c2⟩ := fold_sum _ _ _ _ _ _ _ _ _ _ _ _ _ _ h0 h1 h2 h3 h4 h5 h6 h7 P y z t hP2 e1 e2 e3 e4 e5 e6 hy hz ht
  exact ⟨y, z, t, hy, hz, ht, by rw [c1]; omega, c2⟩
/-- How many members a set has, by the words between. -/
theorem pop_count {x : Nat} (h : x < 18446744073709551616) : ∃ y z t, y = pop3 (pop2 (pop1 x)) + pop3 (pop2 (pop1 x)) / 256 ∧ z = y + y / 65536 ∧ t = z + z / 4294967296 ∧ t % 128 = (members x).length ∧ t < 9223372036854775808 ∧
    pop1 x < 18446744073709551616 ∧ pop2 (pop1 x) < 18446744073709551616 ∧ pop2 (pop1 x) / 16 + pop2 (pop1 x) < 18446744073709551616 := by
  obtain ⟨s1, s2, _⟩ := pop_steps h
  have hb := bytes8_ok x
  have l1 := valB_lt ((bytes8 x).map g1) (map_bytes fun b hq => (g_all b (hb b hq)).1)
  have l2 : valB (((bytes8 x).map g1).map g2) ≤ 4919131752989213764 := by
    have hn : ∀ c ∈ ((bytes8 x).map g1).map g2, c ≤ 68 := fun c hc => by
      obtain ⟨d, hd, rfl⟩ := List.mem_map.1 hc
      obtain ⟨e, he, rfl⟩ := List.mem_map.1 hd
      have := g_all e (hb e he)
      omega
    have : ∀ l : List Nat, l.length = 8 → (∀ c ∈ l, c ≤ 68) → valB l ≤ 4919131752989213764 := by
      intro l hl hc
      match l, hl with
      | [a, b, c, d, e, f, g, i], _ =>
        simp only [List.mem_cons, List.mem_nil_iff, or_false, forall_eq_or_imp, forall_eq] at hc
        simp only [valB]
        omega
    exact this _ (by simp [bytes8]) hn
  have p := fun b => popB_le b
  have hs := pop3_bytes h
  have hm := members_pop h
  unfold bytes8 at hs hm
  simp only [List.map_cons, List.map_nil, valB, List.sum_cons, List.sum_nil] at hs hm
  obtain ⟨y, z, t, q1, q2, q3, q4, q5⟩ := fold_fin (p _) (p _) (p _) (p _) (p _) (p _) (p _) (p _) hs
  refine ⟨y, z, t, q1, q2, q3, q4.trans hm.symm, q5, ?_, ?_, ?_⟩
  · rw [s1]
    have : (256 : Nat) ^ ((bytes8 x).map g1).length = 18446744073709551616 := by simp [bytes8]
    omega
  · rw [s2]; omega
  · rw [s2]; omega
end Bosun

/- The least member of a set; a set without its least member; one of the members, plainly. No program in sight. -/
namespace Bosun
open Go
/-- The first of the numbers below n that p holds of is k: the others are those behind it. -/
theorem filter_first {p : Nat → Bool} {k : Nat} (hk : p k = true) (hb : ∀ j, j < k → p j = false) (n : Nat) :
    (List.range n).filter p = if k < n then k :: (List.range n).filter (fun j => decide (k < j) && p j) else [] := by
  induction n with
  | zero => simp
  | succ n ih =>
    rw [List.range_succ, List.filter_append, List.filter_append, ih]
    rcases Nat.lt_trichotomy k n with h | h | h
    · rw [if_pos h, if_pos (by omega)]
      simp [h, List.filter_cons]
    · subst h
      rw [if_neg (by omega), if_pos (by omega)]
      have : (List.range k).filter (fun j => decide (k < j) && p j) = [] := by
        rw [List.filter_eq_nil_iff]
        intro j hj
        have : j < k := by simpa using hj
        simp; omega
      rw [this]
      simp [hk]
    · rw [if_neg (by omega), if_neg (by omega)]
      simp [hb n h]
theorem tb_split (k c r j : Nat) (hr : r < 2 ^ k) : (2 ^ k * c + r).testBit j = if j < k then r.testBit j else c.testBit (j - k) := Nat.testBit_two_pow_mul_add c hr j
/-- The lowest bit. -/
theorem low_bit {s : Nat} (h0 : s ≠ 0) (h : s < 18446744073709551616) : s.testBit (Lib.ctz 64 s) = true ∧ (∀ j, j < Lib.ctz 64 s → s.testBit j = false) ∧ Lib.ctz 64 s < 64 ∧
    ∀ j, (s &&& (s - 1)).testBit j = (decide (Lib.ctz 64 s < j) && s.testBit j) := by
  obtain ⟨m, hm, hk⟩ := Lib.ctzFrom_spec 64 s (by omega) (by simpa using h)
  have hc : Lib.ctz 64 s = Lib.ctzFrom 64 s := by unfold Lib.ctz; rw [if_neg h0]
  rw [hc]
  generalize Lib.ctzFrom 64 s = k at *
  have hp : 0 < 2 ^ k := Nat.two_pow_pos k
  have es : ∀ j, s.testBit j = if j < k then false else (2 * m + 1).testBit (j - k) := fun j => by
    have := tb_split k (2 * m + 1) 0 j hp
    rw [Nat.add_zero, ← hm] at this
    rw [this, Nat.zero_testBit]
  have e1 : s - 1 = 2 ^ k * (2 * m) + (2 ^ k - 1) := by rw [hm, Nat.mul_add, Nat.mul_one]; omega
  have e2 : ∀ j, (s - 1).testBit j = if j < k then (2 ^ k - 1).testBit j else (2 * m).testBit (j - k) := fun j => by rw [e1]; exact tb_split k (2 * m) (2 ^ k - 1) j (by omega)
  have odd : (2 * m + 1).testBit 0 = true := by simp [Nat.testBit_zero]
  have even : (2 * m).testBit 0 = false := by simp [Nat.testBit_zero]
  have up : ∀ i, (2 * m).testBit (i + 1) = (2 * m + 1).testBit (i + 1) := fun i => by
    rw [Nat.testBit_succ, Nat.testBit_succ, show 2 * m / 2 = m from by omega, show (2 * m + 1) / 2 = m from by omega]
  refine ⟨?_, fun j hj => by rw [es, if_pos hj], hk, fun j => ?_⟩
  · rw [es, if_neg (by omega), Nat.sub_self]; exact odd
  · rw [Nat.testBit_and, es, e2]
    by_cases h1 : j < k
    · rw [if_pos h1, if_pos h1]; simp
    · rw [if_neg h1, if_neg h1]
      by_cases h2 : j = k
      · subst h2; rw [Nat.sub_self, even]; simp
      · obtain ⟨i, hi⟩ : ∃ i, j - k = i + 1 := ⟨j - k - 1, by omega⟩
        rw [hi, up, decide_eq_true (show k < j by omega)]; simp
theorem members_low {s : Nat} (h0 : s ≠ 0) (h : s < 18446744073709551616) : members s = Lib.ctz 64 s :: members (s &&& (s - 1)) := by
  obtain ⟨a, b, c, d⟩ := low_bit h0 h
  unfold members
  rw [filter_first a b, if_pos c]
  congr 1
  refine List.filter_congr fun j _ => ?_
  rw [d]
theorem members_zero : members 0 = [] := by decide
theorem members_nil_iff {s : Nat} (h : s < 18446744073709551616) : members s = [] ↔ s = 0 := by
  constructor
  · intro hs
    by_cases h0 : s = 0
    · exact h0
    · rw [members_low h0 h] at hs; cases hs
  · intro hs; subst hs; exact members_zero
/-- The least member; -1: there is none. -/
def leastI (s : Nat) : Int := match members s with | [] => -1 | a :: _ => (a : Nat)
theorem leastI_zero : leastI 0 = -1 := by unfold leastI; rw [members_zero]
theorem leastI_low {s : Nat} (h0 : s ≠ 0) (h : s < 18446744073709551616) : leastI s = (Lib.ctz 64 s : Nat) := by unfold leastI; rw [members_low h0 h]
theorem drop_least {l : List Nat} {k : Nat} (hk : k < l.length) {s : Nat} (hs : members s = l.drop k) : leastI s = (l[k] : Nat) := by
  unfold leastI
  rw [hs, List.drop_eq_getElem_cons hk]
theorem members_le (s : Nat) : (members s).length ≤ 64 := by
  have := List.length_filter_le s.testBit (List.range 64)
  simpa [members] using this
theorem members_mem {s a : Nat} (h : a ∈ members s) : a < 64 ∧ s.testBit a = true := by
  simp only [members, List.mem_filter, List.mem_range] at h
  exact h
/-- One more turn: the list loses its head. -/
theorem drop_turn {l : List Nat} {k : Nat} (hk : k < l.length) {s : Nat} (h : s < 18446744073709551616) (hs : members s = l.drop k) : s ≠ 0 ∧ members (s &&& (s - 1)) = l.drop (k + 1) := by
  have h0 : s ≠ 0 := fun e => by
    subst e
    rw [members_zero, List.drop_eq_getElem_cons hk] at hs
    cases hs
  refine ⟨h0, ?_⟩
  rw [members_low h0 h, List.drop_eq_getElem_cons hk] at hs
  injection hs
end Bosun

/- sets: how many members; the least one. -/
namespace Bosun
open Go
theorem bits_and_i64_nat (a b : Nat) (ha : a < 9223372036854775808) (hb : b < 9223372036854775808) : bits .and .i64 (a : Int) (b : Int) = ((a &&& b : Nat) : Int) := by
  have hx : a &&& b < 2 ^ 63 := Nat.and_lt_two_pow _ (by omega)
  have h1 : (BitVec.ofInt 64 (a : Int)).toNat = a := by
    rw [BitVec.ofInt_natCast, BitVec.toNat_ofNat]; exact Nat.mod_eq_of_lt (by omega)
  have h2 : (BitVec.ofInt 64 (b : Int)).toNat = b := by
    rw [BitVec.ofInt_natCast, BitVec.toNat_ofNat]; exact Nat.mod_eq_of_lt (by omega)
  show IntKind.i64.wrap ((BitVec.ofInt 64 (a : Int) &&& BitVec.ofInt 64 (b : Int)).toNat : Int) = _
  rw [BitVec.toNat_and, h1, h2, IntKind.wrap_i64]
  omega
theorem cnt_r1 {x : Nat} (h : x < 18446744073709551616) (h1 : pop1 x < 18446744073709551616) : IntKind.u64.wrap (bits .and .u64 ((x : Int) / 2) 6148914691236517205 + bits .and .u64 (x : Int) 6148914691236517205) = (pop1 x : Nat) := by
  rw [show ((x : Int) / 2) = ((x / 2 : Nat) : Int) from by omega, show (6148914691236517205 : Int) = ((6148914691236517205 : Nat) : Int) from rfl, bits_and_u64_nat _ _ (by omega) (by omega), bits_and_u64_nat _ _ h (by omega), IntKind.wrap_u64]
  unfold pop1 at *
  omega
theorem cnt_r2 {x : Nat} (h : x < 18446744073709551616) (h1 : pop2 x < 18446744073709551616) : IntKind.u64.wrap (bits .and .u64 ((x : Int) / 4) 3689348814741910323 + bits .and .u64 (x : Int) 3689348814741910323) = (pop2 x : Nat) := by
  rw [show ((x : Int) / 4) = ((x / 4 : Nat) : Int) from by omega, show (3689348814741910323 : Int) = ((3689348814741910323 : Nat) : Int) from rfl, bits_and_u64_nat _ _ (by omega) (by omega), bits_and_u64_nat _ _ h (by omega), IntKind.wrap_u64]
  unfold pop2 at *
  omega
theorem cnt_r3 {x : Nat} (h : x / 16 + x < 18446744073709551616) : bits .and .u64 (IntKind.u64.wrap ((x : Int) / 16 + (x : Int))) 1085102592571150095 = (pop3 x : Nat) := by
  rw [show IntKind.u64.wrap ((x : Int) / 16 + (x : Int)) = ((x / 16 + x : Nat) : Int) from by rw [IntKind.wrap_u64]; omega, show (1085102592571150095 : Int) = ((1085102592571150095 : Nat) : Int) from rfl, bits_and_u64_nat _ _ (by omega) (by omega)]
  rfl
end Bosun
namespace Go.Proofs.YtjdbgohfedjifaaGreatDoor
open Go.RowKit Bosun
/-- The table lies where the program keeps it. -/
abbrev TabW (w : World) : Prop := TabAt 0 Lib.deBruijn64tab w
theorem TabW.keep {w w' : World} (h : TabW w) (C : Chg [] w w') : TabW w' := fun j hj => (World.cell?_of_block (C.block _ (World.block_lt_of_cell? _ _ (h j hj)) (by simp))).trans (h j hj)
set_option maxHeartbeats 1000000 in
theorem tz_any (x : Nat) (h0 : x ≠ 0) (hx : x < 18446744073709551616) (w : World) (hT : TabW w) :
    Calls Tryz.prog 75 #[.int .u64 (x : Nat)] w fun e w' => e = .returned (.int .i64 (Lib.ctz 64 x : Nat)) ∧ w = w' := by
  obtain ⟨hlow, hk⟩ := Lib.lowest_bit 64 x h0 hx
  obtain ⟨hi, htab⟩ := Lib.deBruijn64_at _ hk
  have hcell := hT _ hi
  rw [htab] at hcell
  have key := tz64_key x _ hx h0 hlow
  have hx0 : ((x : Int) == 0) = false := by simp; omega
  obtain ⟨k, hke⟩ : ∃ k, k = Lib.ctz 64 x := ⟨_, rfl⟩
  rw [← hke] at hcell key hk hi ⊢
  obtain ⟨idx, hidx⟩ : ∃ idx, idx = 2 ^ k * 285870213051353865 % 18446744073709551616 / 288230376151711744 := ⟨_, rfl⟩
  rw [← hidx] at hcell key hi
  have i0 : (0 : Int) ≤ (idx : Int) := by omega
  have i1 : (idx : Int) < 64 := by omega
  clear hlow htab hke hidx hT h0
  go_enter Tryz.func75, Tryz.ntmps75
  go_wp2_with (simp only [key])
  go_ret
  exact ⟨rfl, rfl⟩
theorem least_any (x : Nat) (hx : x < 18446744073709551616) (w : World) (hT : TabW w) :
    Calls Tryz.prog 47 #[.int .u64 (x : Nat)] w fun e w' => e = .returned (.int .i64 (leastI x)) ∧ w = w' := by
  by_cases h0 : x = 0
  · subst h0
    rw [leastI_zero]
    clear hx hT
    go_enter Tryz.func47, Tryz.ntmps47
    go_wp2_with fail
    go_ret
    exact ⟨rfl, rfl⟩
  · have HZ := Lib.hid (tz_any x h0 hx w hT)
    rw [leastI_low h0 hx]
    have hx0 : ((x : Int) == 0) = false := by simp; omega
    obtain ⟨k, hke⟩ : ∃ k, k = Lib.ctz 64 x := ⟨_, rfl⟩
    rw [← hke] at HZ ⊢
    clear hke hT h0
    go_enter Tryz.func47, Tryz.ntmps47
    go_wp2_with (go_at_call 75; refine HZ.out.mono ?_; rintro e w2 ⟨rfl, rfl⟩)
    go_ret
    exact ⟨rfl, rfl⟩
end Go.Proofs.YtjdbgohfedjifaaGreatDoor

/- A set's bit, all numbers below one, what is left from a number on, plainly. No program in sight. -/
namespace Bosun
open Go
theorem allBelow_neg {n : Int} (h : n ≤ 0) : allBelow n = 0 := by
  apply Nat.eq_of_testBit_eq
  intro j
  rw [allBelow, ofBits_testBit, Nat.zero_testBit]
  simp; omega
theorem allBelow_big {n : Int} (h : 64 ≤ n) : allBelow n = 18446744073709551615 := by
  apply Nat.eq_of_testBit_eq
  intro j
  rw [allBelow, ofBits_testBit, show (18446744073709551615 : Nat) = 2 ^ 64 - 1 from rfl, Nat.testBit_two_pow_sub_one]
  by_cases hj : j < 64
  · simp [hj]; omega
  · simp [hj]
theorem allBelow_mid {n : Nat} (h : n < 64) : allBelow n = 2 ^ n - 1 := by
  apply Nat.eq_of_testBit_eq
  intro j
  rw [allBelow, ofBits_testBit, Nat.testBit_two_pow_sub_one]
  by_cases hj : j < n
  · simp [hj]; omega
  · simp [hj]
/-- Of a set the part from a number on. -/
def fromN (s : Nat) (i : Int) : Nat := ofBits 64 fun j => s.testBit j && !decide ((j : Int) < i)
theorem fromN_lt (s : Nat) (i : Int) : fromN s i < 18446744073709551616 := by unfold fromN; simpa using ofBits_lt 64 (fun j => s.testBit j && !decide ((j : Int) < i))
theorem fromN_and {s : Nat} (hs : s < 18446744073709551616) (i : Int) : s &&& (18446744073709551615 - allBelow i) = fromN s i := by
  have hb : allBelow i < 2 ^ 64 := by simpa using allBelow_lt i
  apply Nat.eq_of_testBit_eq
  intro j
  rw [Nat.testBit_and, show 18446744073709551615 - allBelow i = 2 ^ 64 - (allBelow i + 1) from by omega, Nat.testBit_two_pow_sub_succ hb, allBelow, ofBits_testBit, fromN, ofBits_testBit]
  by_cases hj : j < 64
  · simp [hj]
  · simp [hj]
theorem members_from (s : Nat) (i : Int) : members (fromN s i) = (members s).filter (fun j : Nat => !decide ((j : Int) < i)) := by
  unfold members
  rw [List.filter_filter]
  refine List.filter_congr fun j hj => ?_
  have : j < 64 := by simpa using hj
  rw [fromN, ofBits_testBit]
  simp [this, Bool.and_comm]
theorem members_and (s : Nat) (n : Int) : members (s &&& allBelow n) = (members s).filter (fun j : Nat => decide ((j : Int) < n)) := by
  unfold members
  rw [List.filter_filter]
  refine List.filter_congr fun j hj => ?_
  have : j < 64 := by simpa using hj
  rw [Nat.testBit_and, allBelow, ofBits_testBit]
  simp [this, Bool.and_comm]
/-- The next member, going round. -/
def nextI (s : Nat) (i : Int) : Int := if fromN s i ≠ 0 then leastI (fromN s i) else leastI s
def bitN (i : Int) : Nat := if 0 ≤ i ∧ i < 64 then 2 ^ i.toNat else 0
theorem bitN_lt (i : Int) : bitN i < 18446744073709551616 := by
  unfold bitN
  split
  · have : 2 ^ i.toNat ≤ 2 ^ 63 := Nat.pow_le_pow_right (by omega) (by omega)
    have e : (2 : Nat) ^ 63 = 9223372036854775808 := by decide
    omega
  · omega
theorem and_pow {s k : Nat} : (s &&& 2 ^ k ≠ 0) ↔ s.testBit k = true := by
  constructor
  · intro h
    cases hb : s.testBit k with
    | true => rfl
    | false =>
      exfalso
      apply h
      apply Nat.eq_of_testBit_eq
      intro j
      rw [Nat.testBit_and, Nat.testBit_two_pow, Nat.zero_testBit]
      by_cases e : k = j
      · subst e; rw [hb]; rfl
      · simp [e]
  · intro h e
    have : (s &&& 2 ^ k).testBit k = true := by rw [Nat.testBit_and, h, Nat.testBit_two_pow]; simp
    rw [e, Nat.zero_testBit] at this
    cases this
theorem has_bit (s : Nat) (i : Int) : (s &&& bitN i ≠ 0) ↔ has s i = true := by
  unfold bitN has
  by_cases h : 0 ≤ i ∧ i < 64
  · rw [if_pos h, and_pow]
    simp [h]
  · rw [if_neg h, Nat.and_zero]
    simp
    intro h1 h2
    omega
end Bosun

/- sets: a number's bit, all numbers below one, is a number in a set, the next one; seat: the allowed ones. -/
namespace Go.Proofs.YtjdbgohfedjifaaGreatDoor
open Go.RowKit Bosun
theorem bit_any (i : Int) (h0 : -9223372036854775808 ≤ i) (h1 : i ≤ 9223372036854775807) (w : World) :
    Calls Tryz.prog 106 #[.int .i64 i] w fun e w' => e = .returned (.int .u64 (bitN i : Nat)) ∧ w = w' := by
  by_cases h : 0 ≤ i ∧ i < 64
  · obtain ⟨k, rfl⟩ := Int.eq_ofNat_of_zero_le h.1
    have hk : k < 64 := by omega
    have e : bitN (k : Int) = 2 ^ k := by unfold bitN; rw [if_pos h, Int.toNat_natCast]
    rw [e]
    clear h e
    go_enter Tryz.func106, Tryz.ntmps106
    go_wp2_with fail
    go_ret
    refine ⟨ret_int ?_, rfl⟩
    have h2 : 2 ^ k ≤ 2 ^ 63 := Nat.pow_le_pow_right (by omega) (by omega)
    have h3 : (2 : Nat) ^ 63 = 9223372036854775808 := by decide
    rw [IntKind.wrap_u64, show ((2 : Int) ^ k) = ((2 ^ k : Nat) : Int) from by rw [Int.natCast_pow]; rfl]
    generalize (2 : Nat) ^ k = z at *
    omega
  · have e : bitN i = 0 := by unfold bitN; rw [if_neg h]
    rw [e]
    have g1 : 64 ≤ IntKind.u64.wrap i := by rw [IntKind.wrap_u64]; omega
    have g2 : decide (64 ≤ IntKind.u64.wrap i) = true := decide_eq_true g1
    clear h e
    go_enter Tryz.func106, Tryz.ntmps106
    go_wp2_with fail
    go_ret
    exact ⟨rfl, rfl⟩
theorem bitN_mid {n : Int} (h0 : 0 < n) (h1 : n < 64) : IntKind.u64.wrap ((bitN n : Nat) - 1) = (allBelow n : Nat) := by
  obtain ⟨k, rfl⟩ := Int.eq_ofNat_of_zero_le (show 0 ≤ n by omega)
  rw [allBelow_mid (by omega), show bitN (k : Int) = 2 ^ k from by unfold bitN; rw [if_pos (by omega), Int.toNat_natCast], IntKind.wrap_u64]
  have h2 : 2 ^ k ≤ 2 ^ 63 := Nat.pow_le_pow_right (by omega) (by omega)
  have h3 : (2 : Nat) ^ 63 = 9223372036854775808 := by decide
  have h4 : 0 < 2 ^ k := Nat.two_pow_pos _
  omega
theorem shas_any (s : Nat) (hs : s < 18446744073709551616) (i : Int) (h0 : -9223372036854775808 ≤ i) (h1 : i ≤ 9223372036854775807) (w : World) :
    Calls Tryz.prog 84 #[.int .u64 (s : Nat), .int .i64 i] w fun e w' => e = .returned (.bool (has s i)) ∧ w = w' := by
  have HB := Lib.hid (fun w => bit_any i h0 h1 w)
  have hl := bitN_lt i
  have hb := has_bit s i
  obtain ⟨z, hz⟩ : ∃ z, z = bitN i := ⟨_, rfl⟩
  rw [← hz] at HB hl hb
  have r1 : bits .and .u64 (s : Int) (z : Int) = ((s &&& z : Nat) : Int) := bits_and_u64_nat _ _ hs hl
  obtain ⟨y, hy⟩ : ∃ y, y = s &&& z := ⟨_, rfl⟩
  rw [← hy] at r1 hb
  have r2 : ((y : Int) != 0) = has s i := by
    cases hh : has s i with
    | true => have := hb.2 hh; simp; omega
    | false =>
      have : ¬ y ≠ 0 := fun h => by rw [hb.1 h] at hh; cases hh
      have : y = 0 := by omega
      subst this; rfl
  obtain ⟨b, hbb⟩ : ∃ b, b = has s i := ⟨_, rfl⟩
  rw [← hbb] at r2 ⊢
  clear hz hy hbb hb
  go_enter Tryz.func84, Tryz.ntmps84
  go_wp2_with (go_at_call 106; refine (HB.out _).mono ?_; rintro e w2 ⟨rfl, rfl⟩)
  go_ret
  exact ⟨rfl, rfl⟩
end Go.Proofs.YtjdbgohfedjifaaGreatDoor
