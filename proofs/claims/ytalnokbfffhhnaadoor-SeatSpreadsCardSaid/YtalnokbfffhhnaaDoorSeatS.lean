/- seat: the walk of SeatSpreads. -/
import Derived.Test.YtalnokbfffhhnaaDoorSeatS1
import Derived.Test.YtalnokbfffhhnaaDoorSeat9
namespace Go.Proofs.YtalnokbfffhhnaaDoor
open Go.RowKit Bosun
theorem same_self (v u : Value) (l : List Int) (w : World) (hv : Reads w v (ints l)) (hu : Reads w u (ints l)) :
    Calls Tryd.prog 15 #[v, u] w fun e w' => e = .returned (.bool true) ∧ Chg [] w w' := by
  have h := same_any v u l l w hv hu
  rw [decide_eq_true rfl] at h
  exact h
set_option maxHeartbeats 4000000 in
theorem seatSpreads_walk (w : World) (hT : TabW w) (m : Nat) (hm : m < 18446744073709551616) (n : Int) (h0 : -9223372036854775808 ≤ n) (h1 : n ≤ 9223372036854775807) (t : Int) (_t0 : -9223372036854775808 ≤ t) (_t1 : t ≤ 9223372036854775807) :
    Calls Tryd.prog 5 #[.int .u64 (m : Nat), .int .i64 n, .int .i64 t] w fun e w' => e = .returned (.bool true) ∧ Chg [] w w' := by
  have hwp : 0 < w.heap.size := World.block_lt_of_cell? w _ (hT 0 (by decide))
  obtain ⟨c, hcl⟩ : ∃ c : Nat, (if t < 0 then (0 : Int) else min t 64) = (c : Nat) := by
    split
    · exact ⟨0, rfl⟩
    · exact ⟨(min t 64).toNat, by omega⟩
  have hc64 : c ≤ 64 := by split at hcl <;> omega
  have hsl : (m &&& allBelow n) < 18446744073709551616 := Nat.lt_of_le_of_lt Nat.and_le_left hm
  have A1 := spread_any m hm n h0 h1 t c hcl w hT
  rw [spr_is hsl c, show members (m &&& allBelow n) = lst m n from rfl, ← nats_ints] at A1
  have HA := Lib.hid A1
  have HB := Lib.hid (fun w1 => rspread_any m hm n t c hcl w1)
  have HW := Lib.hid (fun w1 (H : Chg [] w w1) => awake_any w1 (TabW.below hwp H.below hT))
  have HL := Lib.hid (fun w => rlist_any' m hm n w)
  have HLT := Lib.hid (fun a (h : a ∈ lst m n) => lst_lt h)
  have HEV := Lib.hid (fun j (hj : j < (lst m n).length) => sprN_even (lst_sorted' m n) hj c)
  have hle := lst_le m n
  have HLEN : (sprN (lst m n) c).length ≤ 64 := by
    by_cases h : 0 < (lst m n).length
    · rw [sprN_len h]; exact hc64
    · have e := List.length_eq_zero_iff.1 (show (lst m n).length = 0 by omega)
      rw [e]; simp [sprN]
  have HMEM := Lib.hid (fun a (h : a ∈ sprN (lst m n) c) => lst_lt (sprN_mem h))
  obtain ⟨L, hL⟩ : ∃ L, L = lst m n := ⟨_, rfl⟩
  rw [← hL] at HA HB HL HLT HEV HLEN HMEM hle
  obtain ⟨S, hS⟩ : ∃ S, S = sprN L c := ⟨_, rfl⟩
  rw [← hS] at HA HB HEV HLEN HMEM
  have HSA := Lib.hid (fun v u w (a : Reads w v (nats S)) (b : Reads w u (nats S)) => same_self v u _ w (by rw [← nats_ints]; exact a) (by rw [← nats_ints]; exact b))
  clear hL hS A1 hT hcl
  go_enter Tryd.func5, Tryd.ntmps5
  go_wp2_with (first
    | (go_at_call 14; refine HA.out.mono ?_; rintro e w1 ⟨v, rfl, R1, H1⟩)
    | (go_at_call 16; refine (HB.out _).mono ?_; rintro e w2 ⟨u, rfl, R2, H2⟩; have SA := Lib.hid (HSA.out v u w2 (R1.keep H2) R2))
    | (go_at_call 15; refine SA.out.mono ?_; rintro e w3 ⟨rfl, H3⟩; have W3 := Lib.hid (HW.out w3 ((H1.trans H2).trans H3)))
    | (go_at_call 9; refine W3.out.mono ?_; rintro e w4 ⟨rfl, H4⟩)
    | (refine wpList_make1 rfl (.const (.int .i64 64)) (.const (.int .i64 64)) 26 rfl 3 (.int .i64 0) 8 Tryd.underlying26 infoInt rfl .i64 .i64 64 rfl rfl (by omega) (by omega) ?_; intro w5 B5 C5 Z5))
  have HALL := Lib.hid (((H1.trans H2).trans H3).trans H4)
  have HRV := Lib.hid (((R1.keep H2).keep H3).keep H4)
  obtain ⟨ao, cp, rfl, _, _⟩ := id HRV.out
  rw [nats_len] at HRV ⊢
  rw [natRow_zero] at B5
  clear R1 R2 HA HB HSA SA HW W3 H1 H2 H3 H4
  go_loopw [9] (fun i wr => ∃ k : Nat, k ≤ S.length ∧ i = .int .i64 k ∧ Blk wr w4.heap.size (natRow fun x => (S.take k).count x) 3 ∧ Chg [] w4 wr)
    (fun i _ => 64 - (intOf i).toNat)
  case atStart => exact ⟨0, by omega, rfl, by simpa using B5, C5⟩
  case round =>
    obtain ⟨k, hk, rfl, B, H⟩ := hrel
    by_cases hkS : k < S.length
    · obtain ⟨g, off, rfl, hc⟩ := reads_cell (HRV.out.keep H) hkS
      have hx64 := HMEM.out S[k] (List.getElem_mem hkS)
      have hcnt := Lib.hid (natRow_count S hkS)
      have hcell : wr.cell? ⟨w4.heap.size, S[k], none⟩ = some (.int .i64 (((S.take k).count S[k] : Nat) : Int)) := by rw [B.cell, natRow_get _ hx64]
      have hcb : (S.take k).count S[k] ≤ 64 := Nat.le_trans List.count_le_length (by rw [List.length_take]; omega)
      obtain ⟨x, hx⟩ : ∃ x, x = S[k] := ⟨_, rfl⟩
      rw [← hx] at hc hx64 hcnt hcell hcb
      clear hx
      have hfz := B.frozen x
      obtain ⟨y, hy⟩ : ∃ y, y = (S.take k).count x := ⟨_, rfl⟩
      rw [← hy] at hcell hcnt hcb
      clear hy
      have b1 : (k : Int) < (S.length : Int) := by omega
      have b2 : (x : Int) < 64 := by omega
      go_wp2_with fail
      go_roundw
      case rel =>
        refine ⟨k + 1, by omega, by go_num, ?_, H.setCell (.inr (by simp)) _⟩
        rw [← hcnt.out]
        have := B.setCell x (.int .i64 ((y + 1 : Nat) : Int))
        exact this
      case measure => simp [intOf] <;> omega
    · obtain rfl : k = S.length := by omega
      rw [List.take_length] at B
      have HB5 := Lib.hid B
      have h5 := HALL.out.trans H
      have HALL5 := Lib.hid h5
      clear B H h5 HALL HRV B5 C5
      go_wp2_with (go_at_call 11; refine (HL.out _).mono ?_; rintro e w6 ⟨ao6, cp6, rfl, hr6, H6⟩)
      have HR6 := Lib.hid hr6
      have HB6 := Lib.hid (HB5.out.chg H6 (by simp))
      have HALL6 := Lib.hid (HALL5.out.trans H6)
      clear hr6 H6 HB5 HALL5 HL
      go_loopw [11] (fun i wr => ∃ k : Nat, 1 ≤ k ∧ (k ≤ L.length ∨ k = 1) ∧ i = .int .i64 (k : Nat) ∧ Chg [] w6 wr) (fun i _ => 65 - (intOf i).toNat)
      case atStart => exact ⟨1, by omega, by omega, rfl, Chg.refl _ _⟩
      case round =>
        obtain ⟨k, hk1, hk, rfl, H⟩ := hrel
        by_cases hkL : k < L.length
        · obtain ⟨g, off, rfl, hc⟩ := reads_cell (HR6.out.keep H) hkL
          obtain ⟨g', off', e', hc0⟩ := reads_cell (HR6.out.keep H) (show 0 < L.length by omega)
          cases e'
          rw [Nat.add_zero] at hc0
          have hb := HB6.out.chg H (by simp)
          have hx64 := HLT.out L[k] (List.getElem_mem hkL)
          have hy64 := HLT.out L[0] (List.getElem_mem (show 0 < L.length by omega))
          obtain ⟨e1, e2⟩ := HEV.out k hkL
          have hca : wr.cell? ⟨w4.heap.size, L[k], none⟩ = some (.int .i64 ((S.count L[k] : Nat) : Int)) := by rw [hb.cell, natRow_get _ hx64]
          have hcb : wr.cell? ⟨w4.heap.size, L[0], none⟩ = some (.int .i64 ((S.count L[0] : Nat) : Int)) := by rw [hb.cell, natRow_get _ hy64]
          have l1 : S.count L[0] ≤ 64 := Nat.le_trans List.count_le_length HLEN
          obtain ⟨x, hx⟩ : ∃ x, x = L[k] := ⟨_, rfl⟩
          rw [← hx] at hc hx64 hca e1 e2
          obtain ⟨y, hy⟩ : ∃ y, y = L[0] := ⟨_, rfl⟩
          rw [← hy] at hc0 hy64 hcb e1 e2 l1
          obtain ⟨a, ha⟩ : ∃ a, a = S.count x := ⟨_, rfl⟩
          rw [← ha] at hca e1 e2
          obtain ⟨b, hb'⟩ : ∃ b, b = S.count y := ⟨_, rfl⟩
          rw [← hb'] at hcb e1 e2 l1
          clear hx hy ha hb' hb
          have b1 : (k : Int) < (L.length : Int) := by omega
          have b0 : (0 : Int) < (L.length : Int) := by omega
          have b0n : 0 < L.length := by omega
          have b4 : (x : Int) < 64 := by omega
          have b5 : (y : Int) < 64 := by omega
          have d1 : decide ((b : Int) < (a : Int)) = false := decide_eq_false (by omega)
          have wr1 : IntKind.i64.wrap ((b : Int) - (a : Int)) = (b : Int) - (a : Int) := by rw [IntKind.wrap_i64]; omega
          have d2 : decide (1 < IntKind.i64.wrap ((b : Int) - (a : Int))) = false := by rw [wr1]; exact decide_eq_false (by omega)
          clear wr1
          go_wp2_with fail
          go_quiet (fail)
          go_wp2_with fail
          go_roundw
          case rel => exact ⟨k + 1, by omega, by omega, by go_num, H.drewN _⟩
          case measure => simp [intOf] <;> omega
        · have b2 : ((L.length : Nat) : Int) ≤ (k : Int) := by omega
          go_wp2_with fail
          go_ret
          exact ⟨rfl, HALL6.out.trans H⟩
end Go.Proofs.YtalnokbfffhhnaaDoor
