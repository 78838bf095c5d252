/- lot: Spread, Row; the reference's fold and Spread. -/
import Derived.Test.YtdnholkhdjnamaaLot2
namespace Bosun
/-- A number, held against itself, divided. -/
def xs (x s : Nat) : Nat := x ^^^ (x / s)
def spreadN (x : Nat) : Nat :=
  xs (xs (xs ((x + 11400714819323198485) % 18446744073709551616) 1073741824 * 13787848793156543929 % 18446744073709551616) 134217728 * 10723151780598845931 % 18446744073709551616) 2147483648
theorem xs_lt {x : Nat} (h : x < 18446744073709551616) (s : Nat) : xs x s < 18446744073709551616 := by
  unfold xs
  have h1 : x < 2 ^ 64 := by simpa using h
  have h2 : x / s < 2 ^ 64 := Nat.lt_of_le_of_lt (Nat.div_le_self _ _) h1
  have := Nat.xor_lt_two_pow h1 h2
  simpa using this
theorem spreadN_lt (x : Nat) : spreadN x < 18446744073709551616 := xs_lt (Nat.mod_lt _ (by omega)) _
theorem xs_bits {x : Nat} (h : x < 18446744073709551616) (b : Nat) : xs x (2 ^ b) = ofBits 64 (fun i => if i + b < 64 then x.testBit i != x.testBit (i + b) else x.testBit i) := by
  apply Nat.eq_of_testBit_eq
  intro j
  rw [ofBits_testBit]
  unfold xs
  rw [Nat.testBit_xor, ← Nat.shiftRight_eq_div_pow, Nat.testBit_shiftRight, Nat.add_comm b j]
  by_cases h1 : j < 64
  · simp only [h1, decide_true, Bool.true_and]
    by_cases h2 : j + b < 64
    · rw [if_pos h2]
    · rw [if_neg h2, bits_above h (j := j + b) (by omega)]; simp
  · simp only [h1, decide_false, Bool.false_and]
    rw [bits_above h (by omega), bits_above h (by omega)]; rfl
end Bosun
namespace Go.Proofs.Ytdnholkhdjnamaa
open Go.RowKit Bosun

theorem mul_step (X s C : Nat) (hX : X < 18446744073709551616) : IntKind.u64.wrap (bits .xor .u64 (X : Int) ((X : Int) / (s : Int)) * (C : Int)) = ((xs X s * C % 18446744073709551616 : Nat) : Int) := by
  rw [xorShift_u64 X s hX, IntKind.wrap_u64]
  rfl
theorem add_step (X C : Nat) : IntKind.u64.wrap ((X : Int) + (C : Int)) = (((X + C) % 18446744073709551616 : Nat) : Int) := by
  rw [IntKind.wrap_u64]
  rfl

set_option maxHeartbeats 400000 in
theorem spread_any (x : Nat) (_hx : x < 18446744073709551616) (w : World) :
    Calls Try.prog 17 #[.int .u64 x] w fun e w' => e = .returned (.int .u64 (spreadN x : Nat)) ∧ w = w' := by
  have s1 := add_step x 11400714819323198485
  obtain ⟨y, hy⟩ : ∃ y, y = (x + 11400714819323198485) % 18446744073709551616 := ⟨_, rfl⟩
  have hyl : y < 18446744073709551616 := by rw [hy]; exact Nat.mod_lt _ (by omega)
  rw [← hy] at s1
  have s2 := mul_step y 1073741824 13787848793156543929 hyl
  obtain ⟨z, hz⟩ : ∃ z, z = xs y 1073741824 * 13787848793156543929 % 18446744073709551616 := ⟨_, rfl⟩
  have hzl : z < 18446744073709551616 := by rw [hz]; exact Nat.mod_lt _ (by omega)
  rw [← hz] at s2
  have s3 := mul_step z 134217728 10723151780598845931 hzl
  obtain ⟨u, hu⟩ : ∃ u, u = xs z 134217728 * 10723151780598845931 % 18446744073709551616 := ⟨_, rfl⟩
  have hul : u < 18446744073709551616 := by rw [hu]; exact Nat.mod_lt _ (by omega)
  rw [← hu] at s3
  have s4 := xorShift_u64 u 2147483648 hul
  have HE := Lib.hid (show spreadN x = u ^^^ u / 2147483648 by rw [hu, hz, hy]; rfl)
  have S1 := Lib.hid s1
  have S2 := Lib.hid s2
  have S3 := Lib.hid s3
  have S4 := Lib.hid s4
  clear s1 s2 s3 s4 hy hz hu
  go_enter Try.func17, Try.ntmps17
  go_wp2
  go_ret
  refine ⟨ret_int ?_, rfl⟩
  rw [HE.out, ← S4.out, ← S3.out, ← S2.out, ← S1.out]
  rfl

set_option maxHeartbeats 800000 in
theorem fold_any (x : Nat) (hx : x < 18446744073709551616) (b : Nat) (hb : b < 64) (w : World) :
    Calls Try.prog 25 #[.int .u64 x, .int .i64 b] w fun e w' => e = .returned (.int .u64 (xs x (2 ^ b) : Nat)) ∧ Chg [] w w' := by
  go_enter Try.func25, Try.ntmps25
  go_wp2_with fail
  refine (row_any x hx _).mono ?_
  rintro e w1 ⟨rfl, H1⟩
  go_wp2_with (first
    | (refine wpList_new_row (o := ⟨some 5, _, _, _, _, _⟩) rfl 38 rfl _ (alloc64b _) ?_; intro w2 H2 H3 H4)
    | (refine wpList_put_row rfl 38 (.tmp 5) (.tmp 9) rfl w1.heap.size _ rfl rfl 38 _ H2 (size64b _) (by simp only [boolRow_size]) (boolRow_one _) ?_; intro w3 H5 H6)
    | (refine wpList_new_row (o := ⟨some 6, _, _, _, _, _⟩) rfl 38 rfl _ (alloc64b _) ?_; intro w4 H7 H8 H9))
  have hs3 : w1.heap.size + 1 ≤ w3.heap.size := H5.lt
  have HB := H5.chg H8 (by simp)
  have hne : w1.heap.size ≠ w3.heap.size := by omega
  have hs1 := H1.size
  have H0 : Chg [] w w4 := ((H1.then H3 (by simp)).then H6 (fun g hg => .inr (by simp at hg; omega))).then H8 (by simp)
  clear H2 H3 H4 H5 H6 H8 H9 H1
  obtain ⟨g1, hg1⟩ : ∃ g1, g1 = w1.heap.size := ⟨_, rfl⟩
  obtain ⟨g2, hg2⟩ : ∃ g2, g2 = w3.heap.size := ⟨_, rfl⟩
  rw [← hg1] at HB hne hs3 hs1 ⊢
  rw [← hg2] at H7 hne hs3 ⊢
  clear hg1 hg2
  go_loopw [7] (fun i wr => ∃ k : Nat, k ≤ 64 ∧ i = .int .i64 k ∧ Blk wr g1 (boolRow x.testBit) 38 ∧
      (∃ f, Blk wr g2 (boolRow f) 38 ∧ ∀ j, j < k → f j = if j + b < 64 then x.testBit j != x.testBit (j + b) else x.testBit j) ∧ Chg [] w wr)
    (fun i _ => 64 - (intOf i).toNat)
  case atStart => exact ⟨0, by omega, rfl, HB, ⟨_, H7, fun j hj => by omega⟩, H0⟩
  case round =>
    obtain ⟨k, hk, rfl, B1, ⟨f, B2, hf⟩, H⟩ := hrel
    have HF := Lib.hid hf
    clear hf HB H7 H0
    by_cases hk64 : k < 64
    · have c1 : wr.cell? ⟨g1, k, none⟩ = some (.bool (x.testBit k)) := by rw [B1.cell, boolRow_get _ hk64]
      have c2 : wr.cell? ⟨g2, k, none⟩ = some (.bool (f k)) := by rw [B2.cell, boolRow_get _ hk64]
      have z2 := B2.frozen k
      obtain ⟨p, hp⟩ : ∃ p, p = x.testBit k := ⟨_, rfl⟩
      rw [← hp] at c1
      by_cases hkb : k + b < 64
      · have c3 : wr.cell? ⟨g1, k + b, none⟩ = some (.bool (x.testBit (k + b))) := by rw [B1.cell, boolRow_get _ hkb]
        obtain ⟨q, hq⟩ : ∃ q, q = x.testBit (k + b) := ⟨_, rfl⟩
        rw [← hq] at c3
        have HP := Lib.hid hp
        have HQ := Lib.hid hq
        clear hp hq
        have hkb' : (k : Int) + (b : Int) < 64 := by omega
        have hw : IntKind.i64.wrap ((k : Int) + (b : Int)) = (k : Int) + (b : Int) := IntWalk.i64_in _ (by omega)
        have ht : ((k : Int) + (b : Int)).toNat = k + b := by omega
        have hp0 : (0 : Int) ≤ (k : Int) + (b : Int) := by omega
        go_wp2_with (refine wpList_val_store rfl 4 (.tmp 18) (.tmp 17) rfl g2 k rfl (.bool p) rfl _ 38 B2 (by simp only [boolRow_size]; omega) (by kernel_rfl) rfl ?_; intro w4 B4 C4)
        have B14 := B1.chg C4 (by simpa using hne)
        have d1 : w4.cell? ⟨g1, k, none⟩ = some (.bool p) := by
          refine (B14.cell k).trans ?_; rw [boolRow_get _ hk64, HP.out]
        have d3 : w4.cell? ⟨g1, k + b, none⟩ = some (.bool q) := by
          refine (B14.cell (k + b)).trans ?_; rw [boolRow_get _ hkb, HQ.out]
        clear c1 c2 c3 z2
        go_still_tail 11, (by kernel_rfl)
        refine wpList_val_store rfl 4 (.tmp 33) (.tmp 32) rfl g2 k rfl (.bool (p != q)) ?_ _ 38 (B4.drew) (by simp [boolRow_size]; omega) (by kernel_rfl) rfl ?_
        · cases p <;> cases q <;> rfl
        intro w5 B5 C5
        have C5' := Chg.undrew (w := w4) C5
        clear C5
        go_wp2
        go_roundw
        case rel =>
          refine ⟨k + 1, by omega, by go_num, B14.chg C5' (by simpa using hne), ⟨_, by rw [boolRow_set, boolRow_set] at B5; exact B5, fun j hj => ?_⟩, (H.then C4 (fun g hg => .inr (by simp at hg; omega))).then C5' (fun g hg => .inr (by simp at hg; omega))⟩
          by_cases hjk : j = k
          · subst hjk; rw [if_pos rfl, if_pos hkb, HP.out, HQ.out]
          · rw [if_neg hjk, if_neg hjk]; exact HF.out j (by omega)
        case measure => simp [intOf] <;> omega
      · have HP := Lib.hid hp
        clear hp
        go_wp2
        go_roundw
        case rel =>
          refine ⟨k + 1, by omega, by go_num, B1.setCell_other _ hne, ⟨_, by have h := B2.setCell k (.bool p); rw [boolRow_set] at h; exact h, fun j hj => ?_⟩, H.setCell (.inr (by show w.heap.size ≤ g2; omega)) _⟩
          by_cases hjk : j = k
          · subst hjk; rw [if_pos rfl, if_neg hkb, HP.out]
          · rw [if_neg hjk]; exact HF.out j (by omega)
        case measure => simp [intOf] <;> omega
    · obtain rfl : k = 64 := by omega
      have hx2 := xs_bits hx b
      rw [← ofBits_congr HF.out] at hx2
      have HX := Lib.hid hx2
      clear hx2
      go_wp2_with (first
        | (refine wpList_get_row rfl 38 (.tmp 6) rfl g2 rfl 38 _ _ B2 Try.underlying38 rfl (size64b _) ?_)
        | (go_at_call 21; refine (set_any _ _).mono ?_; rintro e w6 ⟨rfl, C6⟩))
      go_ret
      exact ⟨ret_int (by rw [HX.out]), H.then C6 (by simp)⟩

theorem mul_step' (X C : Nat) : IntKind.u64.wrap ((X : Int) * (C : Int)) = ((X * C % 18446744073709551616 : Nat) : Int) := by
  rw [IntKind.wrap_u64]
  rfl

set_option maxHeartbeats 400000 in
theorem rspread_any (x : Nat) (w : World) :
    Calls Try.prog 18 #[.int .u64 x] w fun e w' => e = .returned (.int .u64 (spreadN x : Nat)) ∧ Chg [] w w' := by
  have s1 := add_step x 11400714819323198485
  obtain ⟨y, hy⟩ : ∃ y, y = (x + 11400714819323198485) % 18446744073709551616 := ⟨_, rfl⟩
  have hyl : y < 18446744073709551616 := by rw [hy]; exact Nat.mod_lt _ (by omega)
  rw [← hy] at s1
  obtain ⟨y2, hy2⟩ : ∃ y2, y2 = xs y (2 ^ 30) := ⟨_, rfl⟩
  have s2 := mul_step' y2 13787848793156543929
  obtain ⟨z, hz⟩ : ∃ z, z = y2 * 13787848793156543929 % 18446744073709551616 := ⟨_, rfl⟩
  have hzl : z < 18446744073709551616 := by rw [hz]; exact Nat.mod_lt _ (by omega)
  rw [← hz] at s2
  obtain ⟨z2, hz2⟩ : ∃ z2, z2 = xs z (2 ^ 27) := ⟨_, rfl⟩
  have s3 := mul_step' z2 10723151780598845931
  obtain ⟨u, hu⟩ : ∃ u, u = z2 * 10723151780598845931 % 18446744073709551616 := ⟨_, rfl⟩
  have hul : u < 18446744073709551616 := by rw [hu]; exact Nat.mod_lt _ (by omega)
  rw [← hu] at s3
  have HE := Lib.hid (show spreadN x = xs u (2 ^ 31) by rw [hu, hz2, hz, hy2, hy]; rfl)
  have S1 := Lib.hid s1
  have S2 := Lib.hid s2
  have S3 := Lib.hid s3
  have Y2 := Lib.hid hy2
  have Z2 := Lib.hid hz2
  clear s1 s2 s3 hy hz hu hy2 hz2
  go_enter Try.func18, Try.ntmps18
  go_wp2_with fail
  rw [show IntKind.u64.wrap ((x : Int) + 11400714819323198485) = (y : Int) from S1.out]
  refine (fold_any y hyl 30 (by omega) _).mono ?_
  rw [← Y2.out]
  rintro e w1 ⟨rfl, C1⟩
  go_wp2_with fail
  rw [show IntKind.u64.wrap ((y2 : Int) * 13787848793156543929) = (z : Int) from S2.out]
  refine (fold_any z hzl 27 (by omega) _).mono ?_
  rw [← Z2.out]
  rintro e w2 ⟨rfl, C2⟩
  go_wp2_with fail
  rw [show IntKind.u64.wrap ((z2 : Int) * 10723151780598845931) = (u : Int) from S3.out]
  refine (fold_any u hul 31 (by omega) _).mono ?_
  rw [← HE.out]
  rintro e w3 ⟨rfl, C3⟩
  go_wp2_with fail
  go_ret
  exact ⟨rfl, (C1.then C2 (by simp)).then C3 (by simp)⟩

/-- Spread, so many times. -/
def _root_.Bosun.iterSpread (x : Nat) : Nat → Nat
  | 0 => x
  | k + 1 => spreadN (iterSpread x k)
theorem iterSpread_lt {x : Nat} (h : x < 18446744073709551616) (k : Nat) : iterSpread x k < 18446744073709551616 := by
  cases k with
  | zero => exact h
  | succ k => exact spreadN_lt _

theorem infoU64 : (Try.prog.info? 22).map (fun i => (i.zero, i.size, i.bytes)) = some (some (.int .u64 0), 1, 8) := by kernel_rfl

set_option maxHeartbeats 800000 in
theorem lrow_any (x : Nat) (hx : x < 18446744073709551616) (n : Int) (hn1 : -9223372036854775808 ≤ n) (hn2 : n ≤ 9223372036854775807) (c : Nat) (hc : c = (min (max n 0) 4096).toNat) (w : World) :
    Calls Try.prog 16 #[.int .u64 x, .int .i64 n] w fun e w' => ∃ v, e = .returned v ∧ Own w' w.heap.size 22 v (words ((List.range c).map fun j => iterSpread x (j + 1))) ∧ Chg [] w w' := by
  have hc64 : c ≤ 4096 := by omega
  have m1 : (c : Int) = if (4096 : Int) < max n 0 then 4096 else max n 0 := by split <;> omega
  have m0 : max n 0 = if n < 0 then 0 else n := by split <;> omega
  have M1 := Lib.hid m1
  have M0 := Lib.hid m0
  clear m1 m0 hc
  go_enter Try.func16, Try.ntmps16
  go_wp2_with (first
    | (refine wpList_max rfl (.tmp 7) _ _ _ rfl .i64 n 0 (max n 0) rfl rfl M0.out ?_)
    | (refine wpList_min rfl (.tmp 8) _ _ _ rfl .i64 (max n 0) 4096 c rfl rfl M1.out ?_)
    | (refine wpList_make1 rfl (.tmp 9) (.tmp 9) 34 rfl 22 (.int .u64 0) 8 Try.underlying34 infoU64 rfl .i64 .i64 c rfl rfl (by omega) (by omega) ?_; intro w1 H1 H2 H3))
  go_loopw [0, 6, 13] (fun y _ i wr => ∃ k : Nat, k ≤ c ∧ i = .int .i64 k ∧ y = .int .u64 (iterSpread x k : Nat) ∧ (∃ cells : Array Value, Blk wr w.heap.size cells 22 ∧ cells.size = c ∧ ∀ j, j < k → cells[j]? = some (.int .u64 (iterSpread x (j + 1) : Nat))) ∧ Chg [] w wr)
    (fun _ _ i _ => c - (intOf i).toNat)
  case atStart => exact ⟨0, by omega, rfl, rfl, ⟨_, H1, by simp, fun j hj => by omega⟩, H2⟩
  case round =>
    obtain ⟨k, hk, rfl, rfl, ⟨cells, HB, hs, hcell⟩, H⟩ := hrel
    have HC := Lib.hid hcell
    have HS := Lib.hid hs
    obtain ⟨y, hy⟩ : ∃ y, y = iterSpread x k := ⟨_, rfl⟩
    have hyl : y < 18446744073709551616 := by rw [hy]; exact iterSpread_lt hx k
    rw [← hy]
    have HY := Lib.hid (show spreadN y = iterSpread x (k + 1) by rw [hy]; rfl)
    clear hy
    by_cases hkc : k < c
    · obtain ⟨x0, hx0⟩ : ∃ x0, wr.cell? ⟨w.heap.size, k, none⟩ = some x0 := ⟨_, by rw [HB.cell, Array.getElem?_eq_getElem (by omega)]⟩
      have hz := HB.frozen k
      obtain ⟨y2, hy2⟩ : ∃ y2, y2 = spreadN y := ⟨_, rfl⟩
      have HY2 := Lib.hid hy2
      clear hcell hs hy2
      go_wp2_with (go_at_call 17; refine (spread_any y hyl _).mono ?_; rw [← HY2.out]; rintro e w5 ⟨rfl, rfl⟩)
      go_roundw
      case rel =>
        refine ⟨k + 1, by omega, by go_num, by rw [← HY.out, ← HY2.out], ⟨_, HB.setCell k _, by simp [HS.out], fun j hj => ?_⟩, H.setCell (.inr (by simp)) _⟩
        rw [Array.getElem?_setIfInBounds]
        by_cases hjk : k = j
        · subst hjk; rw [if_pos rfl, if_pos (by rw [HS.out]; omega), ← HY.out, ← HY2.out]
        · rw [if_neg hjk]; exact HC.out j (by omega)
      case measure => simp [intOf] <;> omega
    · obtain rfl : k = c := by omega
      have hfin : words ((List.range k).map fun j => iterSpread x (j + 1)) = cells.toList.take k := by
        apply List.ext_getElem?
        intro j
        rw [List.getElem?_take]
        by_cases hj : j < k
        · have h := hcell j hj; rw [← Array.getElem?_toList] at h; rw [if_pos hj, h]; simp [words, hj]
        · rw [if_neg hj]; simp [words]; omega
      have HFIN := Lib.hid hfin
      clear hcell hs hfin
      go_wp2
      go_ret
      exact ⟨_, rfl, Own.of_blk HB (Nat.le_refl _) HS.out (Nat.le_refl _) (by unfold maxLen; omega) HFIN.out, H⟩
end Go.Proofs.Ytdnholkhdjnamaa
