/- deque: one is made; its works begin; what they tell. -/
import Derived.Test.YtjdbgohfedjifaaGreatDoorDq5
namespace Bosun
open Go
/-- The greatest power of two not above a number, from 1 to 256. -/
def clampN (c : Int) : Nat := (min (max c 1) 256).toNat
def holdN (c : Int) : Nat := 2 ^ Nat.log2 (clampN c)
theorem clampN_range (c : Int) : 1 ≤ clampN c ∧ clampN c ≤ 256 := by unfold clampN; omega
theorem strip_facts : ∀ n, n < 257 → 1 ≤ n → (n &&& (n - 1) ≠ 0 → n &&& (n - 1) < n ∧ 2 ^ Nat.log2 (n &&& (n - 1)) = 2 ^ Nat.log2 n) ∧ (n &&& (n - 1) = 0 → n = 2 ^ Nat.log2 n) ∧ Nat.log2 n ≤ 8 := by decide +kernel
theorem holdN_pow2 (c : Int) : Pow2 (holdN c) := ⟨Nat.log2 (clampN c), (strip_facts _ (by have := clampN_range c; omega) (clampN_range c).1).2.2, rfl⟩
theorem okMk {base : Int} {cap kind steps b t x : Nat} {won done : Bool} {err : Int} (hk : kind ≤ 2) (hs : done = false → steps < if kind = 1 then 6 else 4) (he : done = false → err = 0) (hc : Pow2 cap) (b0 : -100 ≤ base) (b1 : base ≤ 1000000)
    (hb : b < 18446744073709551616) (ht : t < 18446744073709551616) (hx : x < 18446744073709551616) (e0 : 0 ≤ err) (e1 : err ≤ 15) (s6 : steps ≤ 6) : OkOp ⟨base, cap, kind, steps, b, t, x, won, done, err⟩ := ⟨hk, hs, he, hc, b0, b1, hb, ht, hx, e0, e1, s6⟩
theorem okIf {c : Prop} [Decidable c] {o o' : DOp} (h : OkOp o) (h' : OkOp o') : OkOp (if c then o else o') := by split <;> assumption
theorem okStep {o : DOp} {W : List Nat} {u : Nat} (ok : OkOp o) (hW : Small W) : OkOp (stepD o W u).1 := by
  cases hd : o.done with
  | true =>
    have : stepD o W u = (o, W, u) := by unfold stepD; rw [if_pos hd]
    rw [this]; exact ok
  | false =>
    have hk := ok.kind
    have hst := ok.steps hd
    have hs6 := ok.s
    obtain ⟨b0, b1, hc, hb, ht, hx⟩ := And.intro ok.b0 (And.intro ok.b1 (And.intro ok.cap (And.intro ok.b (And.intro ok.t ok.x))))
    have herr := ok.err hd
    clear ok
    obtain ⟨base, cap, kind, steps, b, t, x, won, done, err⟩ := o
    simp only at hk hst hs6 b0 b1 hc hb ht hx herr hd
    subst hd herr
    have g0 := hW.getA base
    have g1 := hW.getA (base + 1)
    have g2 := hW.getA (plc base cap b)
    have g3 := hW.getA (plc base cap t)
    have gs := sub1_lt (getA W (base + 1))
    rcases (show kind = 0 ∨ kind = 1 ∨ kind = 2 by omega) with rfl | rfl | rfl
    · simp only [show ¬ (0 = 1) from by omega, if_false] at hst
      rcases (show steps = 0 ∨ steps = 1 ∨ steps = 2 ∨ steps = 3 by omega) with rfl | rfl | rfl | rfl
      · exact (okMk (by decide) (fun _ => by decide) (fun _ => rfl) hc b0 b1 g1 ht hx (by decide) (by decide) (by decide) : OkOp ⟨base, cap, 0, 1, (getA W (base + 1)), t, x, won, false, 0⟩)
      · exact okIf (okMk (by decide) (fun h => by cases h) (fun h => by cases h) hc b0 b1 hb g0 hx (by decide) (by decide) (by decide) : OkOp ⟨base, cap, 0, 2, b, (getA W base), x, won, true, 6⟩) (okMk (by decide) (fun _ => by decide) (fun _ => rfl) hc b0 b1 hb g0 hx (by decide) (by decide) (by decide) : OkOp ⟨base, cap, 0, 2, b, (getA W base), x, won, false, 0⟩)
      · exact (okMk (by decide) (fun _ => by decide) (fun _ => rfl) hc b0 b1 hb ht hx (by decide) (by decide) (by decide) : OkOp ⟨base, cap, 0, 3, b, t, x, won, false, 0⟩)
      · exact (okMk (by decide) (fun h => by cases h) (fun h => by cases h) hc b0 b1 hb ht hx (by decide) (by decide) (by decide) : OkOp ⟨base, cap, 0, 4, b, t, x, won, true, 0⟩)
    · simp only [if_true] at hst
      rcases (show steps = 0 ∨ steps = 1 ∨ steps = 2 ∨ steps = 3 ∨ steps = 4 ∨ steps = 5 by omega) with rfl | rfl | rfl | rfl | rfl | rfl
      · exact (okMk (by decide) (fun _ => by decide) (fun _ => rfl) hc b0 b1 gs ht hx (by decide) (by decide) (by decide) : OkOp ⟨base, cap, 1, 1, (sub1 (getA W (base + 1))), t, x, won, false, 0⟩)
      · exact (okMk (by decide) (fun _ => by decide) (fun _ => rfl) hc b0 b1 hb ht hx (by decide) (by decide) (by decide) : OkOp ⟨base, cap, 1, 2, b, t, x, won, false, 0⟩)
      · exact (okMk (by decide) (fun _ => by decide) (fun _ => rfl) hc b0 b1 hb g0 hx (by decide) (by decide) (by decide) : OkOp ⟨base, cap, 1, 3, b, (getA W base), x, won, false, 0⟩)
      · by_cases hf : 0 < ahd t b
        · have e1 : stepD ⟨base, cap, 1, 3, b, t, x, won, false, 0⟩ W u = (⟨base, cap, 1, 4, b, t, x, won, true, 7⟩, setA W (base + 1) t, tick W (base + 1) u) := by
            show (if 0 < ahd t b then _ else _) = _
            rw [if_pos hf]
          rw [e1]
          exact (okMk (by decide) (fun h => by cases h) (fun h => by cases h) hc b0 b1 hb ht hx (by decide) (by decide) (by decide) : OkOp ⟨base, cap, 1, 4, b, t, x, won, true, 7⟩)
        · have e1 : stepD ⟨base, cap, 1, 3, b, t, x, won, false, 0⟩ W u = (if 0 < ahd b t then ⟨base, cap, 1, 4, b, t, getA W (plc base cap b), won, true, 0⟩ else ⟨base, cap, 1, 4, b, t, getA W (plc base cap b), won, false, 0⟩, W, tick W (plc base cap b) u) := by
            show (if 0 < ahd t b then _ else _) = _
            rw [if_neg hf]
          rw [e1]
          exact okIf (okMk (by decide) (fun h => by cases h) (fun h => by cases h) hc b0 b1 hb ht g2 (by decide) (by decide) (by decide) : OkOp ⟨base, cap, 1, 4, b, t, (getA W (plc base cap b)), won, true, 0⟩) (okMk (by decide) (fun _ => by decide) (fun _ => rfl) hc b0 b1 hb ht g2 (by decide) (by decide) (by decide) : OkOp ⟨base, cap, 1, 4, b, t, (getA W (plc base cap b)), won, false, 0⟩)
      · exact (okMk (by decide) (fun _ => by decide) (fun _ => rfl) hc b0 b1 hb ht hx (by decide) (by decide) (by decide) : OkOp ⟨base, cap, 1, 5, b, t, x, (wins W base t), false, 0⟩)
      · exact (okMk (by decide) (fun h => by cases h) (fun h => by cases h) hc b0 b1 hb ht hx (by split <;> omega) (by split <;> omega) (by decide) : OkOp ⟨base, cap, 1, 6, b, t, x, won, true, (if won then 0 else 7)⟩)
    · simp only [show ¬ (2 = 1) from by omega, if_false] at hst
      rcases (show steps = 0 ∨ steps = 1 ∨ steps = 2 ∨ steps = 3 by omega) with rfl | rfl | rfl | rfl
      · exact (okMk (by decide) (fun _ => by decide) (fun _ => rfl) hc b0 b1 hb g0 hx (by decide) (by decide) (by decide) : OkOp ⟨base, cap, 2, 1, b, (getA W base), x, won, false, 0⟩)
      · exact okIf (okMk (by decide) (fun h => by cases h) (fun h => by cases h) hc b0 b1 g1 ht hx (by decide) (by decide) (by decide) : OkOp ⟨base, cap, 2, 2, (getA W (base + 1)), t, x, won, true, 7⟩) (okMk (by decide) (fun _ => by decide) (fun _ => rfl) hc b0 b1 g1 ht hx (by decide) (by decide) (by decide) : OkOp ⟨base, cap, 2, 2, (getA W (base + 1)), t, x, won, false, 0⟩)
      · exact (okMk (by decide) (fun _ => by decide) (fun _ => rfl) hc b0 b1 hb ht g3 (by decide) (by decide) (by decide) : OkOp ⟨base, cap, 2, 3, b, t, (getA W (plc base cap t)), won, false, 0⟩)
      · exact (okMk (by decide) (fun h => by cases h) (fun h => by cases h) hc b0 b1 hb ht hx (by split <;> omega) (by split <;> omega) (by decide) : OkOp ⟨base, cap, 2, 4, b, t, x, won, true, (if wins W base t then 0 else 8)⟩)
end Bosun
namespace Bosun
open Go
theorem dq_bits_and_i64_nat (a b : Nat) (ha : a < 9223372036854775808) (hb : b < 9223372036854775808) : bits .and .i64 (a : Int) (b : Int) = ((a &&& b : Nat) : Int) := by
  have hx : a &&& b ≤ a := Nat.and_le_left
  have h1 : (BitVec.ofInt 64 (a : Int)).toNat = a := by
    rw [BitVec.ofInt_natCast, BitVec.toNat_ofNat]; exact Nat.mod_eq_of_lt (by omega)
  have h2 : (BitVec.ofInt 64 (b : Int)).toNat = b := by
    rw [BitVec.ofInt_natCast, BitVec.toNat_ofNat]; exact Nat.mod_eq_of_lt (by omega)
  show IntKind.i64.wrap ((BitVec.ofInt 64 (a : Int) &&& BitVec.ofInt 64 (b : Int)).toNat : Int) = _
  rw [BitVec.toNat_and, h1, h2, IntKind.wrap_i64]
  omega
end Bosun
namespace Go.Proofs.YtjdbgohfedjifaaGreatDoor
open Go.RowKit Bosun
theorem sizeDq : (Tryz.prog.info? 70).map (·.size) = some 2 := by kernel_rfl
set_option maxHeartbeats 1000000 in
theorem held_any (c : Int) (h0 : -9223372036854775808 ≤ c) (h1 : c ≤ 9223372036854775807) (w : World) :
    Calls Tryz.prog 54 #[.int .i64 c] w fun e w' => e = .returned (.int .i64 (holdN c : Nat)) ∧ w = w' := by
  have r := clampN_range c
  have HN := Lib.hid (show holdN c = 2 ^ Nat.log2 (clampN c) from rfl)
  obtain ⟨hn, hhn⟩ : ∃ hn, hn = holdN c := ⟨_, rfl⟩
  rw [← hhn] at HN ⊢
  have e1 : (if c < 1 then (1 : Int) else c) = max c 1 := by split <;> omega
  have e2 : ((clampN c : Nat) : Int) = if 256 < max c 1 then 256 else max c 1 := by unfold clampN; split <;> omega
  have E1 := Lib.hid e1
  have E2 := Lib.hid e2
  obtain ⟨m, hm⟩ : ∃ m, m = clampN c := ⟨_, rfl⟩
  rw [← hm] at HN E2 r
  obtain ⟨x, hx⟩ : ∃ x, x = max c 1 := ⟨_, rfl⟩
  rw [← hx] at E1 E2
  clear e1 e2 hm hx hhn
  go_enter Tryz.func54, Tryz.ntmps54
  go_wp2_with (first
    | (refine wpList_max rfl (.tmp 3) (.const (.int .i64 1)) _ _ rfl .i64 c 1 x rfl rfl E1.out.symm ?_)
    | (refine wpList_min rfl (.tmp 4) (.const (.int .i64 256)) _ _ rfl .i64 x 256 (m : Nat) rfl rfl E2.out ?_))
  go_loop [0] (fun x0 => ∃ n : Nat, 1 ≤ n ∧ n ≤ 256 ∧ hn = 2 ^ Nat.log2 n ∧ x0 = .int .i64 (n : Nat)) (fun x0 => (intOf x0).toNat)
  case atStart => exact ⟨m, r.1, r.2, HN.out, rfl⟩
  case round =>
    obtain ⟨n, n1, n2, hh, rfl⟩ := hrel
    obtain ⟨f1, f2, _⟩ := strip_facts n (by omega) n1
    have HH := Lib.hid hh
    clear hh
    have F1 := Lib.hid f1
    have F2 := Lib.hid f2
    clear f1 f2
    have eb : bits .and .i64 (n : Int) ((n : Int) - 1) = ((n &&& (n - 1) : Nat) : Int) := by
      rw [show ((n : Int) - 1) = ((n - 1 : Nat) : Int) from by omega]
      exact dq_bits_and_i64_nat n (n - 1) (by omega) (by omega)
    obtain ⟨q, hq⟩ : ∃ q, q = n &&& (n - 1) := ⟨_, rfl⟩
    rw [← hq] at F1 F2 eb
    by_cases e0 : q = 0
    · have d : ((q : Int) != 0) = false := by simp [e0]
      have e3 := F2.out e0
      have E3 := Lib.hid (HH.out.trans e3.symm)
      clear hq e3 e0
      go_wp2_with fail
      go_ret
      exact ⟨ret_int (by rw [E3.out]), rfl⟩
    · have d : ((q : Int) != 0) = true := by simp [e0]
      have e3 := F1.out e0
      have E3 := Lib.hid e3
      have hql : q < n := e3.1
      clear hq e3
      go_wp2_with fail
      go_round
      case rel => exact ⟨q, by omega, by omega, by rw [E3.out.2]; exact HH.out, rfl⟩
      case measure => simp [intOf]; omega
theorem at_any (base c : Int) (h0 : -9223372036854775808 ≤ c) (h1 : c ≤ 9223372036854775807) (w : World) :
    Calls Tryz.prog 26 #[.int .i64 base, .int .i64 c] w fun e w' => e = .returned (.agg #[.int .i64 base, .int .i64 (holdN c : Nat)]) ∧ Chg [] w w' := by
  have HL := Lib.hid (fun w => held_any c h0 h1 w)
  clear h0 h1
  go_enter Tryz.func26, Tryz.ntmps26
  go_wp2_with fail
  refine (HL.out _).mono ?_
  rintro e w1 hh
  obtain ⟨rfl, hw⟩ := hh
  subst hw
  go_wp2_with fail
  refine bodyPost_ret (results_row rfl _ _ w.heap.size 70 #[.int .i64 base, .int .i64 (holdN c : Nat)] _ rfl ?_ Tryz.underlying70 rfl sizeDq) rfl ⟨rfl, ?_⟩
  · exact Blk.new _ _ _
  · exact (Chg.refl _ _).alloc _
theorem words_any (c : Int) (h0 : -9223372036854775808 ≤ c) (h1 : c ≤ 9223372036854775807) (w : World) :
    Calls Tryz.prog 27 #[.int .i64 c] w fun e w' => e = .returned (.int .i64 (2 + (holdN c : Nat))) ∧ w = w' := by
  have HL := Lib.hid (fun w => held_any c h0 h1 w)
  have hl := (holdN_pow2 c).le
  obtain ⟨n, hn⟩ : ∃ n, n = holdN c := ⟨_, rfl⟩
  rw [← hn] at HL hl ⊢
  clear h0 h1 hn
  go_enter Tryz.func27, Tryz.ntmps27
  go_wp2_with fail
  refine (HL.out _).mono ?_
  rintro e w1 ⟨rfl, rfl⟩
  go_wp2_with fail
  go_ret
  exact ⟨rfl, rfl⟩
theorem opush_any (base : Int) (n x : Nat) (w : World) : Calls Tryz.prog 62 #[.agg #[.int .i64 base, .int .i64 (n : Nat)], .int .u64 (x : Nat)] w fun e w' => ∃ g, e = .returned (.pointer (some ⟨g, 0, none⟩)) ∧ IsOp w' g (newD base n 0 x) ∧ Chg [] w w' ∧ w.heap.size ≤ g := by
  go_enter Tryz.func62, Tryz.ntmps62
  go_wp2_with fail
  go_ret
  exact ⟨_, rfl, heap_alloc2_new w _ _, ((Chg.refl _ _).alloc _).alloc _, by simp⟩
theorem opop_any (base : Int) (n : Nat) (w : World) : Calls Tryz.prog 88 #[.agg #[.int .i64 base, .int .i64 (n : Nat)]] w fun e w' => ∃ g, e = .returned (.pointer (some ⟨g, 0, none⟩)) ∧ IsOp w' g (newD base n 1 0) ∧ Chg [] w w' ∧ w.heap.size ≤ g := by
  go_enter Tryz.func88, Tryz.ntmps88
  go_wp2_with fail
  go_ret
  exact ⟨_, rfl, heap_alloc2_new w _ _, ((Chg.refl _ _).alloc _).alloc _, by simp⟩
theorem osteal_any (base : Int) (n : Nat) (w : World) : Calls Tryz.prog 85 #[.agg #[.int .i64 base, .int .i64 (n : Nat)]] w fun e w' => ∃ g, e = .returned (.pointer (some ⟨g, 0, none⟩)) ∧ IsOp w' g (newD base n 2 0) ∧ Chg [] w w' ∧ w.heap.size ≤ g := by
  go_enter Tryz.func85, Tryz.ntmps85
  go_wp2_with fail
  go_ret
  exact ⟨_, rfl, heap_alloc2_new w _ _, ((Chg.refl _ _).alloc _).alloc _, by simp⟩
set_option maxHeartbeats 1000000 in
theorem result_any (g : Nat) (o : DOp) (w : World) (h : IsOp w g o) : Calls Tryz.prog 94 #[.pointer (some ⟨g, 0, none⟩)] w fun e w' => e = .returned (.tuple #[.int .u64 ((resD o).1 : Nat), .int .i64 (resD o).2]) ∧ Chg [] w w' := by
  have HD := Lib.hid (done_any g o w h)
  have c6 := h.c6
  have c9 := h.c9
  by_cases hd : o.done = false
  · rw [show resD o = (0, 14) from if_pos hd]
    rw [hd] at HD
    clear h hd
    go_enter Tryz.func94, Tryz.ntmps94
    go_wp2_with fail
    refine HD.out.mono ?_
    rintro e w1 ⟨rfl, rfl⟩
    go_wp2_with fail
    go_ret2
    exact ⟨rfl, Chg.refl _ _⟩
  · have hd' : o.done = true := by simpa using hd
    rw [hd'] at HD
    by_cases he : o.err ≠ 0
    · rw [show resD o = (0, o.err) from (if_neg hd).trans (if_pos he)]
      have e1 : (o.err != 0) = true := by simpa using he
      clear h hd hd' he
      go_enter Tryz.func94, Tryz.ntmps94
      go_wp2_with fail
      refine HD.out.mono ?_
      rintro e w1 ⟨rfl, rfl⟩
      go_wp2_with fail
      go_region_held3 (fun w' => w'.cell? ⟨g, 9, none⟩ = some (.int .i64 o.err)) (first | assumption | exact c9) (fail)
      go_wp2_with fail
      go_ret2
      exact ⟨rfl, (Chg.refl _ _).drew⟩
    · rw [show resD o = (o.x, 0) from (if_neg hd).trans (if_neg he)]
      have e1 : o.err = 0 := by simpa using he
      rw [e1] at c9
      clear h hd hd' he e1
      go_enter Tryz.func94, Tryz.ntmps94
      go_wp2_with fail
      refine HD.out.mono ?_
      rintro e w1 ⟨rfl, rfl⟩
      go_wp2_with fail
      go_ret2
      exact ⟨rfl, Chg.refl _ _⟩
end Go.Proofs.YtjdbgohfedjifaaGreatDoor
