/- deque: its ends, its length, its words. -/
import Derived.Test.YtjdbgohfedjifaaDoorDq6
import Derived.Test.YtjdbgohfedjifaaDoorDqA
import Derived.Test.YtjdbgohfedjifaaDoorMm
namespace Go.Proofs.YtjdbgohfedjifaaDoor
open Go.RowKit Bosun
theorem partN_one {W : List Nat} {a : Int} (h : hasA W a = true) : partN W a 1 = [getA W a] := by
  obtain ⟨h0, h1⟩ := hasA_iff.1 h
  obtain ⟨k, rfl⟩ := Int.eq_ofNat_of_zero_le h0
  have hk : k < W.length := by omega
  rw [getA_yes hk]
  unfold partN partLo partHi
  rw [if_neg (by omega), if_neg (by omega)]
  simp only [Int.toNat_natCast, Int.toNat_one]
  rw [List.take_succ_eq_append_getElem hk, List.drop_append_of_le_length (by rw [List.length_take]; omega), List.drop_eq_nil_of_le (by rw [List.length_take]; omega), List.nil_append]
theorem partN_no {W : List Nat} {a : Int} (h : hasA W a = false) : partN W a 1 = [] := by
  have h' : ¬ (0 ≤ a ∧ a < W.length) := fun hh => by rw [hasA_iff.2 hh] at h; cases h
  unfold partN partLo partHi
  rw [if_neg (by omega)]
  split
  · rw [show (1 + a).toNat = 0 from by omega]; simp
  · rw [List.drop_eq_nil_of_le (by rw [List.length_take]; omega)]
set_option maxHeartbeats 1000000 in
/-- One word, asked for without an access. cb: where the memory's address is kept. -/
theorem one_any (bm bw : Nat) (W : List Nat) (u : Nat) (w : World) (h : IsMem w bm bw W u) (cb : Nat) (hcb : w.cell? ⟨cb, 0, none⟩ = some (.pointer (some ⟨bm, 0, none⟩))) (a : Int) (h0 : -9223372036854775808 ≤ a) (h1 : a ≤ 9223372036854775807) :
    Calls Tryd.prog 84 #[.int .i64 a, .pointer (some ⟨cb, 0, none⟩)] w fun e w' => e = .returned (.int .u64 (getA W a : Nat)) ∧ Chg [] w w' := by
  have HP := Lib.hid (part_any bm bw W u w h a 1 h0 h1 (by omega) (by omega))
  by_cases hh : hasA W a = true
  · rw [partN_one hh] at HP
    obtain ⟨x, hx⟩ : ∃ x, x = getA W a := ⟨_, rfl⟩
    rw [← hx] at HP ⊢
    clear hh hx h
    go_enter Tryd.func84, Tryd.ntmps84
    go_wp2_with fail
    refine HP.out.mono ?_
    rintro e w1 ⟨v, rfl, O1, C1⟩
    obtain ⟨ao, cap, rfl, _, hc⟩ := O1.reads
    obtain ⟨g, off, rfl, c0⟩ := hc 0 _ rfl
    rw [Nat.add_zero] at c0
    simp only [words_len, List.length_cons, List.length_nil] at *
    clear hc O1
    go_wp2_with fail
    go_loopw [10] (fun x10 wr => x10 = .int .i64 0 ∧ w1 = wr) (fun x10 _ => 1 - (intOf x10).toNat)
    case atStart => exact ⟨rfl, rfl⟩
    case round =>
      obtain ⟨rfl, rfl⟩ := hrel
      go_wp2_with fail
      go_ret
      exact ⟨rfl, C1⟩
  · have hf : hasA W a = false := by cases hq : hasA W a; rfl; exact absurd hq hh
    rw [partN_no hf] at HP
    rw [getA_no hf]
    clear hf hh h
    go_enter Tryd.func84, Tryd.ntmps84
    go_wp2_with fail
    refine HP.out.mono ?_
    rintro e w1 ⟨v, rfl, O1, C1⟩
    obtain ⟨ao, cap, rfl, _, hc⟩ := O1.reads
    simp only [words_len, List.length_nil] at *
    clear hc O1
    go_wp2_with fail
    go_loopw [10] (fun x10 wr => x10 = .int .i64 0 ∧ w1 = wr) (fun x10 _ => 1 - (intOf x10).toNat)
    case atStart => exact ⟨rfl, rfl⟩
    case round =>
      obtain ⟨rfl, rfl⟩ := hrel
      go_wp2_with fail
      go_ret
      exact ⟨rfl, C1⟩
theorem cell_keep {w w1 : World} {a : Addr} {v : Value} (C : Chg [] w w1) (h : w.cell? a = some v) : w1.cell? a = some v :=
  (World.cell?_of_block (C.block _ (World.block_lt_of_cell? _ _ h) (by simp))).trans h
set_option maxHeartbeats 2000000 in
theorem ends_any (base : Int) (h0 : -100 ≤ base) (h1 : base ≤ 1000000) (cap : Nat) (bm bw : Nat) (W : List Nat) (u : Nat) (w : World) (h : IsMem w bm bw W u) :
    Calls Tryd.prog 62 #[.agg #[.int .i64 base, .int .i64 (cap : Nat)], .pointer (some ⟨bm, 0, none⟩)] w fun e w' => e = .returned (.tuple #[.int .u64 (getA W base : Nat), .int .u64 (getA W (base + 1) : Nat)]) ∧ Chg [] w w' := by
  have HO := Lib.hid (fun a h0 h1 w' (C : Chg [] w w') cb hcb => one_any bm bw W u w' (h.keep C) cb hcb a h0 h1)
  have e0 : IntKind.i64.wrap base = base := IntWalk.i64_in _ (by omega)
  have e1 : IntKind.i64.wrap (base + 1) = base + 1 := IntWalk.i64_in _ (by omega)
  clear h
  go_enter Tryd.func62, Tryd.ntmps62
  go_wp2_with fail
  have q0 : Chg [] w ((w.alloc (.cells #[.int .i64 base, .int .i64 (cap : Nat)] 70)).alloc (.cells #[.pointer (some ⟨bm, 0, none⟩)] 23)) := ((Chg.refl _ _).alloc _).alloc _
  have q1 : ((w.alloc (.cells #[.int .i64 base, .int .i64 (cap : Nat)] 70)).alloc (.cells #[.pointer (some ⟨bm, 0, none⟩)] 23)).cell? ⟨w.heap.size, 0, none⟩ = some (.int .i64 base) := by simp
  have q2 : ((w.alloc (.cells #[.int .i64 base, .int .i64 (cap : Nat)] 70)).alloc (.cells #[.pointer (some ⟨bm, 0, none⟩)] 23)).cell? ⟨w.heap.size + 1, 0, none⟩ = some (.pointer (some ⟨bm, 0, none⟩)) := by simp
  generalize ((w.alloc (.cells #[.int .i64 base, .int .i64 (cap : Nat)] 70)).alloc (.cells #[.pointer (some ⟨bm, 0, none⟩)] 23)) = w2 at q0 q1 q2 ⊢
  go_region_held3 (fun w' => w'.cell? ⟨w.heap.size, 0, none⟩ = some (.int .i64 base) ∧ w'.cell? ⟨w.heap.size + 1, 0, none⟩ = some (.pointer (some ⟨bm, 0, none⟩)) ∧ Chg [] w w') (first | assumption | exact ⟨q1, q2, q0⟩ | exact ⟨q1, q2, q0.drew⟩ | exact ⟨m1, m2, m3⟩ | exact ⟨m1, m2, m3.drew⟩ | exact ⟨k1, k2, k3⟩ | exact ⟨k1, k2, k3.drew⟩)
    (first
      | (go_at_call 84; refine (HO.out _ (by omega) (by omega) _ q0.drew _ q2).mono ?_; rintro e y ⟨rfl, C⟩; have k1 := cell_keep C q1; have k2 := cell_keep C q2; have k3 : Chg [] w y := q0.drew.then C (by simp))
      | (go_at_call 84; refine (HO.out _ (by omega) (by omega) _ k3 _ k2).mono ?_; rintro e y ⟨rfl, C⟩; have m1 := cell_keep C k1; have m2 := cell_keep C k2; have m3 : Chg [] w y := k3.then C (by simp)))
  go_wp2_with fail
  go_ret2
  exact ⟨rfl, m3⟩
theorem len_val (a b : Nat) (cap : Nat) (hc : cap ≤ 256) : (min (max (ahd a b) 0) (cap : Int)) = ((min (max (ahd a b) 0) (cap : Int)).toNat : Int) := by omega
set_option maxHeartbeats 2000000 in
theorem dlen_any (base : Int) (h0 : -100 ≤ base) (h1 : base ≤ 1000000) (cap : Nat) (hcap : Pow2 cap) (bm bw : Nat) (W : List Nat) (u : Nat) (w : World) (h : IsMem w bm bw W u) :
    Calls Tryd.prog 63 #[.agg #[.int .i64 base, .int .i64 (cap : Nat)], .pointer (some ⟨bm, 0, none⟩)] w fun e w' => e = .returned (.int .i64 (lenD base cap W : Nat)) ∧ Chg [] w w' := by
  have hle := hcap.le
  have s1 : getA W base < 18446744073709551616 := h.small.getA _
  have s2 : getA W (base + 1) < 18446744073709551616 := h.small.getA _
  have HE := Lib.hid (fun w' (C : Chg [] w w') => ends_any base h0 h1 cap bm bw W u w' (h.keep C))
  obtain ⟨t, ht⟩ : ∃ t, t = getA W base := ⟨_, rfl⟩
  obtain ⟨b, hb⟩ : ∃ b, b = getA W (base + 1) := ⟨_, rfl⟩
  have hl : ((lenD base cap W : Nat) : Int) = min (max (ahd b t) 0) (cap : Int) := by unfold lenD; rw [← ht, ← hb]; omega
  rw [← ht] at HE s1
  rw [← hb] at HE s2
  have HA := Lib.hid (fun w => ahead_any b t s2 s1 w)
  obtain ⟨a, ha⟩ : ∃ a, a = ahd b t := ⟨_, rfl⟩
  rw [← ha] at HA hl
  obtain ⟨n, hn⟩ : ∃ n, n = lenD base cap W := ⟨_, rfl⟩
  rw [← hn] at hl ⊢
  have HL := Lib.hid hl
  clear h ht hb ha hn hl s1 s2 hcap
  go_enter Tryd.func63, Tryd.ntmps63
  go_wp2_with fail
  refine (HE.out _ ((Chg.refl _ _).alloc _)).mono ?_
  rintro e w2 ⟨rfl, C2⟩
  have c1 : w2.cell? ⟨w.heap.size, 1, none⟩ = some (.int .i64 (cap : Nat)) := cell_keep C2 (by simp)
  have C02 : Chg [] w w2 := ((Chg.refl _ _).alloc _).then C2 (by simp)
  clear C2
  go_wp2_with fail
  go_region_with (go_at_call 66; refine (HA.out _).mono ?_; rintro e w3 ⟨rfl, rfl⟩)
  all_goals go_wp2_with fail
  all_goals
    go_ret
    have hh := HL.out
    exact ⟨ret_int (by omega), C02.drew⟩
end Go.Proofs.YtjdbgohfedjifaaDoor
