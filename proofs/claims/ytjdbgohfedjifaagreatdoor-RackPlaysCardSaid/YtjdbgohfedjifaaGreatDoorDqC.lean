/- deque: its ends, its length, its words. -/
import Derived.Test.YtjdbgohfedjifaaGreatDoorDq6
import Derived.Test.YtjdbgohfedjifaaGreatDoorDqA
import Derived.Test.YtjdbgohfedjifaaGreatDoorMm
namespace Go.Proofs.YtjdbgohfedjifaaGreatDoor
open Go.RowKit Bosun
theorem partN_one {W : List Nat} {a : Int} (h : hasA W a = true) : partN W a 1 = [getA W a] := by
  obtain ⟨h0, h1⟩ := hasA_iff.1 h
  obtain ⟨k, rfl⟩ := Int.eq_ofNat_of_zero_le h0
  have hk : k < W.length := by omega
  rw [getA_yes hk]
  unfold partN partLo partHi
  rw [if_neg (by omega), if_neg (by omega)]
  simp only [Int.toNat_natCast, Int.toNat_one]
  rw [List.take_succ_eq_append_getElem hk, List.drop_append_of_le_length (by rw [List.length_take]; omega), List.drop_eq_nil_of_le (by rw [List.length_take]; omega), List.nil_append]
theorem partN_no {W : List Nat} {a : Int} (h : hasA W a = false) : partN W a 1 = [] := by
  have h' : ¬ (0 ≤ a ∧ a < W.length) := fun hh => by rw [hasA_iff.2 hh] at h; cases h
  unfold partN partLo partHi
  rw [if_neg (by omega)]
  split
  · rw [show (1 + a).toNat = 0 from by omega]; simp
  · rw [List.drop_eq_nil_of_le (by rw [List.length_take]; omega)]
set_option maxHeartbeats 1000000 in
/-- One word, asked for without an access. cb: where the memory's address is kept. -/
theorem one_any (bm bw : Nat) (W : List Nat) (u : Nat) (w : World) (h : IsMem w bm bw W u) (cb : Nat) (hcb : w.cell? ⟨cb, 0, none⟩ = some (.pointer (some ⟨bm, 0, none⟩))) (a : Int) (h0 : -9223372036854775808 ≤ a) (h1 : a ≤ 9223372036854775807) :
    Calls Tryz.prog 105 #[.int .i64 a, .pointer (some ⟨cb, 0, none⟩)] w fun e w' => e = .returned (.int .u64 (getA W a : Nat)) ∧ Chg [] w w' := by
  have HP := Lib.hid (part_any bm bw W u w h a 1 h0 h1 (by omega) (by omega))
  by_cases hh : hasA W a = true
  · rw [partN_one hh] at HP
    obtain ⟨x, hx⟩ : ∃ x, x = getA W a := ⟨_, rfl⟩
    rw [← hx] at HP ⊢
    clear hh hx h
    go_enter Tryz.func105, Tryz.ntmps105
    go_wp2_with fail
    refine HP.out.mono ?_
    rintro e w1 ⟨v, rfl, O1, C1⟩
    obtain ⟨ao, cap, rfl, _, hc⟩ := O1.reads
    obtain ⟨g, off, rfl, c0⟩ := hc 0 _ rfl
    rw [Nat.add_zero] at c0
    simp only [words_len, List.length_cons, List.length_nil] at *
    clear hc O1
    go_wp2_with fail
    go_loopw [10] (fun x10 wr => x10 = .int .i64 0 ∧ w1 = wr) (fun x10 _ => 1 - (intOf x10).toNat)
    case atStart => exact ⟨rfl, rfl⟩
    case round =>
      obtain ⟨rfl, rfl⟩ := hrel
      go_wp2_with fail
      go_ret
      exact ⟨rfl, C1⟩
  · have hf : hasA W a = false := by cases hq : hasA W a; rfl; exact absurd hq hh
    rw [partN_no hf] at HP
    rw [getA_no hf]
    clear hf hh h
    go_enter Tryz.func105, Tryz.ntmps105
    go_wp2_with fail
    refine HP.out.mono ?_
    rintro e w1 ⟨v, rfl, O1, C1⟩
    obtain ⟨ao, cap, rfl, _, hc⟩ := O1.reads
    simp only [words_len, List.length_nil] at *
    clear hc O1
    go_wp2_with fail
    go_loopw [10] (fun x10 wr => x10 = .int .i64 0 ∧ w1 = wr) (fun x10 _ => 1 - (intOf x10).toNat)
    case atStart => exact ⟨rfl, rfl⟩
    case round =>
      obtain ⟨rfl, rfl⟩ := hrel
      go_wp2_with fail
      go_ret
      exact ⟨rfl, C1⟩
theorem cell_keep {w w1 : World} {a : Addr} {v : Value} (C : Chg [] w w1) (h : w.cell? a = some v) : w1.cell? a = some v :=
  (World.cell?_of_block (C.block _ (World.block_lt_of_cell? _ _ h) (by simp))).trans h
set_option maxHeartbeats 2000000 in
theorem ends_any (base : Int) (h0 : -100 ≤ base) (h1 : base ≤ 1000000) (cap : Nat) (bm bw : Nat) (W : List Nat) (u : Nat) (w : World) (h : IsMem w bm bw W u) :
    Calls Tryz.prog 77 #[.agg #[.int .i64 base, .int .i64 (cap : Nat)], .pointer (some ⟨bm, 0, none⟩)] w fun e w' => e = .returned (.tuple #[.int .u64 (getA W base : Nat), .int .u64 (getA W (base + 1) : Nat)]) ∧ Chg [] w w' := by
  have HO := Lib.hid (fun a h0 h1 w' (C : Chg [] w w') cb hcb => one_any bm bw W u w' (h.keep C) cb hcb a h0 h1)
  have e0 : IntKind.i64.wrap base = base := IntWalk.i64_in _ (by omega)
  have e1 : IntKind.i64.wrap (base + 1) = base + 1 := IntWalk.i64_in _ (by omega)
  clear h
  go_enter Tryz.func77, Tryz.ntmps77
  go_wp2_with fail
  have q0 : Chg [] w ((w.alloc (.cells #[.int .i64 base, .int .i64 (cap : Nat)] 70)).alloc (.cells #[.pointer (some ⟨bm, 0, none⟩)] 25)) := ((Chg.refl _ _).alloc _).alloc _
  have q1 : ((w.alloc (.cells #[.int .i64 base, .int .i64 (cap : Nat)] 70)).alloc (.cells #[.pointer (some ⟨bm, 0, none⟩)] 25)).cell? ⟨w.heap.size, 0, none⟩ = some (.int .i64 base) := by simp
  have q2 : ((w.alloc (.cells #[.int .i64 base, .int .i64 (cap : Nat)] 70)).alloc (.cells #[.pointer (some ⟨bm, 0, none⟩)] 25)).cell? ⟨w.heap.size + 1, 0, none⟩ = some (.pointer (some ⟨bm, 0, none⟩)) := by simp
  generalize ((w.alloc (.cells #[.int .i64 base, .int .i64 (cap : Nat)] 70)).alloc (.cells #[.pointer (some ⟨bm, 0, none⟩)] 25)) = w2 at q0 q1 q2 ⊢
  go_region_held3 (fun w' => w'.cell? ⟨w.heap.size, 0, none⟩ = some (.int .i64 base) ∧ w'.cell? ⟨w.heap.size + 1, 0, none⟩ = some (.pointer (some ⟨bm, 0, none⟩)) ∧ Chg [] w w') (first | assumption | exact ⟨q1, q2, q0⟩ | exact ⟨q1, q2, q0.drew⟩ | exact ⟨m1, m2, m3⟩ | exact ⟨m1, m2, m3.drew⟩ | exact ⟨k1, k2, k3⟩ | exact ⟨k1, k2, k3.drew⟩)
    (first
      | (go_at_call 105; refine (HO.out _ (by omega) (by omega) _ q0.drew _ q2).mono ?_; rintro e y ⟨rfl, C⟩; have k1 := cell_keep C q1; have k2 := cell_keep C q2; have k3 : Chg [] w y := q0.drew.then C (by simp))
      | (go_at_call 105; refine (HO.out _ (by omega) (by omega) _ k3 _ k2).mono ?_; rintro e y ⟨rfl, C⟩; have m1 := cell_keep C k1; have m2 := cell_keep C k2; have m3 : Chg [] w y := k3.then C (by simp)))
  go_wp2_with fail
  go_ret2
  exact ⟨rfl, m3⟩
theorem len_val (a b : Nat) (cap : Nat) (hc : cap ≤ 256) : (min (max (ahd a b) 0) (cap : Int)) = ((min (max (ahd a b) 0) (cap : Int)).toNat : Int) := by omega
set_option maxHeartbeats 2000000 in
theorem dlen_any (base : Int) (h0 : -100 ≤ base) (h1 : base ≤ 1000000) (cap : Nat) (hcap : Pow2 cap) (bm bw : Nat) (W : List Nat) (u : Nat) (w : World) (h : IsMem w bm bw W u) :
    Calls Tryz.prog 78 #[.agg #[.int .i64 base, .int .i64 (cap : Nat)], .pointer (some ⟨bm, 0, none⟩)] w fun e w' => e = .returned (.int .i64 (lenD base cap W : Nat)) ∧ Chg [] w w' := by
  have hle := hcap.le
  have s1 : getA W base < 18446744073709551616 := h.small.getA _
  have s2 : getA W (base + 1) < 18446744073709551616 := h.small.getA _
  have HE := Lib.hid (fun w' (C : Chg [] w w') => ends_any base h0 h1 cap bm bw W u w' (h.keep C))
  obtain ⟨t, ht⟩ : ∃ t, t = getA W base := ⟨_, rfl⟩
  obtain ⟨b, hb⟩ : ∃ b, b = getA W (base + 1) := ⟨_, rfl⟩
  have hl : ((lenD base cap W : Nat) : Int) = min (max (ahd b t) 0) (cap : Int) := by unfold lenD; rw [← ht, ← hb]; omega
  rw [← ht] at HE s1
  rw [← hb] at HE s2
  have HA := Lib.hid (fun w => ahead_any b t s2 s1 w)
  obtain ⟨a, ha⟩ : ∃ a, a = ahd b t := ⟨_, rfl⟩
  rw [← ha] at HA hl
  obtain ⟨n, hn⟩ : ∃ n, n = lenD base cap W := ⟨_, rfl⟩
  rw [← hn] at hl ⊢
  have HL := Lib.hid hl
  clear h ht hb ha hn hl s1 s2 hcap
  go_enter Tryz.func78, Tryz.ntmps78
  go_wp2_with fail
  refine (HE.out _ ((Chg.refl _ _).alloc _)).mono ?_
  rintro e w2 ⟨rfl, C2⟩
  have c1 : w2.cell? ⟨w.heap.size, 1, none⟩ = some (.int .i64 (cap : Nat)) := cell_keep C2 (by simp)
  have C02 : Chg [] w w2 := ((Chg.refl _ _).alloc _).then C2 (by simp)
  clear C2
  go_wp2_with fail
  go_region_with (go_at_call 99; refine (HA.out _).mono ?_; rintro e w3 ⟨rfl, rfl⟩)
  all_goals go_wp2_with fail
  all_goals
    go_ret
    have hh := HL.out
    exact ⟨ret_int (by omega), C02.drew⟩
end Go.Proofs.YtjdbgohfedjifaaGreatDoor

/- deque: all its words. -/
namespace Bosun
open Go
/-- The number of the i-th word. -/
def numD (b n i : Nat) : Nat := (b + (18446744073709551616 - n) + i) % 18446744073709551616
def allTo (base : Int) (cap : Nat) (W : List Nat) (i : Nat) : List Nat := (List.range i).map fun i => getA W (plc base cap (numD (getA W (base + 1)) (lenD base cap W) i))
theorem allTo_all (base : Int) (cap : Nat) (W : List Nat) : allTo base cap W (lenD base cap W) = allD base cap W := rfl
theorem allTo_succ (base : Int) (cap : Nat) (W : List Nat) (i : Nat) : allTo base cap W (i + 1) = allTo base cap W i ++ [getA W (plc base cap (numD (getA W (base + 1)) (lenD base cap W) i))] := by
  unfold allTo; rw [List.range_succ, List.map_append]; rfl
theorem allTo_len (base : Int) (cap : Nat) (W : List Nat) (i : Nat) : (allTo base cap W i).length = i := by simp [allTo]
theorem last_snoc (l : List Nat) {j : Nat} (h : j < l.length) : (l.take (j + 1)).getLastD 0 = l[j] := by
  rw [List.take_succ_eq_append_getElem h, List.getLastD_concat]
end Bosun
namespace Go.Proofs.YtjdbgohfedjifaaGreatDoor
open Go.RowKit Bosun
theorem part_last (W : List Nat) (a : Int) : (partN W a 1).getLastD 0 = getA W a ∧ (partN W a 1).length ≤ 1 := by
  by_cases h : hasA W a = true
  · rw [partN_one h]; exact ⟨rfl, Nat.le_refl _⟩
  · have hf : hasA W a = false := by cases hq : hasA W a; rfl; exact absurd hq h
    rw [partN_no hf, getA_no hf]; exact ⟨rfl, Nat.zero_le _⟩
theorem infoU64' : (Tryz.prog.info? 35).map (fun i => (i.zero, i.size, i.bytes)) = some (some (.int .u64 0), 1, 8) := by kernel_rfl
set_option maxHeartbeats 4000000 in
theorem dall_any (base : Int) (h0 : -100 ≤ base) (h1 : base ≤ 1000000) (cap : Nat) (hcap : Pow2 cap) (bm bw : Nat) (W : List Nat) (u : Nat) (w : World) (h : IsMem w bm bw W u) :
    Calls Tryz.prog 50 #[.agg #[.int .i64 base, .int .i64 (cap : Nat)], .pointer (some ⟨bm, 0, none⟩)] w fun e w' => ∃ v, e = .returned v ∧ Own w' w.heap.size 35 v (words (allD base cap W)) ∧ Chg [] w w' := by
  have hle := hcap.le
  have s2 : getA W (base + 1) < 18446744073709551616 := h.small.getA _
  have hn := lenD_le base cap W
  have HE := Lib.hid (fun w' (C : Chg [] w w') => ends_any base h0 h1 cap bm bw W u w' (h.keep C))
  have HL := Lib.hid (fun w' (C : Chg [] w w') => dlen_any base h0 h1 cap hcap bm bw W u w' (h.keep C))
  have HP := Lib.hid (fun k hk w => place_any base h0 h1 cap hcap k hk w)
  have HT := Lib.hid (fun w' (C : Chg [] w w') a h0 h1 => part_any bm bw W u w' (h.keep C) a 1 h0 h1 (by omega) (by omega))
  have SM := Lib.hid h.small
  have AT := Lib.hid (allTo_succ base cap W)
  have AA := Lib.hid (allTo_all base cap W)
  have pb : ∀ k, -9223372036854775808 ≤ plc base cap k ∧ plc base cap k ≤ 9223372036854775807 := fun k => by
    unfold plc
    have : k % cap < cap := Nat.mod_lt _ (by omega)
    omega
  have PB := Lib.hid pb
  obtain ⟨b, hb⟩ : ∃ b, b = getA W (base + 1) := ⟨_, rfl⟩
  obtain ⟨n, hne⟩ : ∃ n, n = lenD base cap W := ⟨_, rfl⟩
  rw [← hb] at HE s2 AT
  rw [← hne] at HL hn AT AA
  have e1 : IntKind.u64.wrap ((b : Int) - (n : Int)) = (numD b n 0 : Nat) := by rw [IntKind.wrap_u64]; unfold numD; omega
  clear h hb hne hcap pb
  go_enter Tryz.func50, Tryz.ntmps50
  go_wp2_with fail
  refine (HE.out _ ((Chg.refl _ _).alloc _)).mono ?_
  rintro e w2 ⟨rfl, C2⟩
  have B2 : Blk w2 w.heap.size #[.int .i64 base, .int .i64 (cap : Nat)] 70 := (Blk.new w _ _).chg C2 (by simp)
  have C02 : Chg [] w w2 := ((Chg.refl _ _).alloc _).then C2 (by simp)
  have c0 : w2.cell? ⟨w.heap.size, 0, none⟩ = some (.int .i64 base) := B2.cell 0
  have c1 : w2.cell? ⟨w.heap.size, 1, none⟩ = some (.int .i64 (cap : Nat)) := B2.cell 1
  clear C2
  go_wp2_with fail
  refine (HL.out _ C02).mono ?_
  rintro e w3 ⟨rfl, C3⟩
  have B3 := B2.chg C3 (by simp)
  have C03 := C02.then C3 (by simp)
  clear C3 C02 B2 c0 c1
  have z3 := B3.lt
  go_wp2_with fail
  go_loopw [7, 8] (fun x7 x8 wr => ∃ i : Nat, i ≤ n ∧ x8 = .int .u64 (numD b n i : Nat) ∧ Own wr w3.heap.size 35 x7 (words (allTo base cap W i)) ∧ Chg [] w3 wr)
    (fun _ x8 _ => (((b : Int) - intOf x8) % 18446744073709551616).toNat)
  case atStart => exact ⟨0, by omega, rfl, Own.nil _ _ _, Chg.refl _ _⟩
  case round =>
    obtain ⟨i, hi, rfl, hown, C⟩ := hrel
    by_cases hin : i < n
    · have nb : ((numD b n i : Nat) : Int) ≠ (b : Int) := by unfold numD; omega
      have nb' : (((numD b n i : Nat) : Int) != (b : Int)) = true := by simpa using nb
      have ek : IntKind.u64.wrap (((numD b n i : Nat) : Int) + 1) = (numD b n (i + 1) : Nat) := by rw [IntKind.wrap_u64]; unfold numD; omega
      have hk : numD b n i < 18446744073709551616 := Nat.mod_lt _ (by omega)
      have em : (((b : Int) - (numD b n (i + 1) : Nat)) % 18446744073709551616).toNat < (((b : Int) - (numD b n i : Nat)) % 18446744073709551616).toNat := by unfold numD; omega
      obtain ⟨pl1, pl2⟩ := part_last W (plc base cap (numD b n i))
      have AS := Lib.hid (AT.out i)
      have HPL := Lib.hid (fun w => HP.out (numD b n i) hk w)
      have HPT := Lib.hid (fun w' C => HT.out w' C (plc base cap (numD b n i)) (PB.out _).1 (PB.out _).2)
      obtain ⟨k, hke⟩ : ∃ k, k = numD b n i := ⟨_, rfl⟩
      obtain ⟨k', hke'⟩ : ∃ k', k' = numD b n (i + 1) := ⟨_, rfl⟩
      rw [← hke] at nb' ek pl1 pl2 AS HPL HPT em
      rw [← hke'] at ek em
      obtain ⟨a, hae⟩ : ∃ a, a = plc base cap k := ⟨_, rfl⟩
      rw [← hae] at pl1 pl2 AS HPL HPT
      obtain ⟨ms, hms⟩ : ∃ ms, ms = partN W a 1 := ⟨_, rfl⟩
      rw [← hms] at pl1 pl2 HPT
      have HK := Lib.hid hke
      have HK' := Lib.hid hke'
      have EM := Lib.hid em
      have BR := B3.chg C (by simp)
      have c0 : wr.cell? ⟨w.heap.size, 0, none⟩ = some (.int .i64 base) := BR.cell 0
      have c1 : wr.cell? ⟨w.heap.size, 1, none⟩ = some (.int .i64 (cap : Nat)) := BR.cell 1
      rw [← hke]
      clear hke hke' hae hms nb hk em BR
      go_wp2_with fail
      refine (HPL.out wr).mono ?_
      rintro e w4 ⟨rfl, C4⟩
      have C34 := C.then C4 (by simp)
      have C04 : Chg [] w w4 := C03.then C34 (by simp)
      go_wp2_with fail
      refine (HPT.out _ C04).mono ?_
      rintro e w5 ⟨v, rfl, O5, C5⟩
      have C35 := C34.then C5 (by simp)
      obtain ⟨ao, cp, rfl, hm, hc⟩ := O5.reads
      rw [words_len] at hm
      rw [words_len]
      have hc := Lib.hid hc
      have hown5 := (hown.keep C4).keep C5
      clear c0 c1 C4 C5 O5 C34 hown
      go_wp2_with fail
      go_loopw [9, 35] (fun x9 x35 wq => ∃ j : Nat, j ≤ ms.length ∧ x35 = .int .i64 j ∧ x9 = .int .u64 ((ms.take j).getLastD 0 : Nat) ∧ w5 = wq) (fun _ x35 _ => ms.length - (intOf x35).toNat)
      case atStart => exact ⟨0, by omega, rfl, rfl, rfl⟩
      case round =>
        obtain ⟨j, hj, rfl, rfl, rfl⟩ := hrel
        by_cases hjl : j < ms.length
        · obtain ⟨g, off, rfl, cj⟩ := hc.out j _ (words_get ms hjl)
          have HLS := Lib.hid (last_snoc ms hjl)
          obtain ⟨y, hy⟩ : ∃ y, y = ms[j] := ⟨_, rfl⟩
          rw [← hy] at cj HLS
          clear hy
          go_wp2_with fail
          go_roundw
          case rel => exact ⟨j + 1, by omega, by go_num, by rw [HLS.out], by trivial⟩
          case measure => simp [intOf] <;> omega
        · obtain rfl : j = ms.length := by omega
          rw [List.take_length, pl1]
          obtain ⟨y, hy⟩ : ∃ y, y = getA W a := ⟨_, rfl⟩
          rw [← hy] at AS
          rw [← hy]
          clear hy
          have hb5 := hown5.block
          have z5 : w3.heap.size ≤ w5.heap.size := C35.size
          go_wp2_with (refine wpList_app1 rfl (.tmp 41) (.tmp 43) 36 rfl w3.heap.size 35 (.int .u64 0) 8 Tryz.underlying36 infoU64' rfl _ _ rfl (hown5.alloc _) w5.heap.size 1 (.int .u64 (y : Nat)) rfl ((Blk.new w5 #[.int .u64 (y : Nat)] 35).cell 0) rfl (by rw [words_len, allTo_len]; unfold maxLen; omega) (by rw [words_len, allTo_len]; omega) (by simp; omega) ?_; intro v' w6 O6 C6; have C36 : Chg [] w3 w6 := (C35.alloc _).then C6 (fun g hg => .inr ((hb5 g hg).1)))
          go_roundw
          case rel => exact ⟨i + 1, by omega, by rw [HK'.out], by rw [AS.out, words_snoc]; exact O6, C36⟩
          case measure =>
            have em := EM.out
            simp [intOf]
            omega
    · obtain rfl : i = n := by omega
      have nb' : (((numD b i i : Nat) : Int) != (b : Int)) = false := by
        have : ((numD b i i : Nat) : Int) = (b : Int) := by unfold numD; omega
        simp [this]
      go_wp2_with fail
      go_ret
      exact ⟨_, rfl, by rw [← AA.out]; exact hown.mono (by omega), C03.then C (by simp)⟩
end Go.Proofs.YtjdbgohfedjifaaGreatDoor

/- deque: what works tell (cut out of deque/XDqT). -/
namespace Bosun
open Go
/-- What a work of a kind tells from a step on. -/
def telD (k s : Nat) (f : DOp → Nat) (o : DOp) : Nat × Bool := if o.kind ≠ k ∨ o.steps < s then (0, false) else (f o, true)
def clmD (o : DOp) (W : List Nat) : Nat × Bool :=
  if o.kind ≠ 1 ∨ o.done = true ∨ o.steps < 2 then (0, false) else if 5 ≤ o.steps then (if o.won then (o.x, true) else (0, false)) else if 0 < ahd (getA W o.base) o.b then (0, false) else (getA W (plc o.base o.cap o.b), true)
end Bosun
namespace Go.Proofs.YtjdbgohfedjifaaGreatDoor
open Go.RowKit Bosun
set_option maxHeartbeats 1000000 in
theorem dseen_any (g : Nat) (o : DOp) (w : World) (h : IsOp w g o) (hk : o.kind ≤ 2) : Calls Tryz.prog 111 #[.pointer (some ⟨g, 0, none⟩)] w fun e w' => e = .returned (.tuple #[.int .u64 ((telD 2 3 (·.x) o).1 : Nat), .bool (telD 2 3 (·.x) o).2]) ∧ w = w' := by
  have c2 := h.c2
  have c3 := h.c3
  have c6 := h.c6
  clear h
  obtain ⟨n, hn⟩ : ∃ n, n = o.steps := ⟨_, rfl⟩
  obtain ⟨x, hx⟩ : ∃ x, x = o.x := ⟨_, rfl⟩
  obtain ⟨q, hq⟩ : ∃ q, q = o.kind := ⟨_, rfl⟩
  have e : telD 2 3 (·.x) o = if q ≠ 2 ∨ n < 3 then (0, false) else (x, true) := by rw [hn, hx, hq]; rfl
  rw [e]
  rw [← hn] at c3
  rw [← hx] at c6
  rw [← hq] at c2 hk
  clear hn hx hq e
  by_cases hqk : q = 2
  · subst hqk
    by_cases h3 : n < 3
    · rw [if_pos (.inr h3)]
      have d3 : decide ((n : Int) < 3) = true := decide_eq_true (by omega)
      go_enter Tryz.func111, Tryz.ntmps111
      go_wp2_with fail
      go_ret2
      exact ⟨rfl, rfl⟩
    · rw [if_neg (by omega)]
      have d3 : decide ((n : Int) < 3) = false := decide_eq_false (by omega)
      go_enter Tryz.func111, Tryz.ntmps111
      go_wp2_with fail
      go_ret2
      exact ⟨rfl, rfl⟩
  · rw [if_pos (.inl hqk)]
    have d2 : ((q : Int) == 2) = false := beq_eq_false_iff_ne.2 (by omega)
    have d2' : ((q : Int) != 2) = true := by simp [bne, d2]
    go_enter Tryz.func111, Tryz.ntmps111
    go_wp2_with fail
    go_ret2
    exact ⟨rfl, rfl⟩
set_option maxHeartbeats 1000000 in
theorem dtop_any (g : Nat) (o : DOp) (w : World) (h : IsOp w g o) (hk : o.kind ≤ 2) : Calls Tryz.prog 117 #[.pointer (some ⟨g, 0, none⟩)] w fun e w' => e = .returned (.tuple #[.int .u64 ((telD 2 1 (·.t) o).1 : Nat), .bool (telD 2 1 (·.t) o).2]) ∧ w = w' := by
  have c2 := h.c2
  have c3 := h.c3
  have c6 := h.c5
  clear h
  obtain ⟨n, hn⟩ : ∃ n, n = o.steps := ⟨_, rfl⟩
  obtain ⟨x, hx⟩ : ∃ x, x = o.t := ⟨_, rfl⟩
  obtain ⟨q, hq⟩ : ∃ q, q = o.kind := ⟨_, rfl⟩
  have e : telD 2 1 (·.t) o = if q ≠ 2 ∨ n < 1 then (0, false) else (x, true) := by rw [hn, hx, hq]; rfl
  rw [e]
  rw [← hn] at c3
  rw [← hx] at c6
  rw [← hq] at c2 hk
  clear hn hx hq e
  by_cases hqk : q = 2
  · subst hqk
    by_cases h3 : n < 1
    · rw [if_pos (.inr h3)]
      have d3 : decide ((n : Int) < 1) = true := decide_eq_true (by omega)
      go_enter Tryz.func117, Tryz.ntmps117
      go_wp2_with fail
      go_ret2
      exact ⟨rfl, rfl⟩
    · rw [if_neg (by omega)]
      have d3 : decide ((n : Int) < 1) = false := decide_eq_false (by omega)
      go_enter Tryz.func117, Tryz.ntmps117
      go_wp2_with fail
      go_ret2
      exact ⟨rfl, rfl⟩
  · rw [if_pos (.inl hqk)]
    have d2 : ((q : Int) == 2) = false := beq_eq_false_iff_ne.2 (by omega)
    have d2' : ((q : Int) != 2) = true := by simp [bne, d2]
    go_enter Tryz.func117, Tryz.ntmps117
    go_wp2_with fail
    go_ret2
    exact ⟨rfl, rfl⟩
set_option maxHeartbeats 1000000 in
theorem dbottom_any (g : Nat) (o : DOp) (w : World) (h : IsOp w g o) (hk : o.kind ≤ 2) : Calls Tryz.prog 95 #[.pointer (some ⟨g, 0, none⟩)] w fun e w' => e = .returned (.tuple #[.int .u64 ((telD 0 1 (·.b) o).1 : Nat), .bool (telD 0 1 (·.b) o).2]) ∧ w = w' := by
  have c2 := h.c2
  have c3 := h.c3
  have c6 := h.c4
  clear h
  obtain ⟨n, hn⟩ : ∃ n, n = o.steps := ⟨_, rfl⟩
  obtain ⟨x, hx⟩ : ∃ x, x = o.b := ⟨_, rfl⟩
  obtain ⟨q, hq⟩ : ∃ q, q = o.kind := ⟨_, rfl⟩
  have e : telD 0 1 (·.b) o = if q ≠ 0 ∨ n < 1 then (0, false) else (x, true) := by rw [hn, hx, hq]; rfl
  rw [e]
  rw [← hn] at c3
  rw [← hx] at c6
  rw [← hq] at c2 hk
  clear hn hx hq e
  by_cases hqk : q = 0
  · subst hqk
    by_cases h3 : n < 1
    · rw [if_pos (.inr h3)]
      have d3 : decide ((n : Int) < 1) = true := decide_eq_true (by omega)
      go_enter Tryz.func95, Tryz.ntmps95
      go_wp2_with fail
      go_ret2
      exact ⟨rfl, rfl⟩
    · rw [if_neg (by omega)]
      have d3 : decide ((n : Int) < 1) = false := decide_eq_false (by omega)
      go_enter Tryz.func95, Tryz.ntmps95
      go_wp2_with fail
      go_ret2
      exact ⟨rfl, rfl⟩
  · rw [if_pos (.inl hqk)]
    have d2 : ((q : Int) == 0) = false := beq_eq_false_iff_ne.2 (by omega)
    have d2' : ((q : Int) != 0) = true := by simp [bne, d2]
    go_enter Tryz.func95, Tryz.ntmps95
    go_wp2_with fail
    go_ret2
    exact ⟨rfl, rfl⟩
set_option maxHeartbeats 4000000 in
theorem dclaimed_any (g : Nat) (o : DOp) (w : World) (h : IsOp w g o) (_hk : o.kind ≤ 2) (hs6 : o.steps ≤ 6) (h0 : -100 ≤ o.base) (h1 : o.base ≤ 1000000) (hc : Pow2 o.cap) (hb : o.b < 18446744073709551616) (bm bw : Nat) (W : List Nat) (u : Nat) (hm : IsMem w bm bw W u) :
    Calls Tryz.prog 64 #[.pointer (some ⟨g, 0, none⟩), .pointer (some ⟨bm, 0, none⟩)] w fun e w' => e = .returned (.tuple #[.int .u64 ((clmD o W).1 : Nat), .bool (clmD o W).2]) ∧ Chg [] w w' := by
  have c0 := h.c0
  have c1 := h.c1
  have c2 := h.c2
  have c3 := h.c3
  have c4 := h.c4
  have c6 := h.c6
  have c7 := h.c7
  have c8 := h.c8
  have HH := Lib.hid h
  have HM := Lib.hid hm
  have s1 := hm.small.getA o.base
  have hpl : -9223372036854775808 ≤ plc o.base o.cap o.b ∧ plc o.base o.cap o.b ≤ 9223372036854775807 := by
    have := hc.le
    unfold plc
    have : o.b % o.cap < o.cap := Nat.mod_lt _ (by omega)
    omega
  have wb : IntKind.i64.wrap o.base = o.base := by rw [IntKind.wrap_i64]; omega
  unfold clmD
  by_cases a1 : o.kind = 1
  · rw [a1] at c2
    by_cases a2 : o.done = true
    · rw [if_pos (.inr (.inl a2))]
      rw [a2] at c8
      clear h hm a1 a2
      go_enter Tryz.func64, Tryz.ntmps64
      go_wp2_with fail
      go_ret2
      exact ⟨rfl, Chg.refl _ _⟩
    · have a2' : o.done = false := by simpa using a2
      rw [a2'] at c8
      by_cases a3 : o.steps < 2
      · rw [if_pos (.inr (.inr a3))]
        have d3 : decide ((o.steps : Int) < 2) = true := decide_eq_true (by omega)
        clear h hm a1 a2 a2'
        go_enter Tryz.func64, Tryz.ntmps64
        go_wp2_with fail
        go_ret2
        exact ⟨rfl, Chg.refl _ _⟩
      · rw [if_neg (by rintro (x | x | x); exact x a1; exact a2 x; exact a3 x)]
        have d3 : decide ((o.steps : Int) < 2) = false := decide_eq_false (by omega)
        by_cases a4 : 5 ≤ o.steps
        · rw [if_pos a4]
          have d4 : decide ((5 : Int) ≤ (o.steps : Int)) = true := decide_eq_true (by omega)
          by_cases a5 : o.won = true
          · rw [if_pos a5]
            rw [a5] at c7
            clear h hm a1 a2 a2' a3 a4 a5
            go_enter Tryz.func64, Tryz.ntmps64
            go_wp2_with fail
            go_ret2
            exact ⟨rfl, Chg.refl _ _⟩
          · rw [if_neg a5]
            rw [show o.won = false by simpa using a5] at c7
            clear h hm a1 a2 a2' a3 a4 a5
            go_enter Tryz.func64, Tryz.ntmps64
            go_wp2_with fail
            go_ret2
            exact ⟨rfl, Chg.refl _ _⟩
        · rw [if_neg a4]
          have d4 : decide ((5 : Int) ≤ (o.steps : Int)) = false := decide_eq_false (by omega)
          have HE := Lib.hid (fun w' (C : Chg [] w w') => ends_any o.base h0 h1 o.cap bm bw W u w' (HM.out.keep C))
          have HA := Lib.hid (fun w => ahead_any (getA W o.base) o.b s1 hb w)
          have HP := Lib.hid (fun w => place_any o.base h0 h1 o.cap hc o.b hb w)
          obtain ⟨t, ht⟩ : ∃ t, t = getA W o.base := ⟨_, rfl⟩
          rw [← ht] at HA HE ⊢
          obtain ⟨b1, hb1⟩ : ∃ b1, b1 = getA W (o.base + 1) := ⟨_, rfl⟩
          rw [← hb1] at HE
          obtain ⟨v, hv⟩ : ∃ v, v = ahd t o.b := ⟨_, rfl⟩
          rw [← hv] at HA ⊢
          have lg := h.lt
          by_cases hf : 0 < v
          · rw [if_pos hf]
            clear h hm a1 a2 a2' a3 a4 hv ht hb1
            go_enter Tryz.func64, Tryz.ntmps64
            go_wp2_with (first
              | (go_at_call 77; refine (HE.out _ (Chg.refl _ _)).mono ?_; rintro e w2 ⟨rfl, C2⟩; have H2 := HH.out.chg C2 (by simp); have j4 : w2.cell? ⟨g, 4, none⟩ = some (.int .u64 (o.b : Nat)) := H2.c4)
              | (go_at_call 99; refine (HA.out _).mono ?_; rintro e w3 ⟨rfl, rfl⟩))
            go_ret2
            exact ⟨rfl, C2⟩
          · rw [if_neg hf]
            have hd : decide (0 < v) = false := by simpa using hf
            obtain ⟨q, hq⟩ : ∃ q, q = plc o.base o.cap o.b := ⟨_, rfl⟩
            rw [← hq] at HP hpl ⊢
            have HT := Lib.hid (fun w' (C : Chg [] w w') => part_any bm bw W u w' (HM.out.keep C) q 1 hpl.1 hpl.2 (by omega) (by omega))
            by_cases hh : hasA W q = true
            · rw [partN_one hh] at HT
              obtain ⟨x, hx⟩ : ∃ x, x = getA W q := ⟨_, rfl⟩
              rw [← hx] at HT ⊢
              clear h hm a1 a2 a2' a3 a4 hv ht hf hq hx hpl hc hb hb1 hh
              go_enter Tryz.func64, Tryz.ntmps64
              go_wp2_with (first
                | (go_at_call 77; refine (HE.out _ (Chg.refl _ _)).mono ?_; rintro e w2 ⟨rfl, C2⟩; have H2 := HH.out.chg C2 (by simp); have j0 : w2.cell? ⟨g, 0, none⟩ = some (.int .i64 o.base) := H2.c0; have j1 : w2.cell? ⟨g, 1, none⟩ = some (.int .i64 (o.cap : Nat)) := H2.c1; have j4 : w2.cell? ⟨g, 4, none⟩ = some (.int .u64 (o.b : Nat)) := H2.c4)
                | (go_at_call 99; refine (HA.out _).mono ?_; rintro e w3 ⟨rfl, rfl⟩))
              go_region_held3 (fun w' => w'.cell? ⟨g, 0, none⟩ = some (.int .i64 o.base) ∧ w'.cell? ⟨g, 1, none⟩ = some (.int .i64 (o.cap : Nat)) ∧ w'.cell? ⟨g, 4, none⟩ = some (.int .u64 (o.b : Nat))) (first | assumption | exact ⟨j0, j1, j4⟩)
                (first
                  | (go_at_call 79; refine (HP.out _).mono ?_; rintro e w4 ⟨rfl, C4⟩; have H4 := H2.chg C4.undrew (by simp); have k2 := And.intro H4.c0 (And.intro H4.c1 H4.c4))
                  | (go_at_call 19; refine (HT.out _ (C2.trans C4.undrew)).mono ?_; rintro e w5 ⟨v5, rfl, O5, C5⟩; obtain ⟨ao, cap, rfl, _, hc5⟩ := O5.reads; obtain ⟨g5, off, rfl, c50⟩ := hc5 0 _ rfl; rw [Nat.add_zero] at c50; simp only [words_len, List.length_cons, List.length_nil] at *; have H5 := H4.chg C5 (by simp); have k3 := And.intro H5.c0 (And.intro H5.c1 H5.c4)))
              clear hc5 O5
              go_wp2_with fail
              go_loopw [76] (fun x wr => x = .int .i64 0 ∧ w5 = wr) (fun _ _ => 0)
              case atStart => exact ⟨rfl, rfl⟩
              case round =>
                obtain ⟨rfl, rfl⟩ := hrel
                go_wp2_with fail
                go_ret2
                exact ⟨rfl, (C2.trans C4.undrew).trans C5⟩
            · have hno : hasA W q = false := by simpa using hh
              rw [partN_no hno] at HT
              rw [getA_no hno]
              clear h hm a1 a2 a2' a3 a4 hv ht hf hq hpl hc hb hb1 hh hno
              go_enter Tryz.func64, Tryz.ntmps64
              go_wp2_with (first
                | (go_at_call 77; refine (HE.out _ (Chg.refl _ _)).mono ?_; rintro e w2 ⟨rfl, C2⟩; have H2 := HH.out.chg C2 (by simp); have j0 : w2.cell? ⟨g, 0, none⟩ = some (.int .i64 o.base) := H2.c0; have j1 : w2.cell? ⟨g, 1, none⟩ = some (.int .i64 (o.cap : Nat)) := H2.c1; have j4 : w2.cell? ⟨g, 4, none⟩ = some (.int .u64 (o.b : Nat)) := H2.c4)
                | (go_at_call 99; refine (HA.out _).mono ?_; rintro e w3 ⟨rfl, rfl⟩))
              go_region_held3 (fun w' => w'.cell? ⟨g, 0, none⟩ = some (.int .i64 o.base) ∧ w'.cell? ⟨g, 1, none⟩ = some (.int .i64 (o.cap : Nat)) ∧ w'.cell? ⟨g, 4, none⟩ = some (.int .u64 (o.b : Nat))) (first | assumption | exact ⟨j0, j1, j4⟩)
                (first
                  | (go_at_call 79; refine (HP.out _).mono ?_; rintro e w4 ⟨rfl, C4⟩; have H4 := H2.chg C4.undrew (by simp); have k2 := And.intro H4.c0 (And.intro H4.c1 H4.c4))
                  | (go_at_call 19; refine (HT.out _ (C2.trans C4.undrew)).mono ?_; rintro e w5 ⟨v5, rfl, O5, C5⟩; obtain ⟨ao, cap, rfl, _, hc5⟩ := O5.reads; simp only [words_len, List.length_nil] at *; have H5 := H4.chg C5 (by simp); have k3 := And.intro H5.c0 (And.intro H5.c1 H5.c4)))
              clear hc5 O5
              go_wp2_with fail
              go_loopw [76] (fun x wr => x = .int .i64 0 ∧ w5 = wr) (fun _ _ => 0)
              case atStart => exact ⟨rfl, rfl⟩
              case round =>
                obtain ⟨rfl, rfl⟩ := hrel
                go_wp2_with fail
                go_ret2
                exact ⟨rfl, (C2.trans C4.undrew).trans C5⟩
  · rw [if_pos (.inl a1)]
    have d2 : ((o.kind : Int) == 1) = false := beq_eq_false_iff_ne.2 (by omega)
    have d2' : ((o.kind : Int) != 1) = true := by simp [bne, d2]
    clear h hm a1
    go_enter Tryz.func64, Tryz.ntmps64
    go_wp2_with fail
    go_ret2
    exact ⟨rfl, Chg.refl _ _⟩
end Go.Proofs.YtjdbgohfedjifaaGreatDoor
