/- deque: all its words. -/
import Derived.Test.YtjdbgohfedjifaaDoorDq9
namespace Bosun
open Go
/-- The number of the i-th word. -/
def numD (b n i : Nat) : Nat := (b + (18446744073709551616 - n) + i) % 18446744073709551616
def allTo (base : Int) (cap : Nat) (W : List Nat) (i : Nat) : List Nat := (List.range i).map fun i => getA W (plc base cap (numD (getA W (base + 1)) (lenD base cap W) i))
theorem allTo_all (base : Int) (cap : Nat) (W : List Nat) : allTo base cap W (lenD base cap W) = allD base cap W := rfl
theorem allTo_succ (base : Int) (cap : Nat) (W : List Nat) (i : Nat) : allTo base cap W (i + 1) = allTo base cap W i ++ [getA W (plc base cap (numD (getA W (base + 1)) (lenD base cap W) i))] := by
  unfold allTo; rw [List.range_succ, List.map_append]; rfl
theorem allTo_len (base : Int) (cap : Nat) (W : List Nat) (i : Nat) : (allTo base cap W i).length = i := by simp [allTo]
theorem last_snoc (l : List Nat) {j : Nat} (h : j < l.length) : (l.take (j + 1)).getLastD 0 = l[j] := by
  rw [List.take_succ_eq_append_getElem h, List.getLastD_concat]
end Bosun
namespace Go.Proofs.YtjdbgohfedjifaaDoor
open Go.RowKit Bosun
theorem part_last (W : List Nat) (a : Int) : (partN W a 1).getLastD 0 = getA W a ∧ (partN W a 1).length ≤ 1 := by
  by_cases h : hasA W a = true
  · rw [partN_one h]; exact ⟨rfl, Nat.le_refl _⟩
  · have hf : hasA W a = false := by cases hq : hasA W a; rfl; exact absurd hq h
    rw [partN_no hf, getA_no hf]; exact ⟨rfl, Nat.zero_le _⟩
theorem infoU64' : (Tryd.prog.info? 30).map (fun i => (i.zero, i.size, i.bytes)) = some (some (.int .u64 0), 1, 8) := by kernel_rfl
set_option maxHeartbeats 4000000 in
theorem dall_any (base : Int) (h0 : -100 ≤ base) (h1 : base ≤ 1000000) (cap : Nat) (hcap : Pow2 cap) (bm bw : Nat) (W : List Nat) (u : Nat) (w : World) (h : IsMem w bm bw W u) :
    Calls Tryd.prog 44 #[.agg #[.int .i64 base, .int .i64 (cap : Nat)], .pointer (some ⟨bm, 0, none⟩)] w fun e w' => ∃ v, e = .returned v ∧ Own w' w.heap.size 30 v (words (allD base cap W)) ∧ Chg [] w w' := by
  have hle := hcap.le
  have s2 : getA W (base + 1) < 18446744073709551616 := h.small.getA _
  have hn := lenD_le base cap W
  have HE := Lib.hid (fun w' (C : Chg [] w w') => ends_any base h0 h1 cap bm bw W u w' (h.keep C))
  have HL := Lib.hid (fun w' (C : Chg [] w w') => dlen_any base h0 h1 cap hcap bm bw W u w' (h.keep C))
  have HP := Lib.hid (fun k hk w => place_any base h0 h1 cap hcap k hk w)
  have HT := Lib.hid (fun w' (C : Chg [] w w') a h0 h1 => part_any bm bw W u w' (h.keep C) a 1 h0 h1 (by omega) (by omega))
  have SM := Lib.hid h.small
  have AT := Lib.hid (allTo_succ base cap W)
  have AA := Lib.hid (allTo_all base cap W)
  have pb : ∀ k, -9223372036854775808 ≤ plc base cap k ∧ plc base cap k ≤ 9223372036854775807 := fun k => by
    unfold plc
    have : k % cap < cap := Nat.mod_lt _ (by omega)
    omega
  have PB := Lib.hid pb
  obtain ⟨b, hb⟩ : ∃ b, b = getA W (base + 1) := ⟨_, rfl⟩
  obtain ⟨n, hne⟩ : ∃ n, n = lenD base cap W := ⟨_, rfl⟩
  rw [← hb] at HE s2 AT
  rw [← hne] at HL hn AT AA
  have e1 : IntKind.u64.wrap ((b : Int) - (n : Int)) = (numD b n 0 : Nat) := by rw [IntKind.wrap_u64]; unfold numD; omega
  clear h hb hne hcap pb
  go_enter Tryd.func44, Tryd.ntmps44
  go_wp2_with fail
  refine (HE.out _ ((Chg.refl _ _).alloc _)).mono ?_
  rintro e w2 ⟨rfl, C2⟩
  have B2 : Blk w2 w.heap.size #[.int .i64 base, .int .i64 (cap : Nat)] 70 := (Blk.new w _ _).chg C2 (by simp)
  have C02 : Chg [] w w2 := ((Chg.refl _ _).alloc _).then C2 (by simp)
  have c0 : w2.cell? ⟨w.heap.size, 0, none⟩ = some (.int .i64 base) := B2.cell 0
  have c1 : w2.cell? ⟨w.heap.size, 1, none⟩ = some (.int .i64 (cap : Nat)) := B2.cell 1
  clear C2
  go_wp2_with fail
  refine (HL.out _ C02).mono ?_
  rintro e w3 ⟨rfl, C3⟩
  have B3 := B2.chg C3 (by simp)
  have C03 := C02.then C3 (by simp)
  clear C3 C02 B2 c0 c1
  have z3 := B3.lt
  go_wp2_with fail
  go_loopw [7, 8] (fun x7 x8 wr => ∃ i : Nat, i ≤ n ∧ x8 = .int .u64 (numD b n i : Nat) ∧ Own wr w3.heap.size 30 x7 (words (allTo base cap W i)) ∧ Chg [] w3 wr)
    (fun _ x8 _ => (((b : Int) - intOf x8) % 18446744073709551616).toNat)
  case atStart => exact ⟨0, by omega, rfl, Own.nil _ _ _, Chg.refl _ _⟩
  case round =>
    obtain ⟨i, hi, rfl, hown, C⟩ := hrel
    by_cases hin : i < n
    · have nb : ((numD b n i : Nat) : Int) ≠ (b : Int) := by unfold numD; omega
      have nb' : (((numD b n i : Nat) : Int) != (b : Int)) = true := by simpa using nb
      have ek : IntKind.u64.wrap (((numD b n i : Nat) : Int) + 1) = (numD b n (i + 1) : Nat) := by rw [IntKind.wrap_u64]; unfold numD; omega
      have hk : numD b n i < 18446744073709551616 := Nat.mod_lt _ (by omega)
      have em : (((b : Int) - (numD b n (i + 1) : Nat)) % 18446744073709551616).toNat < (((b : Int) - (numD b n i : Nat)) % 18446744073709551616).toNat := by unfold numD; omega
      obtain ⟨pl1, pl2⟩ := part_last W (plc base cap (numD b n i))
      have AS := Lib.hid (AT.out i)
      have HPL := Lib.hid (fun w => HP.out (numD b n i) hk w)
      have HPT := Lib.hid (fun w' C => HT.out w' C (plc base cap (numD b n i)) (PB.out _).1 (PB.out _).2)
      obtain ⟨k, hke⟩ : ∃ k, k = numD b n i := ⟨_, rfl⟩
      obtain ⟨k', hke'⟩ : ∃ k', k' = numD b n (i + 1) := ⟨_, rfl⟩
      rw [← hke] at nb' ek pl1 pl2 AS HPL HPT em
      rw [← hke'] at ek em
      obtain ⟨a, hae⟩ : ∃ a, a = plc base cap k := ⟨_, rfl⟩
      rw [← hae] at pl1 pl2 AS HPL HPT
      obtain ⟨ms, hms⟩ : ∃ ms, ms = partN W a 1 := ⟨_, rfl⟩
      rw [← hms] at pl1 pl2 HPT
      have HK := Lib.hid hke
      have HK' := Lib.hid hke'
      have EM := Lib.hid em
      have BR := B3.chg C (by simp)
      have c0 : wr.cell? ⟨w.heap.size, 0, none⟩ = some (.int .i64 base) := BR.cell 0
      have c1 : wr.cell? ⟨w.heap.size, 1, none⟩ = some (.int .i64 (cap : Nat)) := BR.cell 1
      rw [← hke]
      clear hke hke' hae hms nb hk em BR
      go_wp2_with fail
      refine (HPL.out wr).mono ?_
      rintro e w4 ⟨rfl, C4⟩
      have C34 := C.then C4 (by simp)
      have C04 : Chg [] w w4 := C03.then C34 (by simp)
      go_wp2_with fail
      refine (HPT.out _ C04).mono ?_
      rintro e w5 ⟨v, rfl, O5, C5⟩
      have C35 := C34.then C5 (by simp)
      obtain ⟨ao, cp, rfl, hm, hc⟩ := O5.reads
      rw [words_len] at hm
      rw [words_len]
      have hc := Lib.hid hc
      have hown5 := (hown.keep C4).keep C5
      clear c0 c1 C4 C5 O5 C34 hown
      go_wp2_with fail
      go_loopw [9, 35] (fun x9 x35 wq => ∃ j : Nat, j ≤ ms.length ∧ x35 = .int .i64 j ∧ x9 = .int .u64 ((ms.take j).getLastD 0 : Nat) ∧ w5 = wq) (fun _ x35 _ => ms.length - (intOf x35).toNat)
      case atStart => exact ⟨0, by omega, rfl, rfl, rfl⟩
      case round =>
        obtain ⟨j, hj, rfl, rfl, rfl⟩ := hrel
        by_cases hjl : j < ms.length
        · obtain ⟨g, off, rfl, cj⟩ := hc.out j _ (words_get ms hjl)
          have HLS := Lib.hid (last_snoc ms hjl)
          obtain ⟨y, hy⟩ : ∃ y, y = ms[j] := ⟨_, rfl⟩
          rw [← hy] at cj HLS
          clear hy
          go_wp2_with fail
          go_roundw
          case rel => exact ⟨j + 1, by omega, by go_num, by rw [HLS.out], by trivial⟩
          case measure => simp [intOf] <;> omega
        · obtain rfl : j = ms.length := by omega
          rw [List.take_length, pl1]
          obtain ⟨y, hy⟩ : ∃ y, y = getA W a := ⟨_, rfl⟩
          rw [← hy] at AS
          rw [← hy]
          clear hy
          have hb5 := hown5.block
          have z5 : w3.heap.size ≤ w5.heap.size := C35.size
          go_wp2_with (refine wpList_app1 rfl (.tmp 41) (.tmp 43) 42 rfl w3.heap.size 30 (.int .u64 0) 8 Tryd.underlying42 infoU64' rfl _ _ rfl (hown5.alloc _) w5.heap.size 1 (.int .u64 (y : Nat)) rfl ((Blk.new w5 #[.int .u64 (y : Nat)] 30).cell 0) rfl (by rw [words_len, allTo_len]; unfold maxLen; omega) (by rw [words_len, allTo_len]; omega) (by simp; omega) ?_; intro v' w6 O6 C6; have C36 : Chg [] w3 w6 := (C35.alloc _).then C6 (fun g hg => .inr ((hb5 g hg).1)))
          go_roundw
          case rel => exact ⟨i + 1, by omega, by rw [HK'.out], by rw [AS.out, words_snoc]; exact O6, C36⟩
          case measure =>
            have em := EM.out
            simp [intOf]
            omega
    · obtain rfl : i = n := by omega
      have nb' : (((numD b i i : Nat) : Int) != (b : Int)) = false := by
        have : ((numD b i i : Nat) : Int) = (b : Int) := by unfold numD; omega
        simp [this]
      go_wp2_with fail
      go_ret
      exact ⟨_, rfl, by rw [← AA.out]; exact hown.mono (by omega), C03.then C (by simp)⟩
end Go.Proofs.YtjdbgohfedjifaaDoor
