/- deque: the reference's Hold, At, All; like. -/
import Derived.Test.YtcempigpphmchaaDqT
import Derived.Test.YtcempigpphmchaaDqL
import Derived.Deep.DeepCutAuto
namespace Go.Proofs.Ytcempigpphmchaa
open Go.RowKit Bosun
set_option maxRecDepth 100000 in
set_option maxHeartbeats 1000000 in
theorem rhold_any (c : Int) (_h0 : -9223372036854775808 ≤ c) (_h1 : c ≤ 9223372036854775807) (w : World) :
    Calls Try.prog 28 #[.int .i64 c] w fun e w' => e = .returned (.int .i64 (holdN c : Nat)) ∧ w = w' := by
  have hr := clampN_range c
  have HE := Lib.hid (fun j (hj : j < 9) h1 h2 => hold_end (clampN c) (by omega) j hj h1 h2)
  have HN := Lib.hid (show holdN c = 2 ^ Nat.log2 (clampN c) from rfl)
  obtain ⟨r, hre⟩ : ∃ r, r = holdN c := ⟨_, rfl⟩
  rw [← hre] at HN ⊢
  have HCL := Lib.hid (show (clampN c : Int) = min (max c 1) 256 by unfold clampN; omega)
  obtain ⟨n, hn⟩ : ∃ n, n = clampN c := ⟨_, rfl⟩
  rw [← hn] at HE HN HCL hr
  clear hre hn
  go_enter Try.func28, Try.ntmps28
  go_wp2_with fail
  go_loopw [3] (fun x wr => ∃ p : Nat, x = .int .i64 (p : Nat) ∧ 1 ≤ p ∧ p ≤ 256 ∧ Hid (∃ j, j < 9 ∧ p = 2 ^ j ∧ p ≤ n) ∧ w = wr)
    (fun x _ => 256 - (intOf x).toNat)
  case atStart => exact ⟨1, rfl, by omega, by omega, Lib.hid ⟨0, by omega, rfl, hr.1⟩, rfl⟩
  case round =>
    obtain ⟨p, rfl, hp1, hp2, HJ, rfl⟩ := hrel
    have wm : IntKind.i64.wrap ((p : Int) * 2) = (p : Int) * 2 := by rw [IntKind.wrap_i64]; omega
    by_cases h256 : p < 256
    · by_cases hle : (p : Int) * 2 ≤ c
      · go_wp2_with fail
        go_roundw
        case rel =>
          refine ⟨p * 2, by go_num, by omega, ?_, Lib.hid ?_, by trivial⟩
          · obtain ⟨j, hj, hpj, hpn⟩ := HJ.out
            have hj8 : j < 8 := by
              rcases Nat.lt_or_ge j 8 with h | h
              · exact h
              · obtain rfl : j = 8 := by omega
                rw [hpj] at h256; exact absurd h256 (by decide)
            have : 2 ^ (j + 1) ≤ 2 ^ 8 := Nat.pow_le_pow_right (by decide) (by omega)
            rw [Nat.pow_succ, ← hpj] at this
            omega
          · obtain ⟨j, hj, hpj, hpn⟩ := HJ.out
            have hj8 : j < 8 := by
              rcases Nat.lt_or_ge j 8 with h | h
              · exact h
              · obtain rfl : j = 8 := by omega
                rw [hpj] at h256; exact absurd h256 (by decide)
            have h8 : 2 ^ (j + 1) ≤ 2 ^ 8 := Nat.pow_le_pow_right (by decide) (by omega)
            rw [Nat.pow_succ, ← hpj] at h8
            have hcl := HCL.out
            exact ⟨j + 1, by omega, by rw [Nat.pow_succ, ← hpj], by omega⟩
        case measure => simp [intOf] <;> omega
      · have hR := Lib.hid (show r = p by
          obtain ⟨j, hj, hpj, hpn⟩ := HJ.out
          have hcl := HCL.out
          rw [HN.out, HE.out j hj (by omega) (by rw [Nat.pow_succ, ← hpj]; omega), hpj])
        have d1 : decide ((p : Int) * 2 ≤ c) = false := decide_eq_false hle
        go_wp2_with fail
        go_ret
        exact ⟨ret_int (by rw [hR.out]), rfl⟩
    · obtain rfl : p = 256 := by omega
      have hR := Lib.hid (show r = 256 by
        obtain ⟨j, hj, hpj, hpn⟩ := HJ.out
        rw [HN.out, HE.out j hj (by omega) (by rw [Nat.pow_succ, ← hpj]; omega), hpj])
      go_wp2_with fail
      go_ret
      exact ⟨ret_int (by rw [hR.out]), rfl⟩
theorem sizeRq : (Try.prog.info? 36).map (·.size) = some 2 := by kernel_rfl
theorem rat_any (base c : Int) (h0 : -9223372036854775808 ≤ c) (h1 : c ≤ 9223372036854775807) (w : World) :
    Calls Try.prog 9 #[.int .i64 base, .int .i64 c] w fun e w' => e = .returned (.agg #[.int .i64 base, .int .i64 (holdN c : Nat)]) ∧ Chg [] w w' := by
  have HL := Lib.hid (fun w => rhold_any c h0 h1 w)
  clear h0 h1
  go_enter Try.func9, Try.ntmps9
  go_wp2_with fail
  refine (HL.out _).mono ?_
  rintro e w1 hh
  obtain ⟨rfl, hw⟩ := hh
  subst hw
  go_wp2_with fail
  refine bodyPost_ret (results_row rfl _ _ w.heap.size 36 #[.int .i64 base, .int .i64 (holdN c : Nat)] _ rfl ?_ Try.underlying36 rfl sizeRq) rfl ⟨rfl, ?_⟩
  · exact Blk.new _ _ _
  · exact (Chg.refl _ _).alloc _
theorem numD_end {b n : Nat} (hn : n ≤ 256) (hb : b < 18446744073709551616) : numD b n n = b := by unfold numD; omega
theorem numD_ne {b n i : Nat} (hi : i < n) (hn : n ≤ 256) (_hb : b < 18446744073709551616) : numD b n i ≠ b := by unfold numD; omega
theorem numD_lt (b n i : Nat) : numD b n i < 18446744073709551616 := Nat.mod_lt _ (by omega)
theorem numD_succ {b n i : Nat} (_hi : i < n) (_hn : n ≤ 256) (_hb : b < 18446744073709551616) : IntKind.u64.wrap (((numD b n i : Nat) : Int) + 1) = ((numD b n (i + 1) : Nat) : Int) := by rw [IntKind.wrap_u64]; unfold numD; omega
theorem numD_top {b t n : Nat} (_hb : b < 18446744073709551616) (ht : t < 18446744073709551616) (hn : ahd b t = (n : Nat)) (h : n ≤ 256) : t = numD b n 0 := by
  unfold ahd at hn
  rw [IntKind.wrap_i64] at hn
  unfold numD
  omega
set_option maxHeartbeats 4000000 in
theorem rall_any (base : Int) (h0 : -100 ≤ base) (h1 : base ≤ 1000000) (cap : Nat) (hcap : Pow2 cap) (rm rw : Nat) (W : List Nat) (u : Nat) (w : World) (h : IsRef w rm rw W u) :
    Calls Try.prog 20 #[.agg #[.int .i64 base, .int .i64 (cap : Nat)], .pointer (some ⟨rm, 0, none⟩)] w fun e w' => ∃ v, e = .returned v ∧ Own w' w.heap.size 30 v (words (allD base cap W)) ∧ Chg [] w w' := by
  have hle := hcap.le
  have s1 : getA W base < 18446744073709551616 := h.small.getA _
  have s2 : getA W (base + 1) < 18446744073709551616 := h.small.getA _
  have hnl := lenD_le base cap W
  have HW := Lib.hid (fun w' (C : Chg [] w w') a => rword_any rm rw W u w' (h.keep C) a)
  have HP := Lib.hid (fun k hk w => rplace_any base h0 h1 cap hcap k hk w)
  have AT := Lib.hid (allTo_succ base cap W)
  have AA := Lib.hid (allTo_all base cap W)
  have AL := Lib.hid (allTo_len base cap W)
  have w1b : IntKind.i64.wrap (base + 1) = base + 1 := by rw [IntKind.wrap_i64]; omega
  obtain ⟨t, ht⟩ : ∃ t, t = getA W base := ⟨_, rfl⟩
  obtain ⟨b, hb⟩ : ∃ b, b = getA W (base + 1) := ⟨_, rfl⟩
  have HW0 := Lib.hid (fun w' C => HW.out w' C base)
  have HW1 := Lib.hid (fun w' C => HW.out w' C (base + 1))
  have hl : ((lenD base cap W : Nat) : Int) = min (max (ahd b t) 0) (cap : Int) := by unfold lenD; rw [← ht, ← hb]; omega
  rw [← ht] at HW0 s1
  rw [← hb] at HW1 s2 AT
  have HA := Lib.hid (fun w => rahead_any b t s2 s1 w)
  have hnt := fun n => @numD_top b t n s2 s1
  obtain ⟨a, ha⟩ : ∃ a, a = ahd b t := ⟨_, rfl⟩
  rw [← ha] at HA hl hnt
  obtain ⟨n, hn⟩ : ∃ n, n = lenD base cap W := ⟨_, rfl⟩
  rw [← hn] at hl hnl AT AA
  obtain ⟨A0, hA0⟩ : ∃ A0, A0 = allD base cap W := ⟨_, rfl⟩
  rw [← hA0] at AA ⊢
  have hn256 : n ≤ 256 := by omega
  have NE := Lib.hid (fun i (hi : i < n) => numD_ne hi hn256 s2)
  have ND := Lib.hid (numD_end hn256 s2)
  have NS := Lib.hid (fun i (hi : i < n) => numD_succ hi hn256 s2)
  clear h ht hb ha hn hA0 hcap
  by_cases ha0 : a ≤ 0
  · obtain rfl : n = 0 := by omega
    have hA : A0 = [] := AA.out.symm
    subst hA
    clear hnt hl
    go_enter Try.func20, Try.ntmps20
    go_wp2_with (first
      | (go_at_call 53; refine (HW0.out _ ((Chg.refl _ _).alloc _)).mono ?_; clear HW0; rintro e w2 ⟨rfl, rfl⟩)
      | (go_at_call 53; refine (HW1.out _ ((Chg.refl _ _).alloc _)).mono ?_; rintro e w3 ⟨rfl, rfl⟩)
      | (go_at_call 54; refine (HA.out _).mono ?_; rintro e w4 ⟨rfl, rfl⟩))
    go_ret
    exact ⟨_, rfl, Own.nil _ _ _, (Chg.refl _ _).alloc _⟩
  · have da : decide (a ≤ 0) = false := decide_eq_false ha0
    -- the first number
    have hc1 : (a ≤ (cap : Int) ∧ (n : Int) = a) ∨ ((cap : Int) < a ∧ n = cap) := by omega
    have HT : Hid ((a ≤ (cap : Int) ∧ t = numD b n 0) ∨ ((cap : Int) < a ∧ IntKind.u64.wrap ((b : Int) - (cap : Int)) = ((numD b n 0 : Nat) : Int))) := Lib.hid (by
      rcases hc1 with ⟨p1, p2⟩ | ⟨p1, p2⟩
      · exact .inl ⟨p1, hnt n p2.symm hn256⟩
      · refine .inr ⟨p1, ?_⟩
        rw [IntKind.wrap_u64, p2]; unfold numD; omega)
    have wc : IntKind.u64.wrap (cap : Int) = (cap : Int) := by rw [IntKind.wrap_u64]; omega
    have lb := numD_lt b n 0
    clear hnt hl hc1
    go_enter Try.func20, Try.ntmps20
    go_upto_region 6 with (first
      | (go_at_call 53; refine (HW0.out _ ((Chg.refl _ _).alloc _)).mono ?_; clear HW0; rintro e w2 ⟨rfl, rfl⟩)
      | (go_at_call 53; refine (HW1.out _ ((Chg.refl _ _).alloc _)).mono ?_; rintro e w3 ⟨rfl, rfl⟩)
      | (go_at_call 54; refine (HA.out _).mono ?_; rintro e w4 ⟨rfl, rfl⟩))
    have q0 : Chg [] w (w.alloc (.cells #[.int .i64 base, .int .i64 (cap : Nat)] 36)) := (Chg.refl _ _).alloc _
    have B0 : Blk (w.alloc (.cells #[.int .i64 base, .int .i64 (cap : Nat)] 36)) w.heap.size #[.int .i64 base, .int .i64 (cap : Nat)] 36 := Blk.new _ _ _
    generalize (w.alloc (.cells #[.int .i64 base, .int .i64 (cap : Nat)] 36)) = w1 at q0 B0 ⊢
    have k1 : w1.cell? ⟨w.heap.size, 1, none⟩ = some (.int .i64 (cap : Nat)) := B0.cell 1
    obtain ⟨q, hq⟩ : ∃ q, q = decide ((cap : Int) < a) := ⟨_, rfl⟩
    go_cut [28] (fun x wx => x = .bool q ∧ wx = w1.drew)
    case first =>
      have hq' := hq.symm
      clear HT hq
      go_region_held3 (fun w' => w'.cell? ⟨w.heap.size, 1, none⟩ = some (.int .i64 (cap : Nat))) (first | assumption | exact k1)
        ((go_at_call 54; refine (HA.out _).mono ?_; rintro e w4 ⟨rfl, rfl⟩))
      go_wp2_with fail
      go_meet
      exact ⟨by first | rfl | (rw [hq']), rfl⟩
    case rest =>
    obtain ⟨rfl, rfl⟩ := hcut
    go_upto_if 28 with (fail)
    go_cut [5] (fun x wx => x = .int .u64 ((numD b n 0 : Nat) : Int) ∧ Chg [] w1 wx)
    case first =>
      rcases HT.out with ⟨p1, p2⟩ | ⟨p1, p2⟩
      · obtain rfl : q = false := by rw [hq]; exact decide_eq_false (by omega)
        have HP2 := Lib.hid p2
        clear p2 HT hq
        go_wp2_with fail
        go_meet
        exact ⟨by rw [← HP2.out], (Chg.refl _ _).drew⟩
      · obtain rfl : q = true := by rw [hq]; exact decide_eq_true p1
        clear HT hq
        go_wp2_with fail
        go_meet
        exact ⟨by first | rfl | rw [p2], (Chg.refl _ _).drew⟩
    case rest =>
      obtain ⟨rfl, C2⟩ := hcut
      clear HT HA HW1 k1 hq
      have B2 := B0.chg C2 (by simp)
      have C02 := q0.trans C2
      have hsz : w.heap.size ≤ wc.heap.size := C02.size
      go_wp2_with fail
      go_loopw [7, 8] (fun v k wr => ∃ i : Nat, i ≤ n ∧ k = .int .u64 ((numD b n i : Nat) : Int) ∧ Own wr (w.heap.size + 1) 30 v (words (allTo base cap W i)) ∧ Blk wr w.heap.size #[.int .i64 base, .int .i64 (cap : Nat)] 36 ∧ Chg [] w wr)
        (fun _ x _ => (((b : Int) - intOf x) % 18446744073709551616).toNat)
      case atStart => exact ⟨0, by omega, rfl, Own.nil _ _ _, B2, C02⟩
      case round =>
        obtain ⟨i, hi, rfl, hown, B, C⟩ := hrel
        by_cases hin : i < n
        · have nb : ((numD b n i : Nat) : Int) ≠ (b : Int) := by have := NE.out i hin; omega
          have nb' : (((numD b n i : Nat) : Int) != (b : Int)) = true := by simpa using nb
          have ek := NS.out i hin
          have em : (((b : Int) - (numD b n (i + 1) : Nat)) % 18446744073709551616).toNat < (((b : Int) - (numD b n i : Nat)) % 18446744073709551616).toNat := by unfold numD; omega
          have hk := numD_lt b n i
          have AS := Lib.hid (AT.out i)
          have HPL := Lib.hid (fun w => HP.out (numD b n i) hk w)
          obtain ⟨k, hke⟩ : ∃ k, k = numD b n i := ⟨_, rfl⟩
          obtain ⟨k', hke'⟩ : ∃ k', k' = numD b n (i + 1) := ⟨_, rfl⟩
          rw [← hke] at nb' ek AS HPL em ⊢
          rw [← hke'] at ek em
          obtain ⟨a, hae⟩ : ∃ a, a = plc base cap k := ⟨_, rfl⟩
          rw [← hae] at AS HPL
          have HWA := Lib.hid (fun w' C => HW.out w' C a)
          obtain ⟨y, hy⟩ : ∃ y, y = getA W a := ⟨_, rfl⟩
          rw [← hy] at AS HWA
          have HK' := Lib.hid hke'
          have EM := Lib.hid em
          have c0 : wr.cell? ⟨w.heap.size, 0, none⟩ = some (.int .i64 base) := B.cell 0
          have c1 : wr.cell? ⟨w.heap.size, 1, none⟩ = some (.int .i64 (cap : Nat)) := B.cell 1
          clear hke hke' hae hy nb hk em
          go_wp2_with (first
            | (go_at_call 55; refine (HPL.out _).mono ?_; rintro e w4 ⟨rfl, C4⟩; have C04 := C.trans C4)
            | (go_at_call 53; refine (HWA.out _ C04).mono ?_; rintro e w5 ⟨rfl, rfl⟩; have hown5 := hown.keep C4; have z5 : w.heap.size < w4.heap.size := (B.chg C4 (by simp)).lt)
            | (refine wpList_app1 rfl (.tmp 40) (.tmp 46) 22 rfl (w.heap.size + 1) 30 (.int .u64 0) 8 Try.underlying22 infoU64' rfl _ _ rfl (hown5.alloc _) w4.heap.size 1 (.int .u64 (y : Nat)) rfl ((Blk.new w4 #[.int .u64 (y : Nat)] 30).cell 0) rfl (by rw [words_len, AL.out]; unfold maxLen; omega) (by rw [words_len, AL.out]; omega) (by simp; omega) ?_; intro v6 w6 O6 C6))
          have hb5 := hown5.block
          go_roundw
          case rel =>
            have hB4 := (B.chg C4 (by simp)).alloc (.cells #[.int .u64 (y : Nat)] 30)
            exact ⟨i + 1, by omega, by rw [HK'.out], by rw [AS.out, words_snoc]; exact O6, hB4.chg C6 (fun hm => by have := hb5 _ hm; omega), (C04.alloc _).then C6 (fun g hg => .inr (by have := hb5 _ hg; omega))⟩
          case measure =>
            have em := EM.out
            simp [intOf]
            omega
        · obtain rfl : i = n := by omega
          have nb' : (((numD b i i : Nat) : Int) != (b : Int)) = false := by rw [ND.out]; simp
          go_wp2_with fail
          go_ret
          exact ⟨_, rfl, by rw [← AA.out]; exact hown.mono (by omega), C⟩
end Go.Proofs.Ytcempigpphmchaa
