/- gauge: the averages, the program's and the document's; two numbers that are the same. -/
import Derived.Test.YtknfpnifhpbojaaGau1
namespace Go.Proofs.Ytknfpnifhpbojaa
open Go.RowKit Bosun
theorem plain_any (x : Nat) (hn : nnB x = true) (w : World) : Calls Try.prog 30 #[fl x] w fun e w' => e = .returned (fl (tellW x)) ∧ w = w' := by
  have g : (FloatKind.f64.format.order x 9218868437227405311 == some .gt) = !loadB x := gtmax hn
  have l : (FloatKind.f64.format.order x 0 == some .eq) = decide (x = 0 ∨ x = 9223372036854775808) := eq0 hn
  cases hl : loadB x with
  | false =>
    have e : tellW x = 9218868437227405311 := by
      have h2 : ¬ (x < 9218868437227405312 ∨ x = 9223372036854775808) := of_decide_eq_false hl
      unfold tellW; rw [if_neg (by omega)]; omega
    rw [hl] at g
    rw [e]
    clear l hl e hn
    go_enter Try.func30, Try.ntmps30
    go_wp2_with fail
    go_ret
    exact ⟨rfl, rfl⟩
  | true =>
    rw [hl] at g
    by_cases h0 : x = 0 ∨ x = 9223372036854775808
    · rw [decide_eq_true h0] at l
      have e : tellW x = 0 := by rcases h0 with rfl | rfl <;> rfl
      rw [e]
      clear hl e hn h0
      go_enter Try.func30, Try.ntmps30
      go_wp2_with fail
      go_ret
      exact ⟨rfl, rfl⟩
    · rw [decide_eq_false h0] at l
      have e : tellW x = x := by
        rcases load_cases hl with h | h
        · exact tellW_lo h
        · exact absurd (.inr h) h0
      rw [e]
      clear hl e hn h0
      go_enter Try.func30, Try.ntmps30
      go_wp2_with fail
      go_ret
      exact ⟨rfl, rfl⟩
theorem mixW_no {old now keep : Nat} (h : loadB now = false) : mixW old now keep = 0 := by unfold mixW; rw [h]; rfl
theorem mixW_tell {old now keep : Nat} (h : loadB now = true) (h2 : (shareB keep && loadB old) = false) : mixW old now keep = tellW now := by unfold mixW; rw [h, h2]; rfl
set_option maxHeartbeats 1000000 in
theorem mix_any (old now keep : Nat) (ho : old < 18446744073709551616) (hn : now < 18446744073709551616) (hk : keep < 18446744073709551616) (w : World) :
    Calls Try.prog 8 #[fl old, fl now, fl keep] w fun e w' => e = .returned (fl (mixW old now keep)) ∧ w = w' := by
  have L1 := Lib.hid (fun w => load_any now hn w)
  have L2 := Lib.hid (fun w => load_any old ho w)
  have S1 := Lib.hid (fun w => share_any keep hk w)
  cases h1 : loadB now with
  | false =>
    rw [mixW_no h1]
    rw [h1] at L1
    clear h1 ho hn hk
    go_enter Try.func8, Try.ntmps8
    go_wp2_with (go_at_call 11; refine (L1.out _).mono ?_; rintro e w2 ⟨rfl, rfl⟩)
    go_ret
    exact ⟨rfl, rfl⟩
  | true =>
    have HT := Lib.hid (fun w => tell_any now (load_nn h1) w)
    cases h2 : shareB keep with
    | false =>
      rw [mixW_tell h1 (by rw [h2]; rfl)]
      rw [h1] at L1
      rw [h2] at S1
      clear h1 h2 ho hn hk
      go_enter Try.func8, Try.ntmps8
      go_wp2_with (first
        | (go_at_call 11; refine (L1.out _).mono ?_; rintro e w2 ⟨rfl, rfl⟩)
        | (go_at_call 9; refine (S1.out _).mono ?_; rintro e w2 ⟨rfl, rfl⟩)
        | (go_at_call 27; refine (HT.out _).mono ?_; rintro e w2 ⟨rfl, rfl⟩))
      go_ret
      exact ⟨rfl, rfl⟩
    | true =>
      cases h3 : loadB old with
      | false =>
        rw [mixW_tell h1 (by rw [h2, h3]; rfl)]
        rw [h2] at S1
        clear h2 hk
        go_enter Try.func8, Try.ntmps8
        go_wp2_with (first
          | (go_at_call 11; refine (load_any _ (by assumption) _).mono ?_; rintro e w2 ⟨rfl, rfl⟩)
          | (go_at_call 9; refine (S1.out _).mono ?_; rintro e w2 ⟨rfl, rfl⟩)
          | (go_at_call 27; refine (HT.out _).mono ?_; rintro e w2 ⟨rfl, rfl⟩))
        go_ret
        exact ⟨rfl, rfl⟩
      | true =>
        obtain ⟨a, b, c, s, q1, q2, q3, q4, q5, q6⟩ := mix_parts h1 h2 h3
        have HU := Lib.hid (fun w => tell_any s q5 w)
        rw [← q6] at HU
        obtain ⟨r, hr⟩ : ∃ r, r = mixW old now keep := ⟨_, rfl⟩
        rw [← hr] at HU ⊢
        have o1 : ∀ t w, (binOp .mul t (.float .f64 old) (.float .f64 keep)).run Try.prog w = .ok (.float .f64 a) w := fun t w => run_float_arith w .mul t .f64 old keep a q1
        have o2 : ∀ t w, (binOp .sub t (.float .f64 4607182418800017408) (.float .f64 keep)).run Try.prog w = .ok (.float .f64 b) w := fun t w => run_float_arith w .sub t .f64 _ keep b q2
        have o3 : ∀ t w, (binOp .mul t (.float .f64 now) (.float .f64 b)).run Try.prog w = .ok (.float .f64 c) w := fun t w => run_float_arith w .mul t .f64 now b c q3
        have o4 : ∀ t w, (binOp .add t (.float .f64 a) (.float .f64 c)).run Try.prog w = .ok (.float .f64 s) w := fun t w => run_float_arith w .add t .f64 a c s q4
        rw [h2] at S1
        clear h2 hk q1 q2 q3 q4 q5 q6 hr HT
        go_enter Try.func8, Try.ntmps8
        go_wp2_with (first
          | (go_at_call 11; refine (load_any _ (by assumption) _).mono ?_; rintro e w2 ⟨rfl, rfl⟩)
          | (go_at_call 9; refine (S1.out _).mono ?_; rintro e w2 ⟨rfl, rfl⟩)
          | (go_at_call 27; refine (HU.out _).mono ?_; rintro e w2 ⟨rfl, rfl⟩)
          | simp only [o1, o2, o3, o4])
        go_ret
        exact ⟨rfl, rfl⟩
set_option maxHeartbeats 1000000 in
theorem rmix_any (old now keep : Nat) (ho : old < 18446744073709551616) (hn : now < 18446744073709551616) (hk : keep < 18446744073709551616) (w : World) :
    Calls Try.prog 14 #[fl old, fl now, fl keep] w fun e w' => e = .returned (fl (mixW old now keep)) ∧ w = w' := by
  have L1 := Lib.hid (fun w => rload_any now hn w)
  have L2 := Lib.hid (fun w => rload_any old ho w)
  have S1 := Lib.hid (fun w => rshare_any keep hk w)
  cases h1 : loadB now with
  | false =>
    rw [mixW_no h1]
    rw [h1] at L1
    clear h1 ho hn hk
    go_enter Try.func14, Try.ntmps14
    go_wp2_with (go_at_call 12; refine (L1.out _).mono ?_; rintro e w2 ⟨rfl, rfl⟩)
    go_ret
    exact ⟨rfl, rfl⟩
  | true =>
    have HT := Lib.hid (fun w => plain_any now (load_nn h1) w)
    cases h2 : shareB keep with
    | false =>
      rw [mixW_tell h1 (by rw [h2]; rfl)]
      rw [h1] at L1
      rw [h2] at S1
      clear h1 h2 ho hn hk
      go_enter Try.func14, Try.ntmps14
      go_wp2_with (first
        | (go_at_call 12; refine (L1.out _).mono ?_; rintro e w2 ⟨rfl, rfl⟩)
        | (go_at_call 10; refine (S1.out _).mono ?_; rintro e w2 ⟨rfl, rfl⟩)
        | (go_at_call 30; refine (HT.out _).mono ?_; rintro e w2 ⟨rfl, rfl⟩))
      go_ret
      exact ⟨rfl, rfl⟩
    | true =>
      cases h3 : loadB old with
      | false =>
        rw [mixW_tell h1 (by rw [h2, h3]; rfl)]
        rw [h2] at S1
        clear h2 hk
        go_enter Try.func14, Try.ntmps14
        go_wp2_with (first
          | (go_at_call 12; refine (rload_any _ (by assumption) _).mono ?_; rintro e w2 ⟨rfl, rfl⟩)
          | (go_at_call 10; refine (S1.out _).mono ?_; rintro e w2 ⟨rfl, rfl⟩)
          | (go_at_call 30; refine (HT.out _).mono ?_; rintro e w2 ⟨rfl, rfl⟩))
        go_ret
        exact ⟨rfl, rfl⟩
      | true =>
        obtain ⟨a, b, c, s, q1, q2, q3, q4, q5, q6⟩ := mix_parts h1 h2 h3
        have HU := Lib.hid (fun w => plain_any s q5 w)
        rw [← q6] at HU
        obtain ⟨r, hr⟩ : ∃ r, r = mixW old now keep := ⟨_, rfl⟩
        rw [← hr] at HU ⊢
        have o1 : ∀ t w, (binOp .mul t (.float .f64 old) (.float .f64 keep)).run Try.prog w = .ok (.float .f64 a) w := fun t w => run_float_arith w .mul t .f64 old keep a q1
        have o2 : ∀ t w, (binOp .sub t (.float .f64 4607182418800017408) (.float .f64 keep)).run Try.prog w = .ok (.float .f64 b) w := fun t w => run_float_arith w .sub t .f64 _ keep b q2
        have o3 : ∀ t w, (binOp .mul t (.float .f64 now) (.float .f64 b)).run Try.prog w = .ok (.float .f64 c) w := fun t w => run_float_arith w .mul t .f64 now b c q3
        have o4 : ∀ t w, (binOp .add t (.float .f64 a) (.float .f64 c)).run Try.prog w = .ok (.float .f64 s) w := fun t w => run_float_arith w .add t .f64 a c s q4
        rw [h2] at S1
        clear h2 hk q1 q2 q3 q4 q5 q6 hr HT
        go_enter Try.func14, Try.ntmps14
        go_wp2_with (first
          | (go_at_call 12; refine (rload_any _ (by assumption) _).mono ?_; rintro e w2 ⟨rfl, rfl⟩)
          | (go_at_call 10; refine (S1.out _).mono ?_; rintro e w2 ⟨rfl, rfl⟩)
          | (go_at_call 30; refine (HU.out _).mono ?_; rintro e w2 ⟨rfl, rfl⟩)
          | simp only [o1, o2, o3, o4])
        go_ret
        exact ⟨rfl, rfl⟩
/-- A load is the same as itself. -/
theorem same_self (x : Nat) (h : loadB x = true) (w : World) : Calls Try.prog 13 #[fl x, fl x] w fun e w' => e = .returned (.bool true) ∧ w = w' := by
  have g : (FloatKind.f64.format.order x x != some .eq) = decide (nan x) := neq_self x
  have hn : ¬ nan x := by
    rcases load_cases h with h | h
    · rw [nan_lo (by omega)]; omega
    · subst h; decide
  rw [decide_eq_false hn] at g
  clear hn h
  go_enter Try.func13, Try.ntmps13
  go_wp2_with (simp only [f64bits_run])
  go_ret
  exact ⟨by simp, rfl⟩
end Go.Proofs.Ytknfpnifhpbojaa
