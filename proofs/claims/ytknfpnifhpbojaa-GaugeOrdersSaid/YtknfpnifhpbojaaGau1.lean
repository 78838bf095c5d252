/- gauge: shares, loads, numbers told; the average. -/
import Derived.Test.YtknfpnifhpbojaaGauB
import Derived.Test.YtknfpnifhpbojaaBase
import Derived.Laws.FloatArith
import Derived.Laws.Externs
import Derived.KernelRfl
namespace Go.Proofs.Ytknfpnifhpbojaa
open Go.RowKit Bosun
abbrev fl (x : Nat) : Value := .float .f64 x
theorem share_nn {x : Nat} (h : nnB x = false) : shareB x = false := by
  unfold nnB at h; unfold shareB
  have := of_decide_eq_false h
  exact decide_eq_false (by omega)
theorem load_nn' {x : Nat} (h : nnB x = false) : loadB x = false := by
  unfold nnB at h; unfold loadB
  have := of_decide_eq_false h
  exact decide_eq_false (by omega)
theorem share_any (x : Nat) (hx : x < 18446744073709551616) (w : World) : Calls Try.prog 9 #[fl x] w fun e w' => e = .returned (.bool (shareB x)) ∧ w = w' := by
  have g : (FloatKind.f64.format.order x 0 == some .gt || FloatKind.f64.format.order x 0 == some .eq) = nnB x := ge0 hx
  cases hn : nnB x with
  | false =>
    rw [share_nn hn]
    rw [hn] at g
    clear hn hx
    go_enter Try.func9, Try.ntmps9
    go_wp2_with fail
    go_ret
    exact ⟨rfl, rfl⟩
  | true =>
    have l : (FloatKind.f64.format.order x 4607182418800017408 == some .lt || FloatKind.f64.format.order x 4607182418800017408 == some .eq) = shareB x := le1 hn
    rw [hn] at g
    obtain ⟨b, hb⟩ : ∃ b, b = shareB x := ⟨_, rfl⟩
    rw [← hb] at l ⊢
    clear hn hx hb
    go_enter Try.func9, Try.ntmps9
    go_wp2_with fail
    go_ret
    exact ⟨rfl, rfl⟩
theorem rload_any (x : Nat) (hx : x < 18446744073709551616) (w : World) : Calls Try.prog 12 #[fl x] w fun e w' => e = .returned (.bool (loadB x)) ∧ w = w' := by
  have g : (FloatKind.f64.format.order x 0 == some .gt || FloatKind.f64.format.order x 0 == some .eq) = nnB x := ge0 hx
  cases hn : nnB x with
  | false =>
    rw [load_nn' hn]
    rw [hn] at g
    clear hn hx
    go_enter Try.func12, Try.ntmps12
    go_wp2_with fail
    go_ret
    exact ⟨rfl, rfl⟩
  | true =>
    have l : (FloatKind.f64.format.order x 9218868437227405311 == some .lt || FloatKind.f64.format.order x 9218868437227405311 == some .eq) = loadB x := lemax hn
    rw [hn] at g
    obtain ⟨b, hb⟩ : ∃ b, b = loadB x := ⟨_, rfl⟩
    rw [← hb] at l ⊢
    clear hn hx hb
    go_enter Try.func12, Try.ntmps12
    go_wp2_with fail
    go_ret
    exact ⟨rfl, rfl⟩
theorem rshare_any (x : Nat) (hx : x < 18446744073709551616) (w : World) : Calls Try.prog 10 #[fl x] w fun e w' => e = .returned (.bool (shareB x)) ∧ w = w' := by
  have g : (FloatKind.f64.format.order x 0 == some .gt || FloatKind.f64.format.order x 0 == some .eq) = nnB x := ge0 hx
  cases hn : nnB x with
  | false =>
    rw [share_nn hn]
    rw [hn] at g
    clear hn hx
    go_enter Try.func10, Try.ntmps10
    go_wp2_with fail
    go_ret
    exact ⟨rfl, rfl⟩
  | true =>
    have l : (FloatKind.f64.format.order x 4607182418800017408 == some .lt || FloatKind.f64.format.order x 4607182418800017408 == some .eq) = shareB x := le1 hn
    rw [hn] at g
    obtain ⟨b, hb⟩ : ∃ b, b = shareB x := ⟨_, rfl⟩
    rw [← hb] at l ⊢
    clear hn hx hb
    go_enter Try.func10, Try.ntmps10
    go_wp2_with fail
    go_ret
    exact ⟨rfl, rfl⟩
theorem isinf_any (x : Nat) (hn : nnB x = true) (w : World) : Calls Try.prog 28 #[fl x, .int .i64 1] w fun e w' => e = .returned (.bool (!loadB x)) ∧ w = w' := by
  have g : (FloatKind.f64.format.order x 9218868437227405311 == some .gt) = !loadB x := gtmax hn
  obtain ⟨b, hb⟩ : ∃ b, b = !loadB x := ⟨_, rfl⟩
  rw [← hb] at g ⊢
  clear hn hb
  go_enter Try.func28, Try.ntmps28
  go_wp2_with fail
  go_ret
  exact ⟨rfl, rfl⟩
theorem isnan_any (x : Nat) (w : World) : Calls Try.prog 33 #[fl x] w fun e w' => e = .returned (.bool (decide (nan x))) ∧ w = w' := by
  have g : (FloatKind.f64.format.order x x != some .eq) = decide (nan x) := neq_self x
  obtain ⟨b, hb⟩ : ∃ b, b = decide (nan x) := ⟨_, rfl⟩
  rw [← hb] at g ⊢
  clear hb
  go_enter Try.func33, Try.ntmps33
  go_wp2_with fail
  go_ret
  exact ⟨rfl, rfl⟩
theorem load_any (x : Nat) (hx : x < 18446744073709551616) (w : World) : Calls Try.prog 11 #[fl x] w fun e w' => e = .returned (.bool (loadB x)) ∧ w = w' := by
  have g : (FloatKind.f64.format.order x 0 == some .gt || FloatKind.f64.format.order x 0 == some .eq) = nnB x := ge0 hx
  cases hn : nnB x with
  | false =>
    rw [load_nn' hn]
    rw [hn] at g
    clear hn hx
    go_enter Try.func11, Try.ntmps11
    go_wp2_with fail
    go_ret
    exact ⟨rfl, rfl⟩
  | true =>
    have HI := Lib.hid (fun w => isinf_any x hn w)
    rw [hn] at g
    obtain ⟨b, hb⟩ : ∃ b, b = loadB x := ⟨_, rfl⟩
    rw [← hb] at HI ⊢
    clear hn hx hb
    go_enter Try.func11, Try.ntmps11
    go_wp2_with (go_at_call 28; refine (HI.out _).mono ?_; rintro e w2 ⟨rfl, rfl⟩)
    go_ret
    exact ⟨by simp, rfl⟩
theorem min_run {P : Program} (x : Nat) (hx : x ≤ 9218868437227405312) (w : World) : (Builtin.min2 (fl x) (fl 9218868437227405311)).run P w = .ok (fl (min x 9218868437227405311)) w := by
  have hk : key x = x := key_lo (by omega)
  have hn : ¬ nan x := by rw [nan_lo (by omega)]; omega
  have ho : FloatKind.f64.format.order x 9218868437227405311 = some (if x < 9218868437227405311 then .lt else if x = 9218868437227405311 then .eq else .gt) := by
    rw [show FloatKind.f64.format = Ieee.double from rfl, order_key, if_neg (by rintro (h | h); exact hn h; exact nan_cm h), hk, key_cm, cmp_int]
    refine congrArg some ?_
    by_cases h : x < 9218868437227405311
    · rw [if_pos h, if_pos (by omega)]
    · rw [if_neg h, if_neg (by omega)]
      by_cases h : x = 9218868437227405311
      · rw [if_pos h, if_pos (by omega)]
      · rw [if_neg h, if_neg (by omega)]
  rcases Nat.lt_trichotomy x 9218868437227405311 with h | h | h
  · rw [if_pos h] at ho; rw [Nat.min_eq_left (by omega)]; simp [Builtin.min2, ho]
  · rw [if_neg (by omega), if_pos h] at ho; subst h; simp [Builtin.min2, ho]
  · rw [if_neg (by omega), if_neg (by omega)] at ho; rw [Nat.min_eq_right (by omega)]; simp [Builtin.min2, ho]
section
variable {P : Program} {ops : Array Oper} {Q : Exit → Act → World → Prop} {rest : List Oper} {o : Oper} {a : Act} {w : World}
theorem wpList_minF (hgd : Region.wanted o (yielded ops a.tmps) = true) (x y : Operand) (t t' : TypeId)
    (ho : o.op = .call { callee := .builtin .min, args := #[x, y], argTypes := #[t, t'] }) (p q r : Nat)
    (hx : a.eval x = .float .f64 p) (hy : a.eval y = .float .f64 q) (hr : (Builtin.min2 (.float .f64 p) (.float .f64 q)).run P w = .ok (.float .f64 r) w)
    (h : wpList P ops Q rest (a.put o.dst (.float .f64 r)) w) : wpList P ops Q (o :: rest) a w := by
  refine wpList_valW hgd ?_ h
  simp [execOp, ho, resolve, invoke, builtin, hx, hy, Builtin.min_, hr, Sem.run_pure]
end
theorem tell_any (x : Nat) (hn : nnB x = true) (w : World) : Calls Try.prog 27 #[fl x] w fun e w' => e = .returned (fl (tellW x)) ∧ w = w' := by
  have ha : ∀ t w, (binOp .add t (.float .f64 x) (.float .f64 0)).run Try.prog w = .ok (.float .f64 (plus0 x)) w := fun t w => run_float_arith w .add t .f64 x 0 _ (add0 hn)
  have hm : ∀ w, (Builtin.min2 (.float .f64 (plus0 x)) (.float .f64 9218868437227405311)).run Try.prog w = .ok (.float .f64 (min (plus0 x) 9218868437227405311)) w := fun w => min_run (plus0 x) (plus0_nn hn) w
  rw [← tell_min] at hm
  obtain ⟨p, hp⟩ : ∃ p, p = plus0 x := ⟨_, rfl⟩
  obtain ⟨q, hq⟩ : ∃ q, q = tellW x := ⟨_, rfl⟩
  rw [← hp] at ha hm
  rw [← hq] at hm ⊢
  clear hp hq hn
  go_enter Try.func27, Try.ntmps27
  go_wp2_with (first
    | (refine wpList_minF rfl (.tmp 4) _ _ _ rfl p _ q rfl rfl (hm _) ?_)
    | simp only [ha])
  go_ret
  exact ⟨rfl, rfl⟩
theorem f64bits_run (x : Nat) (w : World) : (callFunc 29 #[.float .f64 x]).run Try.prog w = .ok (.value (.int .u64 (x : Nat))) w := by
  rw [run_callFunc_extern Try.func29 (by kernel_rfl) (by kernel_rfl) (by kernel_rfl) (e := Extern.MathFloatBits.float64bits) (by kernel_rfl)]
  rfl
theorem f64from_run (x : Int) (w : World) : (callFunc 35 #[.int .u64 x]).run Try.prog w = .ok (.value (.float .f64 x.toNat)) w := by
  rw [run_callFunc_extern Try.func35 (by kernel_rfl) (by kernel_rfl) (by kernel_rfl) (e := Extern.MathFloatBits.float64frombits) (by kernel_rfl)]
  rfl
end Go.Proofs.Ytknfpnifhpbojaa
