/- life: Next. -/
import Derived.Test.YtcoljjbbfjhhpaaLife1
namespace Go.Proofs.Ytcoljjbbfjhhpaa
open Go.RowKit Bosun

/-- The moves' names. -/
def nameOf : Nat → ByteArray
  | 0 => ⟨#[98, 111, 114, 110]⟩
  | 1 => ⟨#[100, 105, 115, 112, 97, 116, 99, 104]⟩
  | 2 => ⟨#[112, 114, 101, 101, 109, 112, 116]⟩
  | 3 => ⟨#[115, 108, 101, 101, 112]⟩
  | 4 => ⟨#[98, 108, 111, 99, 107]⟩
  | 5 => ⟨#[119, 97, 105, 116]⟩
  | 6 => ⟨#[119, 97, 107, 101]⟩
  | 7 => ⟨#[100, 105, 101]⟩
  | 8 => ⟨#[114, 101, 97, 112]⟩
  | _ => ⟨#[118, 97, 110, 105, 115, 104]⟩

theorem idx_rule (n : Nat) (h : n < 10) (w : World) : (Instr.index 39 (.agg rulesA) (.int .i64 n)).run Try.prog w =
    .ok (.agg #[.int .i64 (ruleOf n).1, .int .i64 (ruleOf n).2.1, .int .i64 (ruleOf n).2.2.1, .int .i64 (ruleOf n).2.2.2, .string (nameOf n)]) w := by
  rcases (show n = 0 ∨ n = 1 ∨ n = 2 ∨ n = 3 ∨ n = 4 ∨ n = 5 ∨ n = 6 ∨ n = 7 ∨ n = 8 ∨ n = 9 by omega) with h | h | h | h | h | h | h | h | h | h <;> subst h <;> kernel_rfl

/-- An array's element. -/
theorem wpList_index {P : Program} {ops : Array Oper} {rest : List Oper} {o : Oper} {a : Go.Act} {w : World} {Q : Exit → Go.Act → World → Prop} (hgd : o.guard = none) (T : TypeId) (x i : Operand) (ho : o.op = .index T x i)
    (v iv : Value) (hx : a.eval x = v) (hi : a.eval i = iv) (r : Value) (hr : (Instr.index T v iv).run P w = .ok r w) (h : wpList P ops Q rest (a.put o.dst r) w) : wpList P ops Q (o :: rest) a w :=
  wpList_val hgd (by unfold execOp; simp only [ho, hx, hi, Sem.run_bind, hr, Result.andThen_ok, Sem.run_pure]) h
theorem at0 (a b c : Int) (w : World) : (Instr.index 36 (.agg #[.int .i64 a, .int .i64 b, .int .i64 c]) (.int .i64 0)).run Try.prog w = .ok (.int .i64 a) w := by kernel_rfl
theorem at1 (a b c : Int) (w : World) : (Instr.index 36 (.agg #[.int .i64 a, .int .i64 b, .int .i64 c]) (.int .i64 1)).run Try.prog w = .ok (.int .i64 b) w := by kernel_rfl
theorem at2 (a b c : Int) (w : World) : (Instr.index 36 (.agg #[.int .i64 a, .int .i64 b, .int .i64 c]) (.int .i64 2)).run Try.prog w = .ok (.int .i64 c) w := by kernel_rfl

set_option maxHeartbeats 4000000 in
theorem next_any (s m : Int) (w : World) :
    Calls Try.prog 7 #[.int .i64 s, .int .i64 m] w fun e w' => e = .returned (.tuple #[.int .i64 ((goes s m).getD s), .bool (goes s m).isSome]) ∧ Chg [] w w' := by
  by_cases hm : m < 0 ∨ 10 ≤ m
  · have hn := goes_out s m hm
    rw [hn]
    rcases (show m < 0 ∨ (decide (m < 0) = false ∧ 10 ≤ m) by rcases hm with h | h; exact .inl h; exact .inr ⟨by simp; omega, h⟩) with h | ⟨h, h2⟩
    all_goals
      clear hm
      go_enter Try.func7, Try.ntmps7
      go_wp2_with fail
      go_ret2
      exact ⟨rfl, Chg.refl _ _⟩
  · obtain ⟨n, rfl, hn⟩ : ∃ n : Nat, m = n ∧ n < 10 := ⟨m.toNat, by omega, by omega⟩
    clear hm
    have HG := Lib.hid (goes_rule s n hn)
    have IX := fun w => idx_rule n hn w
    obtain ⟨nm, hnm⟩ : ∃ x, x = nameOf n := ⟨_, rfl⟩
    rw [← hnm] at IX
    clear hnm
    obtain ⟨⟨a, b, c, t⟩, hr⟩ : ∃ x, x = ruleOf n := ⟨_, rfl⟩
    rw [← hr] at IX HG
    clear hr
    simp only at IX HG
    obtain ⟨ro, hro⟩ : ∃ x, x = Value.agg rulesA := ⟨_, rfl⟩
    have R := fun w => rules_any w
    rw [← hro] at IX R
    clear hro
    have IXH := Lib.hid IX
    have RH := Lib.hid R
    clear IX R
    obtain ⟨G, hG⟩ : ∃ G, G = goes s n := ⟨_, rfl⟩
    rw [← hG] at HG ⊢
    clear hG
    go_enter Try.func7, Try.ntmps7
    go_wp2_with fail
    refine (RH.out _).mono ?_
    rintro e w1 ⟨rfl, C1⟩
    go_wp2_with fail
    rw [IXH.out]
    go_wp2_with fail
    obtain ⟨w2, hw2⟩ : ∃ w2, w2 = w1.alloc (.cells #[.int .i64 a, .int .i64 b, .int .i64 c, .int .i64 t, .string nm] 38) := ⟨_, rfl⟩
    have C2 : Chg [] w w2 := by rw [hw2]; exact C1.alloc _
    have B2 : Blk w2 w1.heap.size #[.int .i64 a, .int .i64 b, .int .i64 c, .int .i64 t, .string nm] 38 := by rw [hw2]; exact Blk.new _ _ _
    have c3 : w2.cell? ⟨w1.heap.size, 3, none⟩ = some (.int .i64 t) := B2.cell 3
    rw [← hw2]
    clear hw2
    go_loopw [21] (fun i wr => ∃ z : Int, i = .int .i64 z ∧ (z = 0 ∨ (z = 1 ∧ s ≠ a) ∨ (z = 2 ∧ s ≠ a ∧ s ≠ b) ∨ (z = 3 ∧ s ≠ a ∧ s ≠ b ∧ s ≠ c)) ∧ wr = w2)
      (fun i _ => 3 - (intOf i).toNat)
    case atStart => exact ⟨0, rfl, .inl rfl, rfl⟩
    case round =>
      obtain ⟨z, rfl, hz, rfl⟩ := hrel
      rcases hz with rfl | ⟨rfl, n1⟩ | ⟨rfl, n1, n2⟩ | ⟨rfl, n1, n2, n3⟩
      ·
        by_cases he : a = s
        · have e1 : (a == s) = true := by simpa using he
          have hg : G = some t := by rw [HG.out, if_pos (.inl he.symm)]
          subst hg
          clear he
          go_wp2_with (refine wpList_index rfl 36 (.tmp 20) (.tmp 21) rfl _ _ rfl rfl _ (at0 a b c _) ?_)
          go_ret2
          exact ⟨rfl, C2⟩
        · have e1 : (a == s) = false := by simpa using he
          go_wp2_with (refine wpList_index rfl 36 (.tmp 20) (.tmp 21) rfl _ _ rfl rfl _ (at0 a b c _) ?_)
          go_roundw
          case rel => exact ⟨1, rfl, .inr (.inl ⟨rfl, fun e => he e.symm⟩), trivial⟩
          case measure => simp [intOf]
      ·
        by_cases he : b = s
        · have e1 : (b == s) = true := by simpa using he
          have hg : G = some t := by rw [HG.out, if_pos (.inr (.inl he.symm))]
          subst hg
          clear he
          go_wp2_with (refine wpList_index rfl 36 (.tmp 20) (.tmp 21) rfl _ _ rfl rfl _ (at1 a b c _) ?_)
          go_ret2
          exact ⟨rfl, C2⟩
        · have e1 : (b == s) = false := by simpa using he
          go_wp2_with (refine wpList_index rfl 36 (.tmp 20) (.tmp 21) rfl _ _ rfl rfl _ (at1 a b c _) ?_)
          go_roundw
          case rel => exact ⟨2, rfl, .inr (.inr (.inl ⟨rfl, n1, fun e => he e.symm⟩)), trivial⟩
          case measure => simp [intOf]
      ·
        by_cases he : c = s
        · have e1 : (c == s) = true := by simpa using he
          have hg : G = some t := by rw [HG.out, if_pos (.inr (.inr he.symm))]
          subst hg
          clear he
          go_wp2_with (refine wpList_index rfl 36 (.tmp 20) (.tmp 21) rfl _ _ rfl rfl _ (at2 a b c _) ?_)
          go_ret2
          exact ⟨rfl, C2⟩
        · have e1 : (c == s) = false := by simpa using he
          go_wp2_with (refine wpList_index rfl 36 (.tmp 20) (.tmp 21) rfl _ _ rfl rfl _ (at2 a b c _) ?_)
          go_roundw
          case rel => exact ⟨3, rfl, .inr (.inr (.inr ⟨rfl, n1, n2, fun e => he e.symm⟩)), trivial⟩
          case measure => simp [intOf]
      · have hg : G = none := by rw [HG.out, if_neg (fun e => by rcases e with e | e | e; exact n1 e; exact n2 e; exact n3 e)]
        subst hg
        clear n1 n2 n3
        go_wp2_with fail
        go_ret2
        exact ⟨rfl, C2⟩
end Go.Proofs.Ytcoljjbbfjhhpaa
