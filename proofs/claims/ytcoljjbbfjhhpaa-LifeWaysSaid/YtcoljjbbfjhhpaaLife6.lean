/- life: the names; who stands in a queue; the page's examples. -/
import Derived.Test.YtcoljjbbfjhhpaaLife5
namespace Bosun
/-- A state's name. -/
def stateName (s : Int) : ByteArray :=
  if s = 0 then ⟨#[102, 114, 101, 101]⟩ else if s = 1 then ⟨#[114, 101, 97, 100, 121]⟩ else if s = 2 then ⟨#[114, 117, 110, 110, 105, 110, 103]⟩ else if s = 3 then ⟨#[97, 115, 108, 101, 101, 112]⟩
  else if s = 4 then ⟨#[98, 108, 111, 99, 107, 101, 100]⟩ else if s = 5 then ⟨#[106, 111, 105, 110, 105, 110, 103]⟩ else if s = 6 then ⟨#[100, 111, 110, 101]⟩ else ⟨#[63]⟩
end Bosun
namespace Go.Proofs.Ytcoljjbbfjhhpaa
open Go.RowKit Bosun
def namesA : Array Value := #[.string ⟨#[102, 114, 101, 101]⟩, .string ⟨#[114, 101, 97, 100, 121]⟩, .string ⟨#[114, 117, 110, 110, 105, 110, 103]⟩, .string ⟨#[97, 115, 108, 101, 101, 112]⟩, .string ⟨#[98, 108, 111, 99, 107, 101, 100]⟩, .string ⟨#[106, 111, 105, 110, 105, 110, 103]⟩, .string ⟨#[100, 111, 110, 101]⟩]
def names0 : Array Value := #[.string ⟨#[]⟩, .string ⟨#[]⟩, .string ⟨#[]⟩, .string ⟨#[]⟩, .string ⟨#[]⟩, .string ⟨#[]⟩, .string ⟨#[]⟩]
theorem names_any (w : World) :
    Calls Try.prog 23 #[] w fun e w' => e = .returned (.agg namesA) ∧ Chg [] w w' := by
  go_enter Try.func23, Try.ntmps23
  go_wp2_with (first
    | (refine wpList_new_row rfl 41 rfl names0 (by kernel_rfl) ?_; intro w1 B1 C1 s1)
    | (refine wpList_put_row rfl 41 (.tmp 0) (.tmp 1) rfl w.heap.size namesA rfl rfl 41 _ B1 (by kernel_rfl) rfl (by kernel_rfl) ?_; intro w4 B4 C4))
  refine bodyPost_ret (results_row rfl _ _ w.heap.size 41 _ _ rfl B4 Try.underlying41 rfl (by kernel_rfl)) rfl ⟨rfl, ?_⟩
  exact C1.then C4 (fun g hg => .inr (by simp at hg; omega))
theorem idx_name (n : Nat) (h : n < 7) (w : World) : (Instr.index 41 (.agg namesA) (.int .i64 n)).run Try.prog w = .ok (.string (stateName n)) w := by
  rcases (show n = 0 ∨ n = 1 ∨ n = 2 ∨ n = 3 ∨ n = 4 ∨ n = 5 ∨ n = 6 by omega) with h | h | h | h | h | h | h <;> subst h <;> kernel_rfl
theorem name_any (s : Int) (w : World) :
    Calls Try.prog 11 #[.int .i64 s] w fun e w' => e = .returned (.string (stateName s)) ∧ Chg [] w w' := by
  have ha := fun w => is_any s w
  by_cases h : 0 ≤ s ∧ s < 7
  · obtain ⟨n, rfl, hn⟩ : ∃ n : Nat, s = n ∧ n < 7 := ⟨s.toNat, by omega, by omega⟩
    rw [show decide (0 ≤ (n : Int) ∧ (n : Int) < 7) = true from by simp; omega] at ha
    have IX := fun w => idx_name n hn w
    obtain ⟨nm, hnm⟩ : ∃ x, x = stateName n := ⟨_, rfl⟩
    rw [← hnm] at IX ⊢
    obtain ⟨ro, hro⟩ : ∃ x, x = Value.agg namesA := ⟨_, rfl⟩
    have R := fun w => names_any w
    rw [← hro] at IX R
    have HA := Lib.hid ha
    have HR := Lib.hid R
    have HX := Lib.hid IX
    clear ha hnm hro R IX h
    go_enter Try.func11, Try.ntmps11
    go_wp2_with fail
    refine (HA.out _).mono ?_
    rintro e w' ⟨rfl, rfl⟩
    go_wp2_with fail
    refine (HR.out _).mono ?_
    rintro e w1 ⟨rfl, C1⟩
    go_wp2_with (refine wpList_index rfl 41 (.tmp 6) (.tmp 7) rfl _ _ rfl rfl _ (HX.out _) ?_)
    go_ret
    exact ⟨rfl, C1⟩
  · rw [show decide (0 ≤ s ∧ s < 7) = false from by simp; omega] at ha
    rw [show stateName s = ⟨#[63]⟩ from by unfold stateName; repeat rw [if_neg (by omega)]]
    have HA := Lib.hid ha
    clear ha h
    go_enter Try.func11, Try.ntmps11
    go_wp2_with fail
    refine (HA.out _).mono ?_
    rintro e w' ⟨rfl, rfl⟩
    go_wp2_with fail
    go_ret
    exact ⟨rfl, Chg.refl _ _⟩
/-- A move's name. -/
def moveName (m : Int) : ByteArray := if 0 ≤ m ∧ m < 10 then nameOf m.toNat else ⟨#[63]⟩
theorem moveName_out {m : Int} (h : ¬ (0 ≤ m ∧ m < 10)) : moveName m = ⟨#[63]⟩ := if_neg h
theorem wpList_field {P : Program} {ops : Array Oper} {rest : List Oper} {o : Oper} {a : Go.Act} {w : World} {Q : Exit → Go.Act → World → Prop} (hgd : o.guard = none) (T : TypeId) (x : Operand) (i : Nat) (ho : o.op = .field T x i)
    (v : Value) (hx : a.eval x = v) (r : Value) (hr : (Instr.field T v i).run P w = .ok r w) (h : wpList P ops Q rest (a.put o.dst r) w) : wpList P ops Q (o :: rest) a w :=
  wpList_val hgd (by unfold execOp; simp only [ho, hx, Sem.run_bind, hr, Result.andThen_ok, Sem.run_pure]) h
theorem field2 (a b c t : Int) (nm : ByteArray) (w : World) : (Instr.field 38 (.agg #[.int .i64 a, .int .i64 b, .int .i64 c, .int .i64 t, .string nm]) 2).run Try.prog w = .ok (.string nm) w := by kernel_rfl
theorem move_any (m : Int) (w : World) :
    Calls Try.prog 13 #[.int .i64 m] w fun e w' => e = .returned (.string (moveName m)) ∧ Chg [] w w' := by
  by_cases h : 0 ≤ m ∧ m < 10
  · obtain ⟨n, rfl, hn⟩ : ∃ n : Nat, m = n ∧ n < 10 := ⟨m.toNat, by omega, by omega⟩
    have IX := fun w => idx_rule n hn w
    rw [show moveName n = nameOf n from by unfold moveName; rw [if_pos h]; rfl]
    obtain ⟨nm, hnm⟩ : ∃ x, x = nameOf n := ⟨_, rfl⟩
    rw [← hnm] at IX ⊢
    obtain ⟨⟨a, b, c, t⟩, hr⟩ : ∃ x, x = ruleOf n := ⟨_, rfl⟩
    rw [← hr] at IX
    simp only at IX
    obtain ⟨ro, hro⟩ : ∃ x, x = Value.agg rulesA := ⟨_, rfl⟩
    have R := fun w => rules_any w
    rw [← hro] at IX R
    have HR := Lib.hid R
    have HX := Lib.hid IX
    clear hnm hro R IX h hr
    go_enter Try.func13, Try.ntmps13
    go_wp2_with fail
    refine (HR.out _).mono ?_
    rintro e w1 ⟨rfl, C1⟩
    go_wp2_with (first
      | (refine wpList_index rfl 39 (.tmp 9) (.tmp 10) rfl _ _ rfl rfl _ (HX.out _) ?_)
      | (refine wpList_field rfl 38 (.tmp 11) 2 rfl _ rfl _ (field2 a b c t nm _) ?_))
    go_ret
    exact ⟨rfl, C1⟩
  · rw [moveName_out h]
    rcases (show m < 0 ∨ (decide (m < 0) = false ∧ 10 ≤ m) by simp; omega) with g | ⟨g, g2⟩
    all_goals
      clear h
      go_enter Try.func13, Try.ntmps13
      go_wp2_with fail
      go_ret
      exact ⟨rfl, Chg.refl _ _⟩
theorem rname_any (s : Int) (w : World) :
    Calls Try.prog 12 #[.int .i64 s] w fun e w' => e = .returned (.string (stateName s)) ∧ Chg [] w w' := by
  rcases (show s = 0 ∨ s = 1 ∨ s = 2 ∨ s = 3 ∨ s = 4 ∨ s = 5 ∨ s = 6 ∨ s < 0 ∨ (decide (s < 0) = false ∧ 6 < s) by simp; omega) with h | h | h | h | h | h | h | h | ⟨h, h2⟩
  case inr.inr.inr.inr.inr.inr.inr.inl | inr.inr.inr.inr.inr.inr.inr.inr =>
    all_goals
      rw [show stateName s = ⟨#[63]⟩ from by unfold stateName; (try simp at h); repeat rw [if_neg (by omega)]]
      go_enter Try.func12, Try.ntmps12
      go_wp2_with fail
      go_ret
      exact ⟨rfl, Chg.refl _ _⟩
  all_goals
    subst h
    go_enter Try.func12, Try.ntmps12
    go_wp2_with fail
    go_ret
    exact ⟨rfl, (Chg.refl _ _).alloc _⟩
set_option maxHeartbeats 1000000 in
theorem rmove_any (m : Int) (w : World) :
    Calls Try.prog 14 #[.int .i64 m] w fun e w' => e = .returned (.string (moveName m)) ∧ Chg [] w w' := by
  rcases (show m = 0 ∨ m = 1 ∨ m = 2 ∨ m = 3 ∨ m = 4 ∨ m = 5 ∨ m = 6 ∨ m = 7 ∨ m = 8 ∨ m = 9 ∨ m < 0 ∨ (decide (m < 0) = false ∧ 9 < m) by simp; omega) with h | h | h | h | h | h | h | h | h | h | h | ⟨h, h2⟩
  case inr.inr.inr.inr.inr.inr.inr.inr.inr.inr.inl | inr.inr.inr.inr.inr.inr.inr.inr.inr.inr.inr =>
    all_goals
      rw [moveName_out (show ¬ (0 ≤ m ∧ m < 10) by first | omega | (simp at h; omega))]
      go_enter Try.func14, Try.ntmps14
      go_wp2_with fail
      go_ret
      exact ⟨rfl, Chg.refl _ _⟩
  all_goals
    subst h
    go_enter Try.func14, Try.ntmps14
    go_wp2_with fail
    go_ret
    exact ⟨rfl, (Chg.refl _ _).alloc _⟩
theorem queued_any (s : Int) (w : World) :
    Calls Try.prog 15 #[.int .i64 s] w fun e w' => e = .returned (.bool (s == 1)) ∧ w = w' := by
  go_enter Try.func15, Try.ntmps15
  go_wp2_with fail
  go_ret
  exact ⟨rfl, rfl⟩
end Go.Proofs.Ytcoljjbbfjhhpaa
