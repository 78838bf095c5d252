/- A scope in which the run may jump ahead, once, to one label. Over any program. -/
import Derived.WalkKit
import Derived.WalkMore
import Derived.ScopeJumps
namespace Bosun
open Go
/-- As Q; by a goto to label l: J; by any other goto: no way out. -/
theorem wp_mono {P : Program} {c : Code} {Q Q' : Exit → Act → World → Prop} {a : Act} {w : World} (h : c.wp P Q a w) (hq : ∀ e a w, Q e a w → Q' e a w) : c.wp P Q' a w := by
  intro b k cs
  obtain ⟨e, a₁, w₁, h1, h2⟩ := h b k cs
  exact ⟨e, a₁, w₁, hq _ _ _ h1, h2⟩
theorem wp_scope_ahead {P : Program} {Q : Exit → Act → World → Prop} {a : Act} {w : World} {c rest : Code} (l : Nat) (hf : findLabel c l = some rest)
    (first : c.wp P (Exit.jump l (fun a' w' => rest.wp P (Exit.noGoto Q) a' w') Q) a w) : (Code.scope c).wp P Q a w := by
  refine wp_scope_jumps l (fun a' w' => rest.wp P (Exit.noGoto Q) a' w') (fun _ _ => 0) hf first (fun a w hJ => wp_mono hJ ?_)
  intro e a w h
  cases e <;> first | exact h | exact h.elim
theorem Exit.jump_goto {l : Nat} {J : Act → World → Prop} {Q : Exit → Act → World → Prop} {a : Act} {w : World} (h : J a w) : Go.Exit.jump l J Q (.goto l) a w := ⟨rfl, h⟩
end Bosun
