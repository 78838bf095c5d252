/- Each word goes to one alone, plainly: the owner's last work, and what is left. -/
import Derived.Test.YtidooepalfegdaaDqO
import Derived.Test.YtidooepalfegdaaDqM
import Derived.Test.YtidooepalfegdaaDq7
namespace Bosun
open Go
theorem updA_updA (A : Nat → Option DOp) (k : Nat) (o o' : DOp) : updA (updA A k o) k o' = updA A k o' := by
  funext j
  by_cases e : j = k
  · subst e; rw [updA_same, updA_same]
  · rw [updA_other _ _ e, updA_other _ _ e, updA_other _ _ e]
theorem updA_self {A : Nat → Option DOp} {k : Nat} {o : DOp} (h : A k = some o) : updA A k o = A := by
  funext j
  by_cases e : j = k
  · subst e; rw [updA_same, h]
  · rw [updA_other _ _ e]
theorem once_all {f cap : Nat} {W : List Nat} {A : Nat → Option DOp} {L : List Nat} {N : Nat} {c : Bool} (h : St f cap W A L N c) (hN : N + 8 < 1000000) {G : Nat → Prop} {p last : Nat} (g : Gh L G p last)
    {o : DOp} (ho : A 0 = some o) (ok : OkOp o) {mp : Bool} (own : o.done = false → (o.kind = 0 ∧ mp = true ∧ o.x = p + 1) ∨ (o.kind = 1 ∧ mp = false)) (u : Nat) :
    ∀ n, n ≤ 8 → OkOp (itD n (o, W, u)).1 ∧ ((itD n (o, W, u)).1.done = false → (itD n (o, W, u)).1.steps = o.steps + n) ∧ ∃ L' c' G' p', St f cap (itD n (o, W, u)).2.1 (updA A 0 (itD n (o, W, u)).1) L' (N + n) c' ∧ Gh L' G' p' last ∧ p' ≤ p + 1 ∧
      ((itD n (o, W, u)).1.done = false → p' = p ∧ (((itD n (o, W, u)).1.kind = 0 ∧ mp = true ∧ (itD n (o, W, u)).1.x = p + 1) ∨ ((itD n (o, W, u)).1.kind = 1 ∧ mp = false))) := by
  intro n
  induction n with
  | zero =>
    intro _
    exact ⟨ok, fun _ => rfl, L, c, G, p, by rw [show itD 0 (o, W, u) = (o, W, u) from rfl, updA_self ho]; exact h, g, Nat.le_succ _, fun hd => ⟨rfl, own hd⟩⟩
  | succ n ih =>
    intro hn
    obtain ⟨k1, k2, L', c', G', p', s1, g1, p1, q1⟩ := ih (by omega)
    rw [itD_succ]
    clear ih
    generalize itD n (o, W, u) = s at *
    cases hd : s.1.done with
    | true =>
      rw [stepD_done hd]
      exact ⟨k1, (fun e => by rw [show (s.1, s.2.1, s.2.2) = s from rfl, hd] at e; cases e), L', c', G', p', s1.up, g1, p1, (fun e => by rw [show (s.1, s.2.1, s.2.2) = s from rfl, hd] at e; cases e)⟩
    | false =>
      obtain ⟨rfl, q2⟩ := q1 hd
      have sm : Small s.2.1 := by obtain ⟨_, _, _, _, I, _⟩ := s1; exact I.small
      refine ⟨okStep k1 sm, fun _ => by rw [stepD_steps k1 hd, k2 hd]; omega, ?_⟩
      have hh := once_step s1 (by omega) g1 (updA_same A 0 s.1) hd (k1.err hd) k1.x (mp := mp) (fun _ => q2) s.2.2
      rw [updA_updA] at hh
      have hkd := stepD_kind s.1 s.2.1 s.2.2
      rcases hh with ⟨h1, c2, h2, h3⟩ | ⟨h1, _, h2, h3, L2, c2, h4, h5⟩ | ⟨h1, h2, h3, h4, h5, L2, c2, h6, h7⟩
      · refine ⟨L', c2, G', p', h2, h3, Nat.le_succ _, fun e => ⟨rfl, ?_⟩⟩
        rcases q2 with ⟨a1, a2, a3⟩ | ⟨a1, a2⟩
        · refine .inl ⟨hkd.trans a1, a2, ?_⟩
          rcases (s1.push (by omega) (updA_same A 0 s.1) a1 hd (k1.err hd) k1.x s.2.2).2 with ⟨_, b2, _⟩ | ⟨b1, _⟩ | ⟨b1, _⟩
          · rw [b2, a3]
          · rw [b1] at e; cases e
          · rw [b1] at e; cases e
        · exact .inr ⟨hkd.trans a1, a2⟩
      · exact ⟨L2, c2, G', p' + 1, h4, h5, Nat.le_refl _, (fun e => by rw [h3] at e; cases e)⟩
      · have hd2 : (stepD s.1 s.2.1 s.2.2).1.done = true := by
          cases e : (stepD s.1 s.2.1 s.2.2).1.done with
          | true => rfl
          | false => unfold resD at h1; rw [if_pos e] at h1; exact absurd h1 (by decide)
        rw [if_neg (by omega)] at h7
        exact ⟨L2, c2, _, p', h6, h7, Nat.le_succ _, (fun e => by rw [hd2] at e; cases e)⟩
/-- The owner's last work ends, and what is left is in order. -/
theorem once_end {f cap : Nat} {W : List Nat} {A : Nat → Option DOp} {L : List Nat} {N : Nat} {c : Bool} (h : St f cap W A L N c) (hN : N + 8 < 1000000) {G : Nat → Prop} {p last : Nat} (g : Gh L G p last)
    {o : DOp} (ho : A 0 = some o) (ok : OkOp o) {mp : Bool} (own : o.done = false → (o.kind = 0 ∧ mp = true ∧ o.x = p + 1) ∨ (o.kind = 1 ∧ mp = false)) (u : Nat) :
    (itD 8 (o, W, u)).1.done = true ∧ ∃ L' A', St f cap (itD 8 (o, W, u)).2.1 A' L' (N + 8) false ∧ ∀ x ∈ L', 0 < x ∧ x ≤ p + 1 := by
  obtain ⟨k1, k2, L', c', G', p', s1, g1, p1, q1⟩ := once_all h hN g ho ok own u 8 (Nat.le_refl _)
  have hd : (itD 8 (o, W, u)).1.done = true := by
    cases e : (itD 8 (o, W, u)).1.done with
    | true => rfl
    | false =>
      have a := k2 e
      have b := k1.s
      omega
  refine ⟨hd, L', updA A 0 (itD 8 (o, W, u)).1, ?_, fun x hx => ?_⟩
  · have : c' = false := by
      obtain ⟨_, _, _, _, I, _⟩ := s1
      cases e : c' with
      | false => rfl
      | true =>
        rw [e] at I
        obtain ⟨o', a1, _, a3, _⟩ := I.clm.1 rfl
        rw [updA_same] at a1; cases a1
        rw [hd] at a3; cases a3
    rw [← this]; exact s1
  · have := g1.mem x hx
    omega
/-- There was no work of the owner's. -/
theorem once_none {f cap : Nat} {W : List Nat} {A : Nat → Option DOp} {L : List Nat} {N : Nat} {c : Bool} (h : St f cap W A L N c) (ho : A 0 = none) : c = false := by
  obtain ⟨_, _, _, _, I, _⟩ := h
  cases e : c with
  | false => rfl
  | true =>
    rw [e] at I
    obtain ⟨o', a1, _⟩ := I.clm.1 rfl
    rw [ho] at a1; cases a1
end Bosun
