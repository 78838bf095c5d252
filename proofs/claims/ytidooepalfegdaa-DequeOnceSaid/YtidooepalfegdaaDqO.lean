/- Each word goes to one alone, plainly: what holds between two steps of the loop. No program in sight. -/
import Derived.Test.YtidooepalfegdaaDqS
namespace Bosun
open Go
/-- The words that lie there, those that went, how many were pushed, the last that was stolen. -/
structure Gh (L : List Nat) (G : Nat → Prop) (p last : Nat) : Prop where
  sorted : L.Pairwise (· < ·)
  mem : ∀ x ∈ L, last < x ∧ x ≤ p ∧ ¬ G x
  gone : ∀ y, G y → y ≤ p
  lp : last ≤ p
theorem Gh.zero : Gh [] (fun _ => False) 0 0 := ⟨List.Pairwise.nil, (fun _ h => by cases h), (fun _ h => h.elim), Nat.le_refl _⟩
theorem Gh.push {L : List Nat} {G : Nat → Prop} {p last : Nat} (h : Gh L G p last) : Gh (L ++ [p + 1]) G (p + 1) last := by
  refine ⟨List.pairwise_append.2 ⟨h.sorted, List.pairwise_singleton _ _, fun a ha b hb => ?_⟩, fun x hx => ?_, fun y hy => Nat.le_succ_of_le (h.gone y hy), Nat.le_succ_of_le h.lp⟩
  · have := (h.mem a ha).2.1
    rw [List.mem_singleton] at hb; omega
  · rcases List.mem_append.1 hx with hx | hx
    · exact ⟨(h.mem x hx).1, Nat.le_succ_of_le (h.mem x hx).2.1, (h.mem x hx).2.2⟩
    · rw [List.mem_singleton] at hx
      subst hx
      exact ⟨by have := h.lp; omega, Nat.le_refl _, fun hg => by have := h.gone _ hg; omega⟩
theorem Gh.steal {x : Nat} {L : List Nat} {G : Nat → Prop} {p last : Nat} (h : Gh (x :: L) G p last) : Gh L (fun y => G y ∨ y = x) p x := by
  have hx := h.mem x (List.mem_cons_self ..)
  obtain ⟨h1, h2⟩ := List.pairwise_cons.1 h.sorted
  refine ⟨h2, fun y hy => ⟨h1 y hy, (h.mem y (List.mem_cons_of_mem _ hy)).2.1, fun hg => ?_⟩, fun y hy => ?_, hx.2.1⟩
  · rcases hg with hg | hg
    · exact (h.mem y (List.mem_cons_of_mem _ hy)).2.2 hg
    · have := h1 y hy; omega
  · rcases hy with hy | rfl
    · exact h.gone y hy
    · exact hx.2.1
theorem Gh.pop {x : Nat} {L : List Nat} {G : Nat → Prop} {p last : Nat} (h : Gh (L ++ [x]) G p last) : Gh L (fun y => G y ∨ y = x) p last := by
  have hx := h.mem x (List.mem_append_right _ (List.mem_singleton.2 rfl))
  obtain ⟨h1, _, h3⟩ := List.pairwise_append.1 h.sorted
  refine ⟨h1, fun y hy => ⟨(h.mem y (List.mem_append_left _ hy)).1, (h.mem y (List.mem_append_left _ hy)).2.1, fun hg => ?_⟩, fun y hy => ?_, h.lp⟩
  · rcases hg with hg | hg
    · exact (h.mem y (List.mem_append_left _ hy)).2.2 hg
    · have := h3 y hy x (List.mem_singleton.2 rfl); omega
  · rcases hy with hy | rfl
    · exact h.gone y hy
    · exact hx.2.1
theorem St.up {f cap : Nat} {W : List Nat} {A : Nat → Option DOp} {L : List Nat} {N : Nat} {c : Bool} (h : St f cap W A L N c) : St f cap W A L (N + 1) c := by
  obtain ⟨t, b, l, t0, I, hL⟩ := h
  exact ⟨t, b, l, t0, { I with bN := by have := I.bN; omega }, hL⟩
/-- Behind a work's step: nothing went; or a push stands; or a word went. -/
theorem once_step {f cap : Nat} {W : List Nat} {A : Nat → Option DOp} {L : List Nat} {N : Nat} {c : Bool} (h : St f cap W A L N c) (hN : N < 1000000) {G : Nat → Prop} {p last : Nat} (g : Gh L G p last)
    {k : Nat} {o : DOp} (ho : A k = some o) (hd : o.done = false) (herr : o.err = 0) (hx : o.x < 18446744073709551616) {mp : Bool} (own : k = 0 → (o.kind = 0 ∧ mp = true ∧ o.x = p + 1) ∨ (o.kind = 1 ∧ mp = false)) (u : Nat) :
    ((resD (stepD o W u).1).2 ≠ 0 ∧ ∃ c', St f cap (stepD o W u).2.1 (updA A k (stepD o W u).1) L (N + 1) c' ∧ Gh L G p last) ∨
    ((resD (stepD o W u).1).2 = 0 ∧ k = 0 ∧ mp = true ∧ (stepD o W u).1.done = true ∧ ∃ L' c', St f cap (stepD o W u).2.1 (updA A k (stepD o W u).1) L' (N + 1) c' ∧ Gh L' G (p + 1) last) ∨
    ((resD (stepD o W u).1).2 = 0 ∧ (k = 0 → mp = false) ∧ last < (resD (stepD o W u).1).1 ∧ (resD (stepD o W u).1).1 ≤ p ∧ ¬ G (resD (stepD o W u).1).1 ∧ ∃ L' c', St f cap (stepD o W u).2.1 (updA A k (stepD o W u).1) L' (N + 1) c' ∧
      Gh L' (fun y => G y ∨ y = (resD (stepD o W u).1).1) p (if 0 < k then (resD (stepD o W u).1).1 else last)) := by
  have r1 : ∀ {q : DOp}, q.done = false → (resD q).2 ≠ 0 := fun hq => by unfold resD; rw [if_pos hq]; decide
  have r2 : ∀ {q : DOp} {e : Int}, q.done = true → q.err = e → e ≠ 0 → (resD q).2 ≠ 0 := fun hq he h0 => by unfold resD; rw [if_neg (by rw [hq]; decide), if_pos (by rw [he]; exact h0)]; rw [he]; exact h0
  have r3 : ∀ {q : DOp}, q.done = true → q.err = 0 → resD q = (q.x, 0) := fun hq he => by unfold resD; rw [if_neg (by rw [hq]; decide), if_neg (by rw [he]; exact fun h => h rfl)]
  by_cases k0 : k = 0
  · subst k0
    rcases own rfl with ⟨q1, rfl, q3⟩ | ⟨q1, rfl⟩
    · obtain ⟨rfl, hh⟩ := h.push hN ho q1 hd herr hx u
      rcases hh with ⟨h1, h2, h3⟩ | ⟨h1, h2, h3, h4⟩ | ⟨h1, h2, h3, h4, h5⟩
      · exact .inl ⟨r1 h1, _, h3.up, g⟩
      · exact .inl ⟨r2 h1 h2 (by decide), _, h4.up, g⟩
      · refine .inr (.inl ⟨by rw [r3 h1 h2], rfl, rfl, h1, _, _, h5, ?_⟩)
        rw [q3]; exact g.push
    · rcases h.pop hN ho q1 hd herr u with ⟨h1, h2, h3⟩ | ⟨h1, h2, rfl, h4⟩ | ⟨h1, h2, rfl, h3, L', h4, h5⟩ | ⟨h1, h2, rfl, h3, h4, h5⟩
      · exact .inl ⟨r1 h1, _, h3.up, g⟩
      · exact .inl ⟨r1 h1, _, h4.up, g⟩
      · rw [r3 h1 h3]
        subst h4
        have hm := g.mem _ (List.mem_append_right _ (List.mem_singleton.2 rfl))
        exact .inr (.inr ⟨rfl, fun _ => rfl, hm.1, hm.2.1, hm.2.2, L', _, h5.up, by rw [if_neg (by omega)]; exact g.pop⟩)
      · subst h4
        exact .inl ⟨r2 h1 h3 (by decide), _, h5.up, g⟩
  · rcases h.steal hN (by omega) ho hd herr u with ⟨h1, h2⟩ | ⟨h1, h2, L', h3, h4⟩ | ⟨h1, h2, h3⟩ | ⟨h1, h2, _, h4⟩
    · exact .inl ⟨r1 h1, _, h2.up, g⟩
    · rw [r3 h1 h2]
      subst h3
      have hm := g.mem _ (List.mem_cons_self ..)
      exact .inr (.inr ⟨rfl, fun e => absurd e k0, hm.1, hm.2.1, hm.2.2, L', _, h4.up, by rw [if_pos (by omega)]; exact g.steal⟩)
    · exact .inl ⟨r2 h1 h2 (by decide), _, h3.up, g⟩
    · exact .inl ⟨r2 h1 h2 (by decide), _, h4.up, g⟩
end Bosun
