/- rack: what the law RackBest keeps beside the rack, plainly. -/
import Derived.Test.YtjdbgohfedjifaaDoorRkU
namespace Bosun
open Go
def kOf (b : Bool) : Nat := if b = true then 1 else 0
structure LG (p : Nat) (lv : List Nat) (pn : List Bool) (gone : List Bool) (Q : Nat → Nat → List Nat) : Prop where
  ll : lv.length = p
  lp : pn.length = p
  lg : gone.length = 70
  p60 : p ≤ 60
  lvl : ∀ j, j < p → lv.getD j 0 < 8
  mem : ∀ k l x, k < 2 → l < 8 → (x ∈ Q k l ↔ 1 ≤ x ∧ x ≤ p ∧ lv.getD (x - 1) 0 = l ∧ kOf (pn.getD (x - 1) false) = k ∧ gone.getD x false = false)
  sorted : ∀ k l, k < 2 → l < 8 → (Q k l).Pairwise (· < ·)
  free : ∀ y, p < y → gone.getD y false = false
theorem getD_snoc {α : Type} (l : List α) (a d : α) (j : Nat) : (l ++ [a]).getD j d = if j = l.length then a else l.getD j d := by
  by_cases h : j < l.length
  · rw [if_neg (by omega)]; simp [List.getD, h, List.getElem?_append_left h]
  · by_cases e : j = l.length
    · subst e; simp
    · rw [if_neg e]; simp only [List.getD]; rw [List.getElem?_eq_none (by simp; omega), List.getElem?_eq_none (by omega)]
theorem getD_set' (l : List Bool) (i j : Nat) (b d : Bool) (hi : i < l.length) : (l.set i b).getD j d = if j = i then b else l.getD j d := by
  simp only [List.getD, List.getElem?_set]
  by_cases e : i = j
  · subst e; simp [hi]
  · rw [if_neg e, if_neg (fun h => e h.symm)]
section
variable {p : Nat} {lv : List Nat} {pn gone : List Bool} {Q : Nat → Nat → List Nat}
theorem LG.start : LG 0 [] [] (List.replicate 70 false) (fun _ _ => []) :=
  ⟨rfl, rfl, by simp, by omega, fun j h => by omega, fun k l x _ _ => ⟨fun h => by simp at h, fun h => by omega⟩, fun _ _ _ _ => List.Pairwise.nil, fun y _ => by simp only [List.getD, List.getElem?_replicate]; split <;> rfl⟩
theorem LG.put (h : LG p lv pn gone Q) (hp : p < 60) {l : Nat} (hl : l < 8) (b : Bool) : LG (p + 1) (lv ++ [l]) (pn ++ [b]) gone (updQ Q (kOf b) l (Q (kOf b) l ++ [p + 1])) := by
  refine ⟨by simp [h.ll], by simp [h.lp], h.lg, by omega, fun j hj => ?_, fun k' l' x hk' hl' => ?_, fun k' l' hk' hl' => ?_, fun y hy => h.free y (by omega)⟩
  · rw [getD_snoc]; split
    · exact hl
    · rw [h.ll] at *; exact h.lvl j (by omega)
  · rw [getD_snoc, getD_snoc, h.ll, h.lp]
    have hm := h.mem k' l' x hk' hl'
    have hf := h.free (p + 1) (by omega)
    by_cases e : k' = kOf b ∧ l' = l
    · obtain ⟨rfl, rfl⟩ := e
      rw [updQ_same, List.mem_append, hm]
      simp only [List.mem_singleton]
      constructor
      · rintro (⟨a1, a2, a3, a4, a5⟩ | rfl)
        · rw [if_neg (by omega), if_neg (by omega)]; exact ⟨a1, by omega, a3, a4, a5⟩
        · rw [if_pos (by omega), if_pos (by omega)]; exact ⟨by omega, by omega, rfl, rfl, hf⟩
      · rintro ⟨a1, a2, a3, a4, a5⟩
        by_cases c : x = p + 1
        · exact .inr c
        · rw [if_neg (by omega)] at a3 a4; exact .inl ⟨a1, by omega, a3, a4, a5⟩
    · rw [updQ_other _ _ e, hm]
      constructor
      · rintro ⟨a1, a2, a3, a4, a5⟩
        rw [if_neg (by omega), if_neg (by omega)]; exact ⟨a1, by omega, a3, a4, a5⟩
      · rintro ⟨a1, a2, a3, a4, a5⟩
        by_cases c : x = p + 1
        · rw [if_pos (by omega)] at a3 a4; exact absurd ⟨a4.symm, a3.symm⟩ e
        · rw [if_neg (by omega)] at a3 a4; exact ⟨a1, by omega, a3, a4, a5⟩
  · by_cases e : k' = kOf b ∧ l' = l
    · obtain ⟨rfl, rfl⟩ := e
      rw [updQ_same, List.pairwise_append]
      refine ⟨h.sorted _ _ hk' hl', by simp, fun y hy z hz => ?_⟩
      simp at hz; subst hz
      have := (h.mem _ _ y hk' hl').1 hy
      omega
    · rw [updQ_other _ _ e]; exact h.sorted _ _ hk' hl'
theorem LG.first (h : LG p lv pn gone Q) {k l x : Nat} {L : List Nat} (hk : k < 2) (hl : l < 8) (hq : Q k l = x :: L) : 1 ≤ x ∧ x ≤ p ∧ lv.getD (x - 1) 0 = l ∧ kOf (pn.getD (x - 1) false) = k ∧ gone.getD x false = false :=
  (h.mem k l x hk hl).1 (by rw [hq]; simp)
theorem LG.take (h : LG p lv pn gone Q) {k l x : Nat} {L : List Nat} (hk : k < 2) (hl : l < 8) (hq : Q k l = x :: L) : LG p lv pn (gone.set x true) (updQ Q k l L) := by
  obtain ⟨a1, a2, a3, a4, a5⟩ := h.first hk hl hq
  have hx : x < gone.length := by rw [h.lg]; have := h.p60; omega
  have hs := h.sorted k l hk hl
  rw [hq, List.pairwise_cons] at hs
  refine ⟨h.ll, h.lp, by simp [h.lg], h.p60, h.lvl, fun k' l' y hk' hl' => ?_, fun k' l' hk' hl' => ?_, fun y hy => ?_⟩
  · rw [getD_set' _ _ _ _ _ hx]
    have hm := h.mem k' l' y hk' hl'
    by_cases e : k' = k ∧ l' = l
    · obtain ⟨rfl, rfl⟩ := e
      rw [updQ_same]
      rw [hq] at hm
      constructor
      · intro hy
        have h1 := hs.1 y hy
        rw [if_neg (by omega)]
        exact hm.1 (List.mem_cons_of_mem _ hy)
      · rintro ⟨b1, b2, b3, b4, b5⟩
        by_cases c : y = x
        · rw [if_pos c] at b5; cases b5
        · rw [if_neg c] at b5
          rcases List.mem_cons.1 (hm.2 ⟨b1, b2, b3, b4, b5⟩) with d | d
          · exact absurd d c
          · exact d
    · rw [updQ_other _ _ e, hm]
      by_cases c : y = x
      · subst c
        constructor
        · rintro ⟨b1, b2, b3, b4, b5⟩; exact absurd ⟨b4.symm.trans a4, b3.symm.trans a3⟩ e
        · rintro ⟨b1, b2, b3, b4, b5⟩; rw [if_pos rfl] at b5; cases b5
      · rw [if_neg c]
  · by_cases e : k' = k ∧ l' = l
    · obtain ⟨rfl, rfl⟩ := e
      rw [updQ_same]; exact hs.2
    · rw [updQ_other _ _ e]; exact h.sorted _ _ hk' hl'
  · rw [getD_set' _ _ _ _ _ hx, if_neg (by omega)]; exact h.free y hy
/-- None that is not gone was to go ahead of it. -/
theorem LG.fair (h : LG p lv pn gone Q) {k l x : Nat} {L : List Nat} (hk : k < 2) (hl : l < 8) (hq : Q k l = x :: L) (hb : ∀ k' l', k' < 2 → l' < 8 → Q k' l' ≠ [] → l ≤ l') {j : Nat} (hj : j < p) (hg : (gone.set x true).getD (j + 1) false = false) :
    l ≤ lv.getD j 0 ∧ ¬ (lv.getD j 0 = l ∧ pn.getD j false = pn.getD (x - 1) false ∧ j + 1 < x) := by
  obtain ⟨a1, a2, a3, a4, a5⟩ := h.first hk hl hq
  have hx : x < gone.length := by rw [h.lg]; have := h.p60; omega
  rw [getD_set' _ _ _ _ _ hx] at hg
  by_cases c : j + 1 = x
  · rw [if_pos c] at hg; cases hg
  · rw [if_neg c] at hg
    have hm := (h.mem (kOf (pn.getD j false)) (lv.getD j 0) (j + 1) (by unfold kOf; split <;> omega) (h.lvl j hj)).2 ⟨by omega, by omega, rfl, rfl, hg⟩
    refine ⟨hb _ _ (by unfold kOf; split <;> omega) (h.lvl j hj) (List.ne_nil_of_mem hm), ?_⟩
    rintro ⟨b1, b2, b3⟩
    rw [b2, b1, a4, hq] at hm
    have hs := h.sorted k l hk hl
    rw [hq, List.pairwise_cons] at hs
    rcases List.mem_cons.1 hm with d | d
    · omega
    · have := hs.1 _ d; omega
theorem LG.all (h : LG p lv pn gone Q) (he : ∀ k l, k < 2 → l < 8 → Q k l = []) {j : Nat} (hj : j < p) : gone.getD (j + 1) false = true := by
  by_cases hg : gone.getD (j + 1) false = true
  · exact hg
  · have hm := (h.mem (kOf (pn.getD j false)) (lv.getD j 0) (j + 1) (by unfold kOf; split <;> omega) (h.lvl j hj)).2 ⟨by omega, by omega, rfl, rfl, by simpa using hg⟩
    rw [he _ _ (by unfold kOf; split <;> omega) (h.lvl j hj)] at hm
    simp at hm
end
end Bosun
