/- Plain facts on orders that a number draws. No program in sight. -/
import Derived.Test.YtfmigdlkbnjnfaaDoorSets0
namespace Bosun

/-- The order that a number draws of what is left. -/
def orderN : Nat → Nat → List Nat → List Nat
  | 0, _, _ => []
  | n + 1, d, l => l.getD (d % (n + 1)) 0 :: orderN n (d / (n + 1)) (l.eraseIdx (d % (n + 1)))

theorem orderN_length (n : Nat) : ∀ (d : Nat) (l : List Nat), (orderN n d l).length = n := by
  induction n with
  | zero => intro d l; rfl
  | succ n ih => intro d l; simp [orderN, ih]
theorem getD_mem {l : List Nat} {i : Nat} (h : i < l.length) : l.getD i 0 ∈ l := by
  rw [List.getD_eq_getElem?_getD, List.getElem?_eq_getElem h]
  exact List.getElem_mem h
theorem mem_eraseIdx_or {l : List Nat} {i : Nat} (h : i < l.length) (j : Nat) : j ∈ l ↔ j = l.getD i 0 ∨ j ∈ l.eraseIdx i := by
  rw [List.getD_eq_getElem?_getD, List.getElem?_eq_getElem h]
  simp only [Option.getD_some]
  constructor
  · intro hj
    obtain ⟨t, ht, rfl⟩ := List.getElem_of_mem hj
    by_cases hti : t = i
    · subst hti; exact .inl rfl
    · right
      rw [List.mem_eraseIdx_iff_getElem]
      exact ⟨t, ht, fun e => hti e, rfl⟩
  · rintro (rfl | hj)
    · exact List.getElem_mem h
    · exact List.mem_of_mem_eraseIdx hj
theorem mem_orderN (n : Nat) : ∀ (d : Nat) (l : List Nat), l.length = n → ∀ j, j ∈ orderN n d l ↔ j ∈ l := by
  induction n with
  | zero =>
    intro d l hl j
    rw [List.eq_nil_of_length_eq_zero hl]
    simp [orderN]
  | succ n ih =>
    intro d l hl j
    have hq : d % (n + 1) < l.length := by rw [hl]; exact Nat.mod_lt _ (by omega)
    rw [orderN, List.mem_cons, ih _ _ (by rw [List.length_eraseIdx_of_lt hq, hl]; rfl), mem_eraseIdx_or hq]

def factorial : Nat → Nat
  | 0 => 1
  | n + 1 => (n + 1) * factorial n
theorem nodup_inj {l : List Nat} (h : l.Nodup) {i j : Nat} (hi : i < l.length) (hj : j < l.length) (e : l[i] = l[j]) : i = j := by
  have hp := List.pairwise_iff_getElem.1 h
  rcases Nat.lt_trichotomy i j with h1 | h1 | h1
  · exact absurd e (hp i j hi hj h1)
  · exact h1
  · exact absurd e.symm (hp j i hj hi h1)
theorem factorial_pos (n : Nat) : 0 < factorial n := by
  induction n with
  | zero => decide
  | succ n ih => exact Nat.mul_pos (by omega) ih
theorem factorial_mono {a b : Nat} (h : a ≤ b) : factorial a ≤ factorial b := by
  induction h with
  | refl => exact Nat.le_refl _
  | step _ ih => exact Nat.le_trans ih (Nat.le_mul_of_pos_left _ (by omega))
theorem factorial_20 : factorial 20 = 2432902008176640000 := by decide
theorem factorial_lt {k : Nat} (h : k ≤ 20) : factorial k ≤ 2432902008176640000 := by rw [← factorial_20]; exact factorial_mono h

theorem orderN_inj (n : Nat) : ∀ (x y : Nat) (l : List Nat), l.length = n → l.Nodup → x < factorial n → y < factorial n → orderN n x l = orderN n y l → x = y := by
  induction n with
  | zero => intro x y l _ _ hx hy _; simp [factorial] at hx hy; omega
  | succ n ih =>
    intro x y l hl hn hx hy h
    rw [orderN, orderN] at h
    injection h with h1 h2
    have hqx : x % (n + 1) < l.length := by rw [hl]; exact Nat.mod_lt _ (by omega)
    have hqy : y % (n + 1) < l.length := by rw [hl]; exact Nat.mod_lt _ (by omega)
    rw [List.getD_eq_getElem?_getD, List.getElem?_eq_getElem hqx, List.getD_eq_getElem?_getD, List.getElem?_eq_getElem hqy] at h1
    simp only [Option.getD_some] at h1
    have e : x % (n + 1) = y % (n + 1) := nodup_inj hn hqx hqy h1
    rw [← e] at h2
    have e2 := ih (x / (n + 1)) (y / (n + 1)) _ (by rw [List.length_eraseIdx_of_lt hqx, hl]; rfl) (hn.sublist (List.eraseIdx_sublist _ _))
      (Nat.div_lt_of_lt_mul (by rw [factorial] at hx; exact hx)) (Nat.div_lt_of_lt_mul (by rw [factorial] at hy; exact hy)) h2
    rw [← Nat.div_add_mod x (n + 1), ← Nat.div_add_mod y (n + 1), e, e2]

/-- The set of a list. -/
def setOf (l : List Nat) : Nat := l.foldl (fun s i => put s (i : Nat) true) 0
theorem setOf_bit (l : List Nat) : ∀ (s : Nat) (j : Nat), s < 18446744073709551616 → (∀ i ∈ l, i < 64) → (l.foldl (fun s i => put s (i : Nat) true) s).testBit j = (decide (j ∈ l) || s.testBit j) := by
  induction l with
  | nil => intro s j _ _; simp
  | cons a l ih =>
    intro s j hs h
    rw [List.foldl_cons, ih _ _ (put_lt _ _ _) (fun i hi => h i (List.mem_cons_of_mem _ hi)), put_testBit]
    have ha := h a (by simp)
    by_cases e : j = a
    · subst e; simp [ha]
    · rw [if_neg (by omega)]
      by_cases hj : j < 64
      · simp [hj, e]
      · have hb := bits_above hs (j := j) (by omega)
        simp [hj, e, hb]
theorem setOf_lt (l : List Nat) : setOf l < 18446744073709551616 := by
  unfold setOf
  rcases List.eq_nil_or_concat l with h | ⟨l', i, h⟩
  · rw [h]; decide
  · rw [h, List.concat_eq_append, List.foldl_append]; exact put_lt _ _ _
theorem setOf_all (l : List Nat) (c : Nat) (hc : c ≤ 64) (h : ∀ j, j ∈ l ↔ j < c) : setOf l = allBelow c := by
  apply Nat.eq_of_testBit_eq
  intro j
  rw [setOf, setOf_bit l 0 j (by decide) (fun i hi => by have := (h i).1 hi; omega), allBelow, ofBits_testBit]
  have := h j
  by_cases hj : j < c
  · simp [this.2 hj, hj]; omega
  · have h2 : j ∉ l := fun hm => hj (this.1 hm)
    simp [h2, hj]

theorem members_lt (s : Nat) : ∀ i ∈ members s, i < 64 := by
  intro i hi
  simp [members] at hi
  exact hi.1
theorem members_nodup (s : Nat) : (members s).Nodup := List.Pairwise.filter _ List.nodup_range
theorem members_all (c : Nat) (hc : c ≤ 64) : members (allBelow c) = List.range c := by
  have h64 : List.range 64 = List.range c ++ (List.range (64 - c)).map (c + ·) := by
    rw [← List.range_add]
    congr 1
    omega
  unfold members
  rw [h64, List.filter_append, List.filter_eq_self.2, List.filter_eq_nil_iff.2, List.append_nil]
  · intro j hj
    simp at hj
    obtain ⟨t, _, rfl⟩ := hj
    simp [allBelow, ofBits_testBit] <;> omega
  · intro j hj
    simp at hj
    simp [allBelow, ofBits_testBit] <;> omega
theorem filter_ne_eraseIdx (l : List Nat) : ∀ (q : Nat) (hq : q < l.length), l.Nodup → l.filter (fun j => decide (j ≠ l[q])) = l.eraseIdx q := by
  induction l with
  | nil => intro q hq; simp at hq
  | cons a l ih =>
    intro q hq hn
    rw [List.nodup_cons] at hn
    cases q with
    | zero =>
      simp only [List.getElem_cons_zero, List.eraseIdx_cons_zero]
      rw [List.filter_cons, if_neg (by simp), List.filter_eq_self.2]
      intro j hj
      simp
      intro e
      exact hn.1 (e ▸ hj)
    | succ q =>
      have hq' : q < l.length := by simpa using hq
      simp only [List.getElem_cons_succ, List.eraseIdx_cons_succ]
      rw [List.filter_cons, if_pos, ih q hq' hn.2]
      simp
      intro e
      exact hn.1 (e ▸ List.getElem_mem hq')
theorem members_erase (s q : Nat) (hq : q < (members s).length) : members (put s ((members s).getD q 0 : Nat) false) = (members s).eraseIdx q := by
  rw [← filter_ne_eraseIdx _ q hq (members_nodup s), List.getD_eq_getElem?_getD, List.getElem?_eq_getElem hq]
  simp only [Option.getD_some]
  generalize (members s)[q] = a
  unfold members
  rw [List.filter_filter]
  refine List.filter_congr fun j hj => ?_
  have hj : j < 64 := by simpa using hj
  rw [put_testBit]
  by_cases e : j = a
  · subst e; simp
  · rw [if_neg (by omega)]; simp [e, hj]
theorem members_nil {s : Nat} (hs : s < 18446744073709551616) : (members s).length = 0 ↔ s = 0 := by
  constructor
  · intro h
    have h := List.eq_nil_of_length_eq_zero h
    apply Nat.eq_of_testBit_eq
    intro j
    by_cases hj : j < 64
    · have := List.filter_eq_nil_iff.1 h j (by simpa using hj)
      simpa using this
    · rw [bits_above hs (by omega)]; simp
  · rintro rfl
    simp [members]
end Bosun
