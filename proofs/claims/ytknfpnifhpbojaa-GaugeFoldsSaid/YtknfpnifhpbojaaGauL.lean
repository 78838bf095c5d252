/- The lightest of many, totals and averages of many, plainly. No program in sight. -/
import Derived.Test.YtknfpnifhpbojaaGauO
import Derived.Test.YtknfpnifhpbojaaBase
namespace Bosun
open Go
def fls (l : List Nat) : List Value := l.map (Value.float .f64)
theorem fls_len (l : List Nat) : (fls l).length = l.length := by simp [fls]
theorem fls_get (l : List Nat) {j : Nat} (h : j < l.length) : (fls l)[j]? = some (.float .f64 l[j]) := by simp [fls, h]
/-- Of the first k numbers the first lightest one. -/
def lightTo (l : List Nat) (k : Nat) (a : Int) : Prop :=
  (k = 0 ∧ a = -1) ∨ ∃ j : Nat, a = j ∧ j < k ∧ (∀ i, i < k → kx (l.getD j 0) ≤ kx (l.getD i 0)) ∧ ∀ i, i < j → kx (l.getD j 0) < kx (l.getD i 0)
theorem light_first (l : List Nat) : lightTo l 1 0 := .inr ⟨0, rfl, by omega, fun i hi => by obtain rfl : i = 0 := by omega
                                                                                             exact Int.le_refl _, fun i hi => by omega⟩
theorem light_new {l : List Nat} {k j : Nat} (h : lightTo l k j) (hx : kx (l.getD k 0) < kx (l.getD j 0)) : lightTo l (k + 1) k := by
  rcases h with ⟨_, h⟩ | ⟨j', h1, h2, h3, h4⟩
  · omega
  · obtain rfl : j = j' := by omega
    refine .inr ⟨k, rfl, by omega, fun i hi => ?_, fun i hi => ?_⟩
    · by_cases h5 : i = k
      · subst h5; exact Int.le_refl _
      · have := h3 i (by omega); omega
    · have := h3 i hi; omega
theorem light_keep {l : List Nat} {k j : Nat} (h : lightTo l k j) (hx : ¬ kx (l.getD k 0) < kx (l.getD j 0)) : lightTo l (k + 1) j := by
  rcases h with ⟨_, h⟩ | ⟨j', h1, h2, h3, h4⟩
  · omega
  · obtain rfl : j = j' := by omega
    refine .inr ⟨j, rfl, by omega, fun i hi => ?_, h4⟩
    by_cases h5 : i = k
    · subst h5; omega
    · exact h3 i (by omega)
theorem light_ex (l : List Nat) : ∀ k, ∃ a, lightTo l k a
  | 0 => ⟨-1, .inl ⟨rfl, rfl⟩⟩
  | k + 1 => by
    obtain ⟨a, h⟩ := light_ex l k
    rcases h with ⟨rfl, h⟩ | ⟨j, rfl, h⟩
    · exact ⟨0, light_first l⟩
    · by_cases hx : kx (l.getD k 0) < kx (l.getD j 0)
      · exact ⟨k, light_new (.inr ⟨j, rfl, h⟩) hx⟩
      · exact ⟨j, light_keep (.inr ⟨j, rfl, h⟩) hx⟩
theorem light_uniq {l : List Nat} {k : Nat} {a b : Int} (h : lightTo l k a) (h' : lightTo l k b) : a = b := by
  rcases h with ⟨rfl, rfl⟩ | ⟨j, rfl, h2, h3, h4⟩ <;> rcases h' with ⟨h5, h6⟩ | ⟨i, h5, h6, h7, h8⟩
  · exact h6.symm
  · omega
  · omega
  · subst h5
    rcases Nat.lt_trichotomy i j with h | h | h
    · have a := h4 i h
      have b := h7 j h2
      omega
    · rw [h]
    · have a := h8 j h
      have b := h3 i h6
      omega
/-- What the definition finds. -/
theorem light_of {l : List Nat} {j : Nat} (hj : j < l.length) (h1 : ∀ i, i < l.length → kx (l.getD j 0) ≤ kx (l.getD i 0)) (h2 : ∀ i, i < j → ¬ ∀ k, k < l.length → kx (l.getD i 0) ≤ kx (l.getD k 0)) : lightTo l l.length j := by
  refine .inr ⟨j, rfl, hj, h1, fun i hi => ?_⟩
  refine Int.lt_of_not_ge fun hge => h2 i hi fun k hk => ?_
  have := h1 k hk
  omega
theorem light_none {l : List Nat} (h2 : ∀ i, i < l.length → ¬ ∀ k, k < l.length → kx (l.getD i 0) ≤ kx (l.getD k 0)) : lightTo l l.length (-1) := by
  obtain ⟨a, h⟩ := light_ex l l.length
  rcases h with ⟨h, rfl⟩ | ⟨j, rfl, h3, h4, _⟩
  · exact .inl ⟨h, rfl⟩
  · exact absurd h4 (h2 j h3)
theorem getD_get {l : List Nat} {j : Nat} (h : j < l.length) : l.getD j 0 = l[j] := by simp [List.getD, h]
/-- A total; an average of many. -/
def totF (s x : Nat) : Nat := if loadB x then tellW ((Ieee.double.add s x).getD 0) else s
def totW (l : List Nat) : Nat := l.foldl totF 0
def foldW (keep : Nat) (l : List Nat) : Nat := l.foldl (fun s x => mixW s x keep) 0
theorem totW_snoc (l : List Nat) (x : Nat) : totW (l ++ [x]) = totF (totW l) x := by simp [totW]
theorem foldW_snoc (keep : Nat) (l : List Nat) (x : Nat) : foldW keep (l ++ [x]) = mixW (foldW keep l) x keep := by simp [foldW]
theorem zero_load : loadB 0 = true := by decide
theorem totF_load {s x : Nat} (hs : loadB s = true) : loadB (totF s x) = true := by
  unfold totF
  split
  · exact tellW_load
  · exact hs
theorem totW_load (l : List Nat) : loadB (totW l) = true := by
  have : ∀ (l : List Nat) (s : Nat), loadB s = true → loadB (l.foldl totF s) = true := by
    intro l
    induction l with
    | nil => intro s h; exact h
    | cons x l ih => intro s h; exact ih _ (totF_load h)
  exact this l 0 zero_load
theorem foldW_load (keep : Nat) (l : List Nat) : loadB (foldW keep l) = true := by
  have : ∀ (l : List Nat) (s : Nat), loadB s = true → loadB (l.foldl (fun s x => mixW s x keep) s) = true := by
    intro l
    induction l with
    | nil => intro s h; exact h
    | cons x l ih => intro s h; exact ih _ (mixW_load _ _ _)
  exact this l 0 zero_load
theorem load_lt {x : Nat} (h : loadB x = true) : x < 18446744073709551616 := by rcases load_cases h with h | h <;> omega
theorem tot_parts {s x : Nat} (hs : loadB s = true) (hx : loadB x = true) : ∃ r, Ieee.double.add s x = some r ∧ nnB r = true ∧ totF s x = tellW r := by
  obtain ⟨r, h1, h2, _⟩ := add_load hs hx
  exact ⟨r, h1, h2, by unfold totF; rw [if_pos hx, h1]; rfl⟩
theorem tot_no {s x : Nat} (hx : loadB x = false) : totF s x = s := by unfold totF; rw [hx]; rfl
end Bosun
