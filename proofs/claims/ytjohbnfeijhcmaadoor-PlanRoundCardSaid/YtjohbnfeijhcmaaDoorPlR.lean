/- plan: scripts that go round, plainly. -/
import Derived.Test.YtjohbnfeijhcmaaDoorPlG
namespace Bosun
def rndE (n : Nat) (q : Int) (i : Nat) : Ent := ⟨((i % n : Nat) : Int), decide (0 < q ∧ ((i / n + 1 : Nat) : Int) % q = 0), i + 1⟩
def rnd (n s : Nat) (q : Int) : List Ent := (List.range s).map (rndE n q)
theorem rnd_len (n s : Nat) (q : Int) : (rnd n s q).length = s := by simp [rnd]
theorem rnd_get (n s : Nat) (q : Int) {i : Nat} (h : i < s) : (rnd n s q)[i]? = some (rndE n q i) := by simp [rnd, h]
theorem rnd_succ (n s : Nat) (q : Int) : rnd n (s + 1) q = rnd n s q ++ [rndE n q s] := by simp [rnd, List.range_succ]
theorem rnd_mem {n s : Nat} {q : Int} {e : Ent} (h : e ∈ rnd n s q) : ∃ i, i < s ∧ e = rndE n q i := by
  obtain ⟨i, hi, rfl⟩ := List.mem_map.1 h
  exact ⟨i, by simpa using hi, rfl⟩
theorem rnd_isGap {n s : Nat} (q : Int) (h1 : 1 ≤ n) (hs : n ≤ s) : IsGap (rnd n s q) n n := by
  refine ⟨h1, by rw [rnd_len]; omega, fun w hw hwl => ?_⟩
  rw [rnd_len] at hwl
  constructor
  · rintro ⟨a, c, h2, h3, h4⟩
    rw [rnd_len] at h2
    refine Nat.lt_of_not_le fun hnw => h4 ?_
    -- the place behind a at which c stands
    have hr : a % n < n := Nat.mod_lt _ (by omega)
    have hdm := Nat.div_add_mod a n
    by_cases hc : a % n ≤ c
    · refine ⟨n * (a / n) + c, _, by omega, by omega, rnd_get n s q (by omega), ?_⟩
      show ((((n * (a / n) + c) % n : Nat)) : Int) = c
      rw [Nat.mul_add_mod, Nat.mod_eq_of_lt h3]
    · refine ⟨n * (a / n) + n + c, _, by omega, by omega, rnd_get n s q (by omega), ?_⟩
      show ((((n * (a / n) + n + c) % n : Nat)) : Int) = c
      rw [show n * (a / n) + n + c = n * (a / n + 1) + c by rw [Nat.mul_add]; omega, Nat.mul_add_mod, Nat.mod_eq_of_lt h3]
  · intro hwn
    refine ⟨0, w, by rw [rnd_len]; omega, hwn, ?_⟩
    rintro ⟨k, e, h2, h3, h4, h5⟩
    rw [rnd_get n s q (by omega)] at h4
    simp at h4; subst h4
    have : ((k % n : Nat) : Int) = (w : Int) := h5
    rw [Nat.mod_eq_of_lt (by omega)] at this
    omega
/-- How many of the first s are c's. -/
def cnt (n s c : Nat) : Nat := s / n + if c < s % n then 1 else 0
theorem own_rnd (n : Nat) (q : Int) (h1 : 1 ≤ n) {c : Nat} (hc : c < n) : ∀ s, ownC (rnd n s q) c = (List.range (cnt n s c)).map fun j => rndE n q (n * j + c)
  | 0 => by simp [cnt, rnd, ownC]
  | s + 1 => by
    have ih := own_rnd n q h1 hc s
    have hr : s % n < n := Nat.mod_lt _ (by omega)
    have hdm := Nat.div_add_mod s n
    obtain ⟨a, ha⟩ : ∃ a, a = s / n := ⟨_, rfl⟩
    obtain ⟨r, hr2⟩ : ∃ r, r = s % n := ⟨_, rfl⟩
    have e0 : ownC (rnd n (s + 1) q) c = ownC (rnd n s q) c ++ (if r = c then [rndE n q s] else []) := by
      unfold ownC
      rw [rnd_succ, List.filter_append]
      congr 1
      have : (rndE n q s).cpu = (r : Int) := by show ((s % n : Nat) : Int) = r; rw [hr2]
      by_cases h : r = c
      · rw [if_pos h]; simp [this, h]
      · rw [if_neg h]; simp [this]; omega
    have c0 : cnt n s c = a + if c < r then 1 else 0 := by unfold cnt; rw [← ha, ← hr2]
    have c1 : cnt n (s + 1) c = cnt n s c + if r = c then 1 else 0 := by
      rw [c0]
      unfold cnt
      rw [← ha, ← hr2] at hdm
      rw [← hr2] at hr
      rw [show s + 1 = n * a + (r + 1) by omega, Nat.mul_add_div (by omega), Nat.mul_add_mod]
      by_cases hl : r + 1 < n
      · rw [Nat.div_eq_of_lt hl, Nat.mod_eq_of_lt hl]
        split <;> split <;> split <;> omega
      · obtain rfl : n = r + 1 := by omega
        rw [Nat.div_self (by omega), Nat.mod_self]
        split <;> split <;> split <;> omega
    rw [e0, ih, c1]
    by_cases h : r = c
    · rw [if_pos h, if_pos h, List.range_succ, List.map_append]
      congr 1
      have : cnt n s c = a := by rw [c0, if_neg (by omega)]; omega
      simp only [List.map_cons, List.map_nil]
      rw [this, ha, ← h, hr2, hdm]
    · rw [if_neg h, if_neg h, List.append_nil, Nat.add_zero]
theorem own_tick {n s c j Q : Nat} {e : Ent} (h1 : 1 ≤ n) (hc : c < n) (hQ : 1 ≤ Q) (h : (ownC (rnd n s Q) c)[j]? = some e) : (e.tick = true ↔ (j + 1) % Q = 0) := by
  rw [own_rnd n Q h1 hc s] at h
  have hj : j < cnt n s c := by have := (List.getElem?_eq_some_iff.1 h).1; simpa using this
  simp [hj] at h
  subst h
  show decide (0 < (Q : Int) ∧ (((n * j + c) / n + 1 : Nat) : Int) % Q = 0) = true ↔ _
  rw [Nat.mul_add_div (by omega), Nat.div_eq_of_lt hc, Nat.add_zero, decide_eq_true_iff]
  constructor
  · rintro ⟨_, h⟩; exact_mod_cast h
  · intro h; exact ⟨by omega, by exact_mod_cast h⟩
theorem rnd_isBeat {n s Q : Nat} (h1 : 1 ≤ n) (hQ : 1 ≤ Q) (hown : Q ≤ (s + n - 1) / n) : IsBeat (rnd n s Q) n Q := by
  refine ⟨hQ, fun p hp => ?_⟩
  constructor
  · rintro ⟨c, hc, a, h2, h3⟩
    refine Nat.lt_of_not_le fun hQp => h3 ?_
    have hr : a % Q < Q := Nat.mod_lt _ (by omega)
    have hdm := Nat.div_add_mod a Q
    have hm : Q * (a / Q + 1) = Q * (a / Q) + Q := by rw [Nat.mul_add, Nat.mul_one]
    have hlt : Q * (a / Q + 1) - 1 < (ownC (rnd n s Q) c).length := by omega
    refine ⟨Q * (a / Q + 1) - 1, _, by omega, by omega, List.getElem?_eq_getElem hlt, ?_⟩
    rw [own_tick h1 hc hQ (List.getElem?_eq_getElem hlt), show Q * (a / Q + 1) - 1 + 1 = Q * (a / Q + 1) by omega, Nat.mul_mod_right]
  · intro hpQ
    have hlen : (ownC (rnd n s Q) 0).length = cnt n s 0 := by rw [own_rnd n Q h1 (by omega)]; simp
    have hcnt : Q ≤ cnt n s 0 := by
      unfold cnt
      have hr : s % n < n := Nat.mod_lt _ (by omega)
      have hdm := Nat.div_add_mod s n
      obtain ⟨a, ha⟩ : ∃ a, a = s / n := ⟨_, rfl⟩
      obtain ⟨r, hr2⟩ : ∃ r, r = s % n := ⟨_, rfl⟩
      rw [← ha, ← hr2] at hdm ⊢
      rw [← hr2] at hr
      rw [show s + n - 1 = n * a + (r + n - 1) by omega, Nat.mul_add_div (by omega)] at hown
      by_cases h0 : 0 < r
      · rw [if_pos h0]
        have : (r + n - 1) / n ≤ 1 := by
          have : (r + n - 1) / n < 2 := Nat.div_lt_of_lt_mul (by omega)
          omega
        omega
      · obtain rfl : r = 0 := by omega
        rw [Nat.div_eq_of_lt (by omega)] at hown
        omega
    refine ⟨0, by omega, 0, by omega, ?_⟩
    rintro ⟨k, e, h2, h3, h4, h5⟩
    have := (own_tick h1 (by omega) hQ h4).1 h5
    rw [Nat.mod_eq_of_lt (by omega)] at this
    omega
end Bosun
