/- seat: the plain law of Spread. -/
import Derived.Test.YtalnokbfffhhnaaDoorSeat8
namespace Bosun
open Go
theorem and_all {s : Nat} (hs : s < 18446744073709551616) : s &&& allBelow 65 = s := by
  rw [allBelow_big (by decide), show (18446744073709551615 : Nat) = 2 ^ 64 - 1 from rfl, Nat.and_two_pow_sub_one_eq_mod]
  exact Nat.mod_eq_of_lt (by simpa using hs)
theorem lst_all {s : Nat} (hs : s < 18446744073709551616) : lst s 65 = members s := by unfold lst; rw [and_all hs]
theorem next_tgt {s : Nat} (hs : s < 18446744073709551616) {h : Int} (h0 : 0 ≤ h) (h1 : h ≤ 64) : nextI s h = rtgt (members s) 65 h := by
  have := next_is s 65 h hs
  rw [and_all hs, lst_all hs, show homeI 65 h = h by unfold homeI; rw [if_neg (by omega)]] at this
  exact this
theorem mod_next {p k : Nat} (hp : 0 < p) : (k + 1) % p = if k % p + 1 < p then k % p + 1 else 0 := by
  have hj := Nat.mod_lt k hp
  have e : k + 1 = p * (k / p) + (k % p + 1) := by have := Nat.div_add_mod k p; omega
  generalize k % p = j at *
  generalize k / p = q at *
  rw [e, Nat.mul_add_mod]
  split
  · rw [Nat.mod_eq_of_lt (by omega)]
  · rw [show j + 1 = p by omega, Nat.mod_self]
theorem div_next {p k : Nat} (hp : 0 < p) : (k + 1) / p = if k % p + 1 < p then k / p else k / p + 1 := by
  have hj := Nat.mod_lt k hp
  have e : k + 1 = p * (k / p) + (k % p + 1) := by have := Nat.div_add_mod k p; omega
  generalize k % p = j at *
  generalize k / p = q at *
  rw [e, Nat.mul_add_div hp]
  split
  · rw [Nat.div_eq_of_lt (by omega)]; rfl
  · rw [show j + 1 = p by omega, Nat.div_self hp]
theorem members_sorted (s : Nat) : (members s).Pairwise (· < ·) := by
  unfold members
  exact List.Pairwise.filter _ List.pairwise_lt_range
theorem lst_sorted' (m : Nat) (n : Int) : (lst m n).Pairwise (· < ·) := members_sorted _
/-- The k-th of a spread. -/
theorem next_at {s : Nat} (hs : s < 18446744073709551616) (hp : 0 < (members s).length) : ∀ k, nextI s (homeAt s k) = (((members s)[k % (members s).length]'(Nat.mod_lt _ hp) : Nat) : Int)
  | 0 => by
    rw [show homeAt s 0 = 0 from rfl, next_tgt hs (by omega) (by omega), rtgt_some (k := 0) (by omega) hp (by omega) (fun j _ h => by omega)]
    simp
  | k + 1 => by
    have ih := next_at hs hp k
    have hr := homeAt_range s (k + 1)
    rw [next_tgt hs hr.1 hr.2]
    have e : homeAt s (k + 1) = nextI s (homeAt s k) + 1 := rfl
    rw [e, ih]
    have hso := members_sorted s
    have hj : k % (members s).length < (members s).length := Nat.mod_lt _ hp
    have hm := @mod_next _ k hp
    have hr' : 0 ≤ ((((members s)[k % (members s).length]'hj) : Nat) : Int) + 1 ∧ ((((members s)[k % (members s).length]'hj) : Nat) : Int) + 1 < 65 := by rw [← ih, ← e]; omega
    by_cases hlt : k % (members s).length + 1 < (members s).length
    · rw [if_pos hlt] at hm
      have hlt2 := List.pairwise_iff_getElem.1 hso _ _ hj hlt (by omega)
      rw [rtgt_some (k := k % (members s).length + 1) (by omega) hlt (by omega) (fun i hi hik => by
        by_cases h : i = k % (members s).length
        · subst h; omega
        · have := List.pairwise_iff_getElem.1 hso i _ hi hj (by omega); omega)]
      simp only [hm]
    · rw [if_neg hlt] at hm
      rw [rtgt_none hp (fun i hi _ _ => by
        by_cases h : i = k % (members s).length
        · subst h; omega
        · have := List.pairwise_iff_getElem.1 hso i _ hi hj (by omega); omega)]
      simp only [hm]
/-- A spread, of the list. -/
def sprN (L : List Nat) (c : Nat) : List Nat := if L.length = 0 then [] else (List.range c).map fun k => L.getD (k % L.length) 0
theorem spr_is {s : Nat} (hs : s < 18446744073709551616) (c : Nat) : spr s c = (sprN (members s) c).map fun i => ((i : Nat) : Int) := by
  unfold spr sprN
  by_cases h : s = 0
  · have : (members s).length = 0 := by rw [(members_nil_iff hs).2 h]; rfl
    rw [if_pos h, if_pos this]; rfl
  · have hp : 0 < (members s).length := List.length_pos_iff.2 (fun e => h ((members_nil_iff hs).1 e))
    rw [if_neg h, if_neg (by omega), List.map_map]
    refine List.map_congr_left fun k _ => ?_
    have hj : k % (members s).length < (members s).length := Nat.mod_lt _ hp
    rw [next_at hs hp k]
    simp [List.getD, hj]
theorem sprN_len {L : List Nat} (h : 0 < L.length) (c : Nat) : (sprN L c).length = c := by unfold sprN; rw [if_neg (by omega)]; simp
theorem sprN_nil (c : Nat) : sprN [] c = [] := rfl
theorem sprN_snoc {L : List Nat} (h : 0 < L.length) (c : Nat) : sprN L (c + 1) = sprN L c ++ [L[c % L.length]'(Nat.mod_lt _ h)] := by
  have hj : c % L.length < L.length := Nat.mod_lt _ h
  unfold sprN
  rw [if_neg (by omega), if_neg (by omega), List.range_succ, List.map_append]
  simp [List.getD, hj]
theorem sprN_mem {L : List Nat} {c a : Nat} (h : a ∈ sprN L c) : a ∈ L := by
  unfold sprN at h
  split at h
  · simp at h
  · obtain ⟨k, _, rfl⟩ := List.mem_map.1 h
    have hj : k % L.length < L.length := Nat.mod_lt _ (by omega)
    simp [List.getD, hj]
theorem sorted_inj {L : List Nat} (hs : L.Pairwise (· < ·)) {i j : Nat} (hi : i < L.length) (hj : j < L.length) : (L[i] = L[j]) ↔ i = j := by
  constructor
  · intro h
    rcases Nat.lt_trichotomy i j with hl | hl | hl
    · have := List.pairwise_iff_getElem.1 hs i j hi hj hl; omega
    · exact hl
    · have := List.pairwise_iff_getElem.1 hs j i hj hi hl; omega
  · intro h; subst h; rfl
/-- How often one comes. -/
theorem sprN_count {L : List Nat} (hs : L.Pairwise (· < ·)) {j : Nat} (hj : j < L.length) : ∀ c, (sprN L c).count L[j] = c / L.length + if j < c % L.length then 1 else 0
  | 0 => by
    rw [Nat.zero_div, Nat.zero_mod, if_neg (by omega)]
    unfold sprN; rw [if_neg (by omega)]; rfl
  | c + 1 => by
    have hp : 0 < L.length := by omega
    have hc : c % L.length < L.length := Nat.mod_lt _ hp
    rw [sprN_snoc hp, List.count_append, sprN_count hs hj c, @mod_next _ c hp, @div_next _ c hp, List.count_singleton]
    have hi := sorted_inj hs hc hj
    by_cases he : c % L.length = j
    · have h1 : (L[c % L.length] == L[j]) = true := by rw [beq_iff_eq]; exact hi.2 he
      rw [h1]
      clear h1 hi
      generalize c % L.length = r at *
      generalize c / L.length = q at *
      generalize L.length = p at *
      simp only [if_true]
      repeat (first | split | omega)
    · have h1 : (L[c % L.length] == L[j]) = false := by rw [beq_eq_false_iff_ne]; exact fun e => he (hi.1 e)
      rw [h1]
      clear h1 hi
      generalize c % L.length = r at *
      generalize c / L.length = q at *
      generalize L.length = p at *
      simp only [Bool.false_eq_true, if_false]
      repeat (first | split | omega)
theorem sprN_even {L : List Nat} (hs : L.Pairwise (· < ·)) {j : Nat} (hj : j < L.length) (c : Nat) : (sprN L c).count L[j] ≤ (sprN L c).count (L[0]'(by omega)) ∧ (sprN L c).count (L[0]'(by omega)) ≤ (sprN L c).count L[j] + 1 := by
  rw [sprN_count hs hj c, sprN_count hs (show 0 < L.length by omega) c]
  generalize c % L.length = r
  generalize c / L.length = q
  constructor <;> repeat (first | split | omega)
/-- A row of 64 numbers, as cells. -/
def natRow (f : Nat → Nat) : Array Value := ((List.range 64).map fun i => Value.int .i64 ((f i : Nat) : Int)).toArray
theorem natRow_size (f : Nat → Nat) : (natRow f).size = 64 := by simp [natRow]
theorem natRow_get (f : Nat → Nat) {j : Nat} (h : j < 64) : (natRow f)[j]? = some (.int .i64 ((f j : Nat) : Int)) := by simp [natRow, h]
theorem natRow_zero : Array.replicate 64 (Value.int .i64 0) = natRow fun _ => 0 := by rfl
theorem natRow_set (f : Nat → Nat) (k x : Nat) : (natRow f).setIfInBounds k (.int .i64 ((x : Nat) : Int)) = natRow (fun j => if j = k then x else f j) := by
  apply Array.ext
  · simp [natRow]
  · intro i h1 h2
    simp only [natRow_size, Array.size_setIfInBounds] at h1
    rw [Array.getElem_setIfInBounds (by simpa [natRow_size] using h1)]
    simp only [natRow, List.getElem_toArray, List.getElem_map, List.getElem_range]
    by_cases h : k = i
    · subst h; simp
    · rw [if_neg h, if_neg (Ne.symm h)]
theorem count_take (l : List Nat) {k : Nat} (h : k < l.length) (x : Nat) : (l.take (k + 1)).count x = (l.take k).count x + if x = l[k] then 1 else 0 := by
  rw [List.take_succ_eq_append_getElem h, List.count_append, List.count_singleton]
  by_cases e : x = l[k]
  · subst e; simp
  · have : (l[k] == x) = false := by rw [beq_eq_false_iff_ne]; exact fun h => e h.symm
    rw [this, if_neg e]; simp
theorem natRow_count (l : List Nat) {k : Nat} (h : k < l.length) : (natRow fun x => (l.take k).count x).setIfInBounds l[k] (.int .i64 (((l.take k).count l[k] + 1 : Nat) : Int)) = natRow fun x => (l.take (k + 1)).count x := by
  rw [natRow_set]
  congr 1
  funext x
  rw [count_take l h x]
  by_cases e : x = l[k]
  · subst e; simp
  · simp [e]
end Bosun
