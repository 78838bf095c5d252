/- rack: a deque that one works on alone, plainly: a queue. No program in sight. -/
import Derived.Test.YtjdbgohfedjifaaDoorRk0
namespace Bosun
open Go
theorem gs_same {W : List Nat} {k : Nat} (h : k < W.length) (x : Nat) : getA (setA W k x) k = x := by
  rw [setA_yes h, getA_yes (by simpa using h)]; simp
theorem gs_other {W : List Nat} {k j : Int} (h : k ≠ j) (x : Nat) : getA (setA W k x) j = getA W j := by
  by_cases hk : hasA W k = true
  · obtain ⟨k0, k1⟩ := hasA_iff.1 hk
    obtain ⟨k', rfl⟩ := Int.eq_ofNat_of_zero_le k0
    rw [setA_yes (by omega)]
    by_cases hj : hasA W j = true
    · obtain ⟨j0, j1⟩ := hasA_iff.1 hj
      obtain ⟨j', rfl⟩ := Int.eq_ofNat_of_zero_le j0
      rw [getA_yes (W := W) (k := j') (by omega), getA_yes (W := W.set k' x) (k := j') (by rw [List.length_set]; omega), List.getElem_set, if_neg (by omega)]
    · have hj' : hasA W j = false := by simpa using hj
      rw [getA_no hj', getA_no (by unfold hasA at hj' ⊢; rw [List.length_set]; exact hj')]
  · rw [setA_no (by simpa using hk)]
theorem ahd_diff {a b : Nat} (ha : a < 1000000) (hb : b < 1000000) : ahd a b = (a : Int) - (b : Int) := by unfold ahd; rw [IntKind.wrap_i64]; omega
theorem plcN (B cap k : Nat) : plc (B : Int) cap k = ((B + 2 + k % cap : Nat) : Int) := by unfold plc; push_cast; rfl
/-- A deque at B: its top is t, its words L. -/
structure SQ (W : List Nat) (B cap t : Nat) (L : List Nat) : Prop where
  top : getA W (B : Nat) = t
  bot : getA W ((B : Int) + 1) = t + L.length
  at_ : ∀ j (h : j < L.length), getA W ((B + 2 + (t + j) % cap : Nat) : Int) = L[j]
  fits : L.length ≤ cap
  len : B + 2 + cap ≤ W.length
  small : t + L.length < 100000
  cap0 : 0 < cap
  cap1 : cap ≤ 256
theorem modne {t cap i j : Nat} (hi : i < j) (hj : j - i < cap) : (t + i) % cap ≠ (t + j) % cap := by
  intro h
  have h4 := Nat.sub_mod_eq_zero_of_mod_eq h.symm
  rw [show t + j - (t + i) = j - i from by omega, Nat.mod_eq_of_lt hj] at h4
  omega
section
variable {W : List Nat} {B cap t : Nat} {L : List Nat}
/-- What stands elsewhere does not matter. -/
theorem SQ.keep {W' : List Nat} (h : SQ W B cap t L) (hl : W'.length = W.length) (hk : ∀ a : Int, (B : Int) ≤ a → a < (B + 2 + cap : Nat) → getA W' a = getA W a) : SQ W' B cap t L := by
  refine ⟨?_, ?_, fun j hj => ?_, h.fits, by rw [hl]; exact h.len, h.small, h.cap0, h.cap1⟩
  · rw [hk _ (by omega) (by omega)]; exact h.top
  · rw [hk _ (by omega) (by omega)]; exact h.bot
  · have := Nat.mod_lt (t + j) h.cap0
    rw [hk _ (by omega) (by omega)]; exact h.at_ j hj
/-- The word is laid, and the bottom behind it. -/
theorem SQ.push (h : SQ W B cap t L) (hf : L.length < cap) (x : Nat) (hs : t + L.length < 99999) :
    SQ (setA (setA W (plc (B : Int) cap (t + L.length)) x) ((B : Int) + 1) (t + L.length + 1)) B cap t (L ++ [x]) := by
  have h1 := h.len
  have hm := Nat.mod_lt (t + L.length) h.cap0
  rw [plcN]
  have e1 : ((B : Int) + 1) = ((B + 1 : Nat) : Int) := by omega
  rw [e1]
  refine ⟨?_, ?_, fun j hj => ?_, by simp; omega, by rw [setA_length, setA_length]; exact h1, by simp; omega, h.cap0, h.cap1⟩
  · rw [gs_other (by omega), gs_other (by omega)]; exact h.top
  · rw [e1, gs_same (by rw [setA_length]; omega)]; simp; omega
  · have hmj := Nat.mod_lt (t + j) h.cap0
    rw [gs_other (by omega)]
    by_cases hjl : j < L.length
    · rw [gs_other (by have := modne (t := t) (cap := cap) hjl (by omega); omega), List.getElem_append_left hjl]; exact h.at_ j hjl
    · obtain rfl : j = L.length := by simp at hj; omega
      rw [gs_same (by omega)]; simp
/-- The first word goes. -/
theorem SQ.steal {x : Nat} (h : SQ W B cap t (x :: L)) : SQ (setA W (B : Nat) (t + 1)) B cap (t + 1) L := by
  have h1 := h.len
  have h2 := h.small
  have h3 := h.fits
  simp at h2 h3
  refine ⟨?_, ?_, fun j hj => ?_, by omega, by rw [setA_length]; exact h1, by omega, h.cap0, h.cap1⟩
  · rw [gs_same (by omega)]
  · rw [gs_other (by omega)]; have := h.bot; simp at this; rw [this]; omega
  · have := Nat.mod_lt (t + 1 + j) h.cap0
    rw [gs_other (by omega)]
    have := h.at_ (j + 1) (by simp; exact hj)
    rw [show t + (j + 1) = t + 1 + j from by omega] at this
    rw [this]; simp
theorem SQ.head {x : Nat} (h : SQ W B cap t (x :: L)) : getA W (plc (B : Int) cap t) = x := by
  rw [plcN]; have := h.at_ 0 (by simp); simpa using this
theorem wins_sq (h : SQ W B cap t L) : wins W (B : Nat) t = true := by
  have h1 := h.len
  unfold wins
  rw [hasA_yes (by omega), h.top]
  simp
end
/-- The steps of a push. -/
theorem pu0 (B : Int) (cap x : Nat) (W : List Nat) (u : Nat) : stepD (newD B cap 0 x) W u = (⟨B, cap, 0, 1, getA W (B + 1), 0, x, false, false, 0⟩, W, tick W (B + 1) u) := rfl
theorem pu1 (B : Int) (cap x b t : Nat) (W : List Nat) (u : Nat) : stepD ⟨B, cap, 0, 1, b, t, x, false, false, 0⟩ W u = ((if (cap : Int) ≤ ahd b (getA W B) then ⟨B, cap, 0, 2, b, getA W B, x, false, true, 6⟩ else ⟨B, cap, 0, 2, b, getA W B, x, false, false, 0⟩), W, tick W B u) := rfl
theorem pu2 (B : Int) (cap x b t : Nat) (W : List Nat) (u : Nat) : stepD ⟨B, cap, 0, 2, b, t, x, false, false, 0⟩ W u = (⟨B, cap, 0, 3, b, t, x, false, false, 0⟩, setA W (plc B cap b) x, tick W (plc B cap b) u) := rfl
theorem pu3 (B : Int) (cap x b t : Nat) (W : List Nat) (u : Nat) : stepD ⟨B, cap, 0, 3, b, t, x, false, false, 0⟩ W u = (⟨B, cap, 0, 4, b, t, x, false, true, 0⟩, setA W (B + 1) (add1 b), tick W (B + 1) u) := rfl
/-- The steps of a steal. -/
theorem sl0 (B : Int) (cap : Nat) (W : List Nat) (u : Nat) : stepD (newD B cap 2 0) W u = (⟨B, cap, 2, 1, 0, getA W B, 0, false, false, 0⟩, W, tick W B u) := rfl
theorem sl1 (B : Int) (cap b t : Nat) (W : List Nat) (u : Nat) : stepD ⟨B, cap, 2, 1, b, t, 0, false, false, 0⟩ W u = ((if ahd (getA W (B + 1)) t ≤ 0 then ⟨B, cap, 2, 2, getA W (B + 1), t, 0, false, true, 7⟩ else ⟨B, cap, 2, 2, getA W (B + 1), t, 0, false, false, 0⟩), W, tick W (B + 1) u) := rfl
theorem sl2 (B : Int) (cap b t : Nat) (W : List Nat) (u : Nat) : stepD ⟨B, cap, 2, 2, b, t, 0, false, false, 0⟩ W u = (⟨B, cap, 2, 3, b, t, getA W (plc B cap t), false, false, 0⟩, W, tick W (plc B cap t) u) := rfl
theorem sl3 (B : Int) (cap b t x : Nat) (W : List Nat) (u : Nat) : stepD ⟨B, cap, 2, 3, b, t, x, false, false, 0⟩ W u = (⟨B, cap, 2, 4, b, t, x, false, true, if wins W B t then 0 else 8⟩, if wins W B t then setA W B (add1 t) else W, tick W B u) := rfl
end Bosun
