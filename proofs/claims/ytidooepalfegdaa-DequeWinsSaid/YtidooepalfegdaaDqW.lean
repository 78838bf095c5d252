/- Of thieves that saw the same top one wins, plainly. -/
import Derived.Test.YtidooepalfegdaaDq7
import Derived.Test.YtidooepalfegdaaDqS
namespace Bosun
open Go
/-- The words: top 0, bottom n, the first n words. -/
structure PW (W : List Nat) (ws : List Nat) (n : Nat) : Prop where
  top : getA W (0 : Nat) = 0
  bot : getA W (1 : Nat) = n
  place : ∀ i, i < n → getA W ((2 + i : Nat) : Int) = ws.getD i 0
  len : W.length = 260
theorem ahd_small {a : Nat} (h : a < 1000000) : ahd a 0 = a := by unfold ahd; rw [IntKind.wrap_i64]; omega
theorem plc256 {a : Nat} (h : a < 256) : plc 0 256 a = ((2 + a : Nat) : Int) := by unfold plc; omega
theorem stA (x b t : Nat) (W : List Nat) (u : Nat) : stepD ⟨0, 256, 0, 0, b, t, x, false, false, 0⟩ W u = (⟨0, 256, 0, 1, getA W (1 : Nat), t, x, false, false, 0⟩, W, tick W (1 : Nat) u) := rfl
theorem stB (x b t : Nat) (W : List Nat) (u : Nat) : stepD ⟨0, 256, 0, 1, b, t, x, false, false, 0⟩ W u = ((if ((256 : Nat) : Int) ≤ ahd b (getA W 0) then ⟨0, 256, 0, 2, b, getA W 0, x, false, true, 6⟩ else ⟨0, 256, 0, 2, b, getA W 0, x, false, false, 0⟩), W, tick W 0 u) := rfl
theorem stC (x b t : Nat) (W : List Nat) (u : Nat) : stepD ⟨0, 256, 0, 2, b, t, x, false, false, 0⟩ W u = (⟨0, 256, 0, 3, b, t, x, false, false, 0⟩, setA W (plc 0 256 b) x, tick W (plc 0 256 b) u) := rfl
theorem stD (x b t : Nat) (W : List Nat) (u : Nat) : stepD ⟨0, 256, 0, 3, b, t, x, false, false, 0⟩ W u = (⟨0, 256, 0, 4, b, t, x, false, true, 0⟩, setA W (1 : Nat) (add1 b), tick W (1 : Nat) u) := rfl
/-- A push of the next word. -/
theorem push_next {W ws : List Nat} {n x : Nat} (h : PW W ws n) (hn : n < 200) (hx : ws.getD n 0 = x) (u : Nat) : (itD 8 (newD 0 256 0 x, W, u)).1.done = true ∧ PW (itD 8 (newD 0 256 0 x, W, u)).2.1 ws (n + 1) := by
  have e : itD 8 (newD 0 256 0 x, W, u) = (⟨0, 256, 0, 4, n, 0, x, false, true, 0⟩, setA (setA W ((2 + n : Nat) : Int) x) (1 : Nat) (n + 1), tick (setA W ((2 + n : Nat) : Int) x) (1 : Nat) (tick W ((2 + n : Nat) : Int) (tick W 0 (tick W (1 : Nat) u)))) := by
    unfold newD
    rw [show (8 : Nat) = 7 + 1 from rfl, itD]
    rw [stA, h.bot, show (7 : Nat) = 6 + 1 from rfl, itD]
    dsimp only
    rw [stB, show getA W 0 = 0 from h.top, ahd_small (by omega), if_neg (by omega), show (6 : Nat) = 5 + 1 from rfl, itD]
    dsimp only
    rw [stC, plc256 (by omega), show (5 : Nat) = 4 + 1 from rfl, itD]
    dsimp only
    rw [stD, show add1 n = n + 1 from by unfold add1; omega, itD_done rfl]
  rw [e]
  refine ⟨rfl, ?_⟩
  have l1 := h.len
  refine ⟨?_, ?_, fun i hi => ?_, by rw [setA_length, setA_length]; exact l1⟩
  · rw [getA_setA_other (by omega), getA_setA_other (by omega)]; exact h.top
  · rw [getA_setA_same (by rw [setA_length]; omega)]
  · rw [getA_setA_other (by omega)]
    by_cases hin : i = n
    · subst hin; rw [getA_setA_same (by omega)]; exact hx.symm
    · rw [getA_setA_other (by omega)]; exact h.place i (by omega)
/-- A thief that made three steps. -/
def th3 (n x : Nat) : DOp := if n = 0 then ⟨0, 256, 2, 2, 0, 0, 0, false, true, 7⟩ else ⟨0, 256, 2, 3, n, 0, x, false, false, 0⟩
theorem tA (W : List Nat) (u : Nat) : stepD (newD 0 256 2 0) W u = (⟨0, 256, 2, 1, 0, getA W 0, 0, false, false, 0⟩, W, tick W 0 u) := rfl
theorem tB (b t : Nat) (W : List Nat) (u : Nat) : stepD ⟨0, 256, 2, 1, b, t, 0, false, false, 0⟩ W u = ((if ahd (getA W (1 : Nat)) t ≤ 0 then ⟨0, 256, 2, 2, getA W (1 : Nat), t, 0, false, true, 7⟩ else ⟨0, 256, 2, 2, getA W (1 : Nat), t, 0, false, false, 0⟩), W, tick W (1 : Nat) u) := rfl
theorem tC (b t : Nat) (W : List Nat) (u : Nat) : stepD ⟨0, 256, 2, 2, b, t, 0, false, false, 0⟩ W u = (⟨0, 256, 2, 3, b, t, getA W (plc 0 256 t), false, false, 0⟩, W, tick W (plc 0 256 t) u) := rfl
theorem tD (b x : Nat) (W : List Nat) (u : Nat) : stepD ⟨0, 256, 2, 3, b, 0, x, false, false, 0⟩ W u = (⟨0, 256, 2, 4, b, 0, x, false, true, if wins W 0 0 then 0 else 8⟩, if wins W 0 0 then setA W 0 (add1 0) else W, tick W 0 u) := rfl
/-- A thief behind so many of its first three steps. -/
def thk (n x : Nat) : Nat → DOp
  | 0 => newD 0 256 2 0
  | 1 => ⟨0, 256, 2, 1, 0, 0, 0, false, false, 0⟩
  | 2 => if n = 0 then ⟨0, 256, 2, 2, 0, 0, 0, false, true, 7⟩ else ⟨0, 256, 2, 2, n, 0, 0, false, false, 0⟩
  | _ => th3 n x
theorem thk_step {W ws : List Nat} {n : Nat} (h : PW W ws n) (hn : n < 200) {k : Nat} (hk : k < 3) (u : Nat) : (stepD (thk n (ws.getD 0 0) k) W u).1 = thk n (ws.getD 0 0) (k + 1) ∧ (stepD (thk n (ws.getD 0 0) k) W u).2.1 = W := by
  have t0 : getA W 0 = 0 := h.top
  match k, hk with
  | 0, _ =>
    show (stepD (newD 0 256 2 0) W u).1 = ⟨0, 256, 2, 1, 0, 0, 0, false, false, 0⟩ ∧ _
    rw [tA, t0]; exact ⟨rfl, rfl⟩
  | 1, _ =>
    show (stepD ⟨0, 256, 2, 1, 0, 0, 0, false, false, 0⟩ W u).1 = (if n = 0 then _ else _) ∧ (stepD ⟨0, 256, 2, 1, 0, 0, 0, false, false, 0⟩ W u).2.1 = W
    rw [tB, h.bot, ahd_small (by omega)]
    by_cases h0 : n = 0
    · rw [if_pos (by omega), if_pos h0]; subst h0; exact ⟨rfl, rfl⟩
    · rw [if_neg (by omega), if_neg h0]; exact ⟨rfl, rfl⟩
  | 2, _ =>
    show (stepD (if n = 0 then _ else _) W u).1 = th3 n (ws.getD 0 0) ∧ (stepD (if n = 0 then _ else _) W u).2.1 = W
    unfold th3
    by_cases h0 : n = 0
    · rw [if_pos h0, if_pos h0]; exact ⟨rfl, rfl⟩
    · rw [if_neg h0, if_neg h0, tC, plc256 (by omega), h.place 0 (by omega)]; exact ⟨rfl, rfl⟩
/-- A thief behind its fourth step: the one that won, one that did not. -/
def th4 (n x : Nat) (won : Bool) : DOp := ⟨0, 256, 2, 4, n, 0, x, false, true, if won then 0 else 8⟩
theorem wins_iff (W : List Nat) (h : W.length = 260) : wins W 0 0 = decide (getA W 0 = 0) := by
  unfold wins
  rw [show hasA W 0 = true from hasA_iff.2 ⟨by omega, by omega⟩]
  simp
theorem th_fourth {W : List Nat} (hl : W.length = 260) {n : Nat} (hn : n ≠ 0) (x u : Nat) :
    (stepD (th3 n x) W u).1 = th4 n x (decide (getA W 0 = 0)) ∧ (stepD (th3 n x) W u).2.1.length = 260 ∧ getA (stepD (th3 n x) W u).2.1 0 = (if getA W 0 = 0 then 1 else getA W 0) := by
  unfold th3
  rw [if_neg hn, tD, wins_iff W hl]
  unfold th4
  by_cases h0 : getA W 0 = 0
  · rw [decide_eq_true h0, if_pos h0]
    refine ⟨rfl, ?_, ?_⟩
    · show (if true = true then setA W ((0 : Nat) : Int) (add1 0) else W).length = 260
      rw [if_pos rfl, setA_length]; exact hl
    · show getA (if true = true then setA W ((0 : Nat) : Int) (add1 0) else W) ((0 : Nat) : Int) = 1
      rw [if_pos rfl, getA_setA_same (by omega)]; rfl
  · rw [decide_eq_false h0, if_neg h0]
    exact ⟨rfl, hl, rfl⟩
theorem okTh (n x k : Nat) (hn : n < 200) (hx : x < 18446744073709551616) : OkOp (thk n x k) := by
  have p : Pow2 256 := ⟨8, by omega, rfl⟩
  have e3 : OkOp (th3 n x) := by
    unfold th3
    split
    · exact okMk (by decide) (fun h => by cases h) (fun h => by cases h) p (by omega) (by omega) (by omega) (by omega) (by omega) (by decide) (by decide) (by decide)
    · exact okMk (by decide) (fun _ => by decide) (fun _ => rfl) p (by omega) (by omega) (by omega) (by omega) hx (by decide) (by decide) (by decide)
  match k with
  | 0 => exact OkOp.new (by omega) (by omega) p (by omega) (by omega)
  | 1 => exact okMk (by decide) (fun _ => by decide) (fun _ => rfl) p (by omega) (by omega) (by omega) (by omega) (by omega) (by decide) (by decide) (by decide)
  | 2 =>
    show OkOp (if n = 0 then _ else _)
    split
    · exact okMk (by decide) (fun h => by cases h) (fun h => by cases h) p (by omega) (by omega) (by omega) (by omega) (by omega) (by decide) (by decide) (by decide)
    · exact okMk (by decide) (fun _ => by decide) (fun _ => rfl) p (by omega) (by omega) (by omega) (by omega) (by omega) (by decide) (by decide) (by decide)
  | _ + 3 => exact e3
theorem PW.start (ws : List Nat) : PW (List.replicate 260 0) ws 0 := by
  have hz : ∀ k : Nat, k < 260 → getA (List.replicate 260 0) k = 0 := fun k hk => by rw [getA_yes (by rw [List.length_replicate]; exact hk), List.getElem_replicate]
  exact ⟨hz 0 (by omega), hz 1 (by omega), fun i hi => by omega, by rw [List.length_replicate]⟩
end Bosun
