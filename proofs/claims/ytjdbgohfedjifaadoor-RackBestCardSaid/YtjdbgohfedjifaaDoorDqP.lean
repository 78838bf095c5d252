/- A deque's works, plainly: what each step makes of a work and of the words. No program in sight. -/
import Derived.Test.YtjdbgohfedjifaaDoorMem1
namespace Bosun
open Go
/-- How far one number is ahead of another one. -/
def ahd (a b : Nat) : Int := IntKind.i64.wrap ((a : Int) - (b : Int))
def add1 (k : Nat) : Nat := (k + 1) % 18446744073709551616
def sub1 (k : Nat) : Nat := (k + 18446744073709551615) % 18446744073709551616
theorem add1_lt (k : Nat) : add1 k < 18446744073709551616 := Nat.mod_lt _ (by omega)
theorem sub1_lt (k : Nat) : sub1 k < 18446744073709551616 := Nat.mod_lt _ (by omega)
/-- The address of a number's place. -/
def plc (base : Int) (cap k : Nat) : Int := base + 2 + ((k % cap : Nat) : Int)
/-- How many places there are. -/
def Pow2 (c : Nat) : Prop := ∃ j, j ≤ 8 ∧ c = 2 ^ j
theorem Pow2.cases {c : Nat} (h : Pow2 c) : c = 1 ∨ c = 2 ∨ c = 4 ∨ c = 8 ∨ c = 16 ∨ c = 32 ∨ c = 64 ∨ c = 128 ∨ c = 256 := by
  obtain ⟨j, hj, rfl⟩ := h
  match j, hj with
  | 0, _ | 1, _ | 2, _ | 3, _ | 4, _ | 5, _ | 6, _ | 7, _ | 8, _ => simp
theorem Pow2.le {c : Nat} (h : Pow2 c) : 1 ≤ c ∧ c ≤ 256 := by rcases h.cases with rfl | rfl | rfl | rfl | rfl | rfl | rfl | rfl | rfl <;> omega
/-- A work: kind 0 a push, 1 a pop, 2 a steal. -/
structure DOp where
  base : Int
  cap : Nat
  kind : Nat
  steps : Nat
  b : Nat
  t : Nat
  x : Nat
  won : Bool
  done : Bool
  err : Int
def stepD (o : DOp) (W : List Nat) (u : Nat) : DOp × List Nat × Nat :=
  if o.done then (o, W, u) else
  match o.kind, o.steps with
  | 0, 0 => ({ o with steps := 1, b := getA W (o.base + 1) }, W, tick W (o.base + 1) u)
  | 0, 1 => (if (o.cap : Int) ≤ ahd o.b (getA W o.base) then { o with steps := 2, t := getA W o.base, done := true, err := 6 } else { o with steps := 2, t := getA W o.base }, W, tick W o.base u)
  | 0, 2 => ({ o with steps := 3 }, setA W (plc o.base o.cap o.b) o.x, tick W (plc o.base o.cap o.b) u)
  | 0, _ => ({ o with steps := 4, done := true, err := 0 }, setA W (o.base + 1) (add1 o.b), tick W (o.base + 1) u)
  | 1, 0 => ({ o with steps := 1, b := sub1 (getA W (o.base + 1)) }, W, tick W (o.base + 1) u)
  | 1, 1 => ({ o with steps := 2 }, setA W (o.base + 1) o.b, tick W (o.base + 1) u)
  | 1, 2 => ({ o with steps := 3, t := getA W o.base }, W, tick W o.base u)
  | 1, 3 => if 0 < ahd o.t o.b then ({ o with steps := 4, done := true, err := 7 }, setA W (o.base + 1) o.t, tick W (o.base + 1) u)
    else (if 0 < ahd o.b o.t then { o with steps := 4, x := getA W (plc o.base o.cap o.b), done := true, err := 0 } else { o with steps := 4, x := getA W (plc o.base o.cap o.b) }, W, tick W (plc o.base o.cap o.b) u)
  | 1, 4 => ({ o with steps := 5, won := wins W o.base o.t }, if wins W o.base o.t then setA W o.base (add1 o.t) else W, tick W o.base u)
  | 1, _ => ({ o with steps := 6, done := true, err := if o.won then 0 else 7 }, setA W (o.base + 1) (add1 o.t), tick W (o.base + 1) u)
  | _, 0 => ({ o with steps := 1, t := getA W o.base }, W, tick W o.base u)
  | _, 1 => (if ahd (getA W (o.base + 1)) o.t ≤ 0 then { o with steps := 2, b := getA W (o.base + 1), done := true, err := 7 } else { o with steps := 2, b := getA W (o.base + 1) }, W, tick W (o.base + 1) u)
  | _, 2 => ({ o with steps := 3, x := getA W (plc o.base o.cap o.t) }, W, tick W (plc o.base o.cap o.t) u)
  | _, _ => ({ o with steps := 4, done := true, err := if wins W o.base o.t then 0 else 8 }, if wins W o.base o.t then setA W o.base (add1 o.t) else W, tick W o.base u)
/-- What is so of every work. -/
structure OkOp (o : DOp) : Prop where
  kind : o.kind ≤ 2
  steps : o.done = false → o.steps < (if o.kind = 1 then 6 else 4)
  err : o.done = false → o.err = 0
  cap : Pow2 o.cap
  b0 : -100 ≤ o.base
  b1 : o.base ≤ 1000000
  b : o.b < 18446744073709551616
  t : o.t < 18446744073709551616
  x : o.x < 18446744073709551616
  e0 : 0 ≤ o.err
  e1 : o.err ≤ 15
  s : o.steps ≤ 6
/-- A new work. -/
def newD (base : Int) (cap kind x : Nat) : DOp := ⟨base, cap, kind, 0, 0, 0, x, false, false, 0⟩
theorem OkOp.new {base : Int} {cap kind x : Nat} (h0 : -100 ≤ base) (h1 : base ≤ 1000000) (hc : Pow2 cap) (hk : kind ≤ 2) (hx : x < 18446744073709551616) : OkOp (newD base cap kind x) :=
  ⟨hk, fun _ => by show 0 < _; split <;> omega, fun _ => rfl, hc, h0, h1, by show 0 < _; omega, by show 0 < _; omega, hx, by show (0 : Int) ≤ 0; omega, by show (0 : Int) ≤ 15; omega, by show 0 ≤ 6; omega⟩
def resD (o : DOp) : Nat × Int := if o.done = false then (0, 14) else if o.err ≠ 0 then (0, o.err) else (o.x, 0)
end Bosun
