/- A rack's works, plainly: what each step makes of a rack, of a work and of the words. No program in sight. -/
import Derived.Test.YtjdbgohfedjifaaDoorDqA
import Derived.Test.YtjdbgohfedjifaaDoorBs
namespace Bosun
open Go
/-- A rack, as its owner knows it. -/
structure RRack where
  base : Int
  cap : Nat
  s0 : Nat
  s1 : Nat
  turn : Nat
def RRack.at (r : RRack) (k l : Nat) : Int := r.base + 1 + (((8 * k + l) * (2 + r.cap) : Nat) : Int)
def RRack.set (r : RRack) (k : Nat) : Nat := if k = 0 then r.s0 else r.s1
def RRack.put (r : RRack) (k s : Nat) : RRack := if k = 0 then { r with s0 := s } else { r with s1 := s }
/-- The least number of a set; 8, if there is none below 8. -/
def leastTo (s : Nat) : Nat → Nat → Nat
  | 0, l => l
  | n + 1, l => if s.testBit l then l else leastTo s n (l + 1)
def bestR (r : RRack) : Nat := leastTo (r.s0 ||| r.s1) 8 0
/-- The greatest of a set's first eight. -/
def worstOf (s : Nat) : Option Nat := ((List.range 8).filter s.testBit).getLast?
/-- What a work does next. -/
inductive RNext where
  | pushing | signing | sweeping | asking | again | choosing | taking | emptying | reading | robbing | minding | worst | popping
  deriving DecidableEq
structure RWork where
  next : RNext
  x : Nat
  level : Nat
  kind : Nat
  op : Option DOp
  from_ : Nat
  swept : Nat
  full : Bool
  holds : Bool
  there : Bool
  sheds : Bool
  steps : Nat
  done : Bool
  err : Int
def RWork.end (w : RWork) (e : Int) : RWork := { w with done := true, err := e }
/-- The work's deque: a new work on it. -/
def opR (r : RRack) (w : RWork) (kind x : Nat) : DOp := newD (r.at w.kind w.level) r.cap kind x
/-- What a work's next function does. -/
def phaseR (good : Nat → Bool) (r : RRack) (w : RWork) (W : List Nat) (u : Nat) : RRack × RWork × List Nat × Nat :=
  let o := (w.op.getD (newD 0 1 0 0))
  match w.next with
  | .pushing =>
    let (o', W', u') := stepD o W u
    if o'.done = false then (r, { w with op := some o' }, W', u')
    else if o'.err = 6 then
      (if w.full then (r, { w with op := some o', done := true, err := 6 }, W', u')
       else (r, { w with full := true, from_ := o'.b, op := some (opR r w 2 0), next := .sweeping }, W', u'))
    else
      (if put (r.set w.kind) w.level true ≠ r.set w.kind ∧ w.kind = 0 then (r.put w.kind (put (r.set w.kind) w.level true), { w with op := some o', there := true, next := .signing }, W', u')
       else (r.put w.kind (put (r.set w.kind) w.level true), { w with op := some o', there := true, done := true, err := 0 }, W', u'))
  | .signing => (r, { w with done := true, err := 0 }, setA W r.base r.s0, tick W r.base u)
  | .sweeping =>
    let (o', W', u') := stepD o W u
    if (o'.steps = 1 ∧ ahd w.from_ o'.t ≤ 0) ∨ (resD o').2 = 7 then (r, { w with op := some (opR r w 0 w.x), next := .pushing }, W', u')
    else if (resD o').2 = 8 then (r, { w with op := some (opR r w 2 0) }, W', u')
    else if (resD o').2 = 0 then (r, { w with op := some o', swept := (resD o').1, holds := true, next := .asking }, W', u')
    else (r, { w with op := some o' }, W', u')
  | .asking =>
    if good w.swept then (r, { w with op := some (opR r w 0 w.swept), next := .again }, W, u)
    else (r, { w with holds := false, op := some (opR r w 2 0), next := .sweeping }, W, u)
  | .again =>
    let (o', W', u') := stepD o W u
    if o'.done then (r, { w with holds := false, op := some (opR r w 2 0), next := .sweeping }, W', u')
    else (r, { w with op := some o' }, W', u')
  | .choosing =>
    let l := bestR r
    if l = 8 then (r, { w with level := 8, done := true, err := 7 }, W, u)
    else
      let a := r.s0.testBit l
      let b := r.s1.testBit l
      let k := if a && b then r.turn else if b then 1 else w.kind
      let r' := if a && b then { r with turn := 1 - r.turn } else r
      let w' := { w with level := l, kind := k }
      (r', { w' with op := some (opR r w' 2 0), next := .taking }, W, u)
  | .taking =>
    let (o', W', u') := stepD o W u
    if o'.done = false then (r, { w with op := some o' }, W', u')
    else if (resD o').2 ≠ 7 then (r, { w with op := some o', x := (resD o').1, done := true, err := (resD o').2 }, W', u')
    else
      (if put (r.set w.kind) w.level false ≠ r.set w.kind ∧ w.kind = 0 then (r.put w.kind (put (r.set w.kind) w.level false), { w with op := some o', next := .emptying }, W', u')
       else (r.put w.kind (put (r.set w.kind) w.level false), { w with op := some o', done := true, err := 8 }, W', u'))
  | .emptying => (r, { w with done := true, err := 8 }, setA W r.base r.s0, tick W r.base u)
  | .reading =>
    let s := getA W r.base % 256
    if s = 0 then (r, { w with done := true, err := 7 }, W, tick W r.base u)
    else
      let w' := { w with level := leastTo s 8 0 }
      (r, { w' with op := some (opR r w' 2 0), next := .robbing }, W, tick W r.base u)
  | .robbing =>
    let (o', W', u') := stepD o W u
    if o'.done then (r, { w with op := some o', x := (resD o').1, done := true, err := (resD o').2 }, W', u')
    else if 3 ≤ o'.steps then (r, { w with op := some o', next := .minding }, W', u')
    else (r, { w with op := some o' }, W', u')
  | .minding =>
    if good o.x then (r, { w with next := .robbing }, W, u)
    else (r, { w with next := .robbing, done := true, err := 10 }, W, u)
  | .worst =>
    match worstOf r.s0 with
    | none => (r, { w with done := true, err := 7 }, W, u)
    | some l => let w' := { w with level := l }; (r, { w' with op := some (opR r w' 1 0), next := .popping }, W, u)
  | .popping =>
    let (o', W', u') := stepD o W u
    if o'.done then (r, { w with op := some o', x := (resD o').1, done := true, err := (resD o').2 }, W', u')
    else (r, { w with op := some o' }, W', u')
def stepR (good : Nat → Bool) (r : RRack) (w : RWork) (W : List Nat) (u : Nat) : RRack × RWork × List Nat × Nat :=
  if w.done then (r, w, W, u) else phaseR good r { w with steps := w.steps + 1 } W u
/-- What begins. -/
def putW (r : RRack) (x level : Nat) (pin : Bool) : RWork := ⟨.pushing, x, level, if pin then 1 else 0, some (newD (r.at (if pin then 1 else 0) level) r.cap 0 x), 0, 0, false, false, false, false, 0, false, 0⟩
def takeW : RWork := ⟨.choosing, 0, 0, 0, none, 0, 0, false, false, true, false, 0, false, 0⟩
def robW : RWork := ⟨.reading, 0, 0, 0, none, 0, 0, false, false, true, false, 0, false, 0⟩
def shedW : RWork := ⟨.worst, 0, 0, 0, none, 0, 0, false, false, true, true, 0, false, 0⟩
def resR (w : RWork) : Nat × Int × Int := if w.done = false then (0, 8, 14) else if w.err ≠ 0 then (0, 8, w.err) else (w.x, (w.level : Int), 0)
/-- So many steps. -/
def itR (good : Nat → Bool) : Nat → RRack × RWork × List Nat × Nat → RRack × RWork × List Nat × Nat
  | 0, s => s
  | n + 1, s => itR good n (stepR good s.1 s.2.1 s.2.2.1 s.2.2.2)
end Bosun
