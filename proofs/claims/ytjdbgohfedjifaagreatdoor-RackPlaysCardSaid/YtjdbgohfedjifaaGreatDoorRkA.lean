/- sets: With, Without (as XSet4 has them). -/
import Derived.Test.YtjdbgohfedjifaaGreatDoorSt
import Derived.Deep.QuietTactic
import Derived.BigQuiet
import Derived.Test.YtjdbgohfedjifaaGreatDoorDqA
import Derived.Test.YtjdbgohfedjifaaGreatDoorBs
import Derived.Test.YtjdbgohfedjifaaGreatDoorDq6
import Derived.Deep.RegionHeld3
import Derived.BigRegion
import Derived.Deep.DeepCutAuto
namespace Bosun
open Go
theorem bitN_testBit (i : Int) (j : Nat) : (bitN i).testBit j = (decide (j < 64) && decide ((j : Int) = i)) := by
  unfold bitN
  by_cases h : 0 ≤ i ∧ i < 64
  · rw [if_pos h, Nat.testBit_two_pow]
    by_cases e : (j : Int) = i
    · simp [e]; omega
    · have : ¬ i.toNat = j := by omega
      simp [e, this]
  · rw [if_neg h, Nat.zero_testBit]
    symm
    simp; omega
theorem or_bit {s : Nat} (hs : s < 18446744073709551616) (i : Int) : s ||| bitN i = put s i true := by
  apply Nat.eq_of_testBit_eq
  intro j
  rw [Nat.testBit_or, bitN_testBit, put_testBit]
  by_cases hj : j < 64
  · by_cases e : (j : Int) = i <;> simp [hj, e]
  · simp [hj, bits_above hs (show 64 ≤ j by omega)]
theorem andNot_bit {s : Nat} (hs : s < 18446744073709551616) (i : Int) : s &&& (18446744073709551615 - bitN i) = put s i false := by
  have hb : bitN i < 2 ^ 64 := by simpa using bitN_lt i
  apply Nat.eq_of_testBit_eq
  intro j
  rw [Nat.testBit_and, show 18446744073709551615 - bitN i = 2 ^ 64 - (bitN i + 1) from by omega, Nat.testBit_two_pow_sub_succ hb, bitN_testBit, put_testBit]
  by_cases hj : j < 64
  · by_cases e : (j : Int) = i <;> simp [hj, e]
  · simp [hj]
theorem members_fold_lt (l : List Int) : l.foldl (fun s i => put s i true) 0 < 18446744073709551616 := by
  rcases List.eq_nil_or_concat l with h | ⟨l', i, h⟩
  · rw [h]; decide
  · rw [h, List.concat_eq_append, List.foldl_append]; exact put_lt _ _ _
end Bosun
namespace Go.Proofs.YtjdbgohfedjifaaGreatDoor
open Go.RowKit Bosun
theorem with_any (s : Nat) (hs : s < 18446744073709551616) (i : Int) (h0 : -9223372036854775808 ≤ i) (h1 : i ≤ 9223372036854775807) (w : World) :
    Calls Tryz.prog 121 #[.int .u64 (s : Nat), .int .i64 i] w fun e w' => e = .returned (.int .u64 (put s i true : Nat)) ∧ w = w' := by
  have HB := Lib.hid (fun w => bit_any i h0 h1 w)
  have hl := bitN_lt i
  rw [← or_bit hs i]
  obtain ⟨z, hz⟩ : ∃ z, z = bitN i := ⟨_, rfl⟩
  rw [← hz] at HB hl ⊢
  have r1 : bits .or .u64 (s : Int) (z : Int) = ((s ||| z : Nat) : Int) := bits_or_u64_nat _ _ hs hl
  obtain ⟨y, hy⟩ : ∃ y, y = s ||| z := ⟨_, rfl⟩
  rw [← hy] at r1 ⊢
  clear hz hy
  go_enter Tryz.func121, Tryz.ntmps121
  go_wp2_with (go_at_call 106; refine (HB.out _).mono ?_; rintro e w2 ⟨rfl, rfl⟩)
  go_ret
  exact ⟨rfl, rfl⟩
theorem without_any (s : Nat) (hs : s < 18446744073709551616) (i : Int) (h0 : -9223372036854775808 ≤ i) (h1 : i ≤ 9223372036854775807) (w : World) :
    Calls Tryz.prog 120 #[.int .u64 (s : Nat), .int .i64 i] w fun e w' => e = .returned (.int .u64 (put s i false : Nat)) ∧ w = w' := by
  have HB := Lib.hid (fun w => bit_any i h0 h1 w)
  have hl := bitN_lt i
  have hp := andNot_bit hs i
  obtain ⟨y, hy⟩ : ∃ y, y = put s i false := ⟨_, rfl⟩
  rw [← hy] at hp ⊢
  obtain ⟨z, hz⟩ : ∃ z, z = bitN i := ⟨_, rfl⟩
  rw [← hz] at HB hl hp
  have r1 : bits .andNot .u64 (s : Int) (z : Int) = (y : Nat) := by rw [u64_andNot_nat _ _ hs hl, hp]
  clear hz hy hp
  go_enter Tryz.func120, Tryz.ntmps120
  go_wp2_with (go_at_call 106; refine (HB.out _).mono ?_; rintro e w2 ⟨rfl, rfl⟩)
  go_ret
  exact ⟨rfl, rfl⟩
end Go.Proofs.YtjdbgohfedjifaaGreatDoor

/- A rack's works, plainly: what each step makes of a rack, of a work and of the words. No program in sight. -/
namespace Bosun
open Go
/-- A rack, as its owner knows it. -/
structure RRack where
  base : Int
  cap : Nat
  s0 : Nat
  s1 : Nat
  turn : Nat
def RRack.at (r : RRack) (k l : Nat) : Int := r.base + 1 + (((8 * k + l) * (2 + r.cap) : Nat) : Int)
def RRack.set (r : RRack) (k : Nat) : Nat := if k = 0 then r.s0 else r.s1
def RRack.put (r : RRack) (k s : Nat) : RRack := if k = 0 then { r with s0 := s } else { r with s1 := s }
/-- The least number of a set; 8, if there is none below 8. -/
def leastTo (s : Nat) : Nat → Nat → Nat
  | 0, l => l
  | n + 1, l => if s.testBit l then l else leastTo s n (l + 1)
def bestR (r : RRack) : Nat := leastTo (r.s0 ||| r.s1) 8 0
/-- The greatest of a set's first eight. -/
def worstOf (s : Nat) : Option Nat := ((List.range 8).filter s.testBit).getLast?
/-- What a work does next. -/
inductive RNext where
  | pushing | signing | sweeping | asking | again | choosing | taking | emptying | reading | robbing | minding | worst | popping
  deriving DecidableEq
structure RWork where
  next : RNext
  x : Nat
  level : Nat
  kind : Nat
  op : Option DOp
  from_ : Nat
  swept : Nat
  full : Bool
  holds : Bool
  there : Bool
  sheds : Bool
  steps : Nat
  done : Bool
  err : Int
def RWork.end (w : RWork) (e : Int) : RWork := { w with done := true, err := e }
/-- The work's deque: a new work on it. -/
def opR (r : RRack) (w : RWork) (kind x : Nat) : DOp := newD (r.at w.kind w.level) r.cap kind x
/-- What a work's next function does. -/
def phaseR (good : Nat → Bool) (r : RRack) (w : RWork) (W : List Nat) (u : Nat) : RRack × RWork × List Nat × Nat :=
  let o := (w.op.getD (newD 0 1 0 0))
  match w.next with
  | .pushing =>
    let (o', W', u') := stepD o W u
    if o'.done = false then (r, { w with op := some o' }, W', u')
    else if o'.err = 6 then
      (if w.full then (r, { w with op := some o', done := true, err := 6 }, W', u')
       else (r, { w with full := true, from_ := o'.b, op := some (opR r w 2 0), next := .sweeping }, W', u'))
    else
      (if put (r.set w.kind) w.level true ≠ r.set w.kind ∧ w.kind = 0 then (r.put w.kind (put (r.set w.kind) w.level true), { w with op := some o', there := true, next := .signing }, W', u')
       else (r.put w.kind (put (r.set w.kind) w.level true), { w with op := some o', there := true, done := true, err := 0 }, W', u'))
  | .signing => (r, { w with done := true, err := 0 }, setA W r.base r.s0, tick W r.base u)
  | .sweeping =>
    let (o', W', u') := stepD o W u
    if (o'.steps = 1 ∧ ahd w.from_ o'.t ≤ 0) ∨ (resD o').2 = 7 then (r, { w with op := some (opR r w 0 w.x), next := .pushing }, W', u')
    else if (resD o').2 = 8 then (r, { w with op := some (opR r w 2 0) }, W', u')
    else if (resD o').2 = 0 then (r, { w with op := some o', swept := (resD o').1, holds := true, next := .asking }, W', u')
    else (r, { w with op := some o' }, W', u')
  | .asking =>
    if good w.swept then (r, { w with op := some (opR r w 0 w.swept), next := .again }, W, u)
    else (r, { w with holds := false, op := some (opR r w 2 0), next := .sweeping }, W, u)
  | .again =>
    let (o', W', u') := stepD o W u
    if o'.done then (r, { w with holds := false, op := some (opR r w 2 0), next := .sweeping }, W', u')
    else (r, { w with op := some o' }, W', u')
  | .choosing =>
    let l := bestR r
    if l = 8 then (r, { w with level := 8, done := true, err := 7 }, W, u)
    else
      let a := r.s0.testBit l
      let b := r.s1.testBit l
      let k := if a && b then r.turn else if b then 1 else w.kind
      let r' := if a && b then { r with turn := 1 - r.turn } else r
      let w' := { w with level := l, kind := k }
      (r', { w' with op := some (opR r w' 2 0), next := .taking }, W, u)
  | .taking =>
    let (o', W', u') := stepD o W u
    if o'.done = false then (r, { w with op := some o' }, W', u')
    else if (resD o').2 ≠ 7 then (r, { w with op := some o', x := (resD o').1, done := true, err := (resD o').2 }, W', u')
    else
      (if put (r.set w.kind) w.level false ≠ r.set w.kind ∧ w.kind = 0 then (r.put w.kind (put (r.set w.kind) w.level false), { w with op := some o', next := .emptying }, W', u')
       else (r.put w.kind (put (r.set w.kind) w.level false), { w with op := some o', done := true, err := 8 }, W', u'))
  | .emptying => (r, { w with done := true, err := 8 }, setA W r.base r.s0, tick W r.base u)
  | .reading =>
    let s := getA W r.base % 256
    if s = 0 then (r, { w with done := true, err := 7 }, W, tick W r.base u)
    else
      let w' := { w with level := leastTo s 8 0 }
      (r, { w' with op := some (opR r w' 2 0), next := .robbing }, W, tick W r.base u)
  | .robbing =>
    let (o', W', u') := stepD o W u
    if o'.done then (r, { w with op := some o', x := (resD o').1, done := true, err := (resD o').2 }, W', u')
    else if 3 ≤ o'.steps then (r, { w with op := some o', next := .minding }, W', u')
    else (r, { w with op := some o' }, W', u')
  | .minding =>
    if good o.x then (r, { w with next := .robbing }, W, u)
    else (r, { w with next := .robbing, done := true, err := 10 }, W, u)
  | .worst =>
    match worstOf r.s0 with
    | none => (r, { w with done := true, err := 7 }, W, u)
    | some l => let w' := { w with level := l }; (r, { w' with op := some (opR r w' 1 0), next := .popping }, W, u)
  | .popping =>
    let (o', W', u') := stepD o W u
    if o'.done then (r, { w with op := some o', x := (resD o').1, done := true, err := (resD o').2 }, W', u')
    else (r, { w with op := some o' }, W', u')
def stepR (good : Nat → Bool) (r : RRack) (w : RWork) (W : List Nat) (u : Nat) : RRack × RWork × List Nat × Nat :=
  if w.done then (r, w, W, u) else phaseR good r { w with steps := w.steps + 1 } W u
/-- What begins. -/
def putW (r : RRack) (x level : Nat) (pin : Bool) : RWork := ⟨.pushing, x, level, if pin then 1 else 0, some (newD (r.at (if pin then 1 else 0) level) r.cap 0 x), 0, 0, false, false, false, false, 0, false, 0⟩
def takeW : RWork := ⟨.choosing, 0, 0, 0, none, 0, 0, false, false, true, false, 0, false, 0⟩
def robW : RWork := ⟨.reading, 0, 0, 0, none, 0, 0, false, false, true, false, 0, false, 0⟩
def shedW : RWork := ⟨.worst, 0, 0, 0, none, 0, 0, false, false, true, true, 0, false, 0⟩
def resR (w : RWork) : Nat × Int × Int := if w.done = false then (0, 8, 14) else if w.err ≠ 0 then (0, 8, w.err) else (w.x, (w.level : Int), 0)
/-- So many steps. -/
def itR (good : Nat → Bool) : Nat → RRack × RWork × List Nat × Nat → RRack × RWork × List Nat × Nat
  | 0, s => s
  | n + 1, s => itR good n (stepR good s.1 s.2.1 s.2.2.1 s.2.2.2)
end Bosun

/- rack: a rack's and a work's cells; end, sign, the work's deque, mark. -/
namespace Bosun
open Go
/-- A rack's cells. -/
def rackCell (r : RRack) (i : Nat) : Value :=
  if i = 0 then .int .i64 r.base else if i < 33 then (if (i - 1) % 2 = 0 then .int .i64 (r.at ((i - 1) / 16) ((i - 1) / 2 % 8)) else .int .i64 (r.cap : Nat))
  else if i = 33 then .int .u64 (r.s0 : Nat) else if i = 34 then .int .u64 (r.s1 : Nat) else .int .i64 (r.turn : Nat)
def rackRow (r : RRack) : Array Value := ((List.range 36).map (rackCell r)).toArray
theorem rackRow_get (r : RRack) {i : Nat} (h : i < 36) : (rackRow r)[i]? = some (rackCell r i) := by simp [rackRow, h]
theorem rackRow_set (r r' : RRack) (k : Nat) (v : Value) (hk : rackCell r' k = v) (ho : ∀ i, i < 36 → i ≠ k → rackCell r' i = rackCell r i) : (rackRow r).setIfInBounds k v = rackRow r' := by
  apply Array.ext
  · simp [rackRow]
  · intro i h1 h2
    have h3 : i < 36 := by simpa [rackRow] using h2
    rw [Array.getElem_setIfInBounds (by simpa [rackRow] using h3)]
    simp only [rackRow, List.getElem_toArray, List.getElem_map, List.getElem_range]
    by_cases h : k = i
    · subst h; rw [if_pos rfl, hk]
    · rw [if_neg h, ho i h3 (Ne.symm h)]
theorem rackRow_put (r : RRack) {k : Nat} (hk : k < 2) (s : Nat) : (rackRow r).setIfInBounds (33 + k) (.int .u64 (s : Nat)) = rackRow (r.put k s) := by
  match k, hk with
  | 0, _ =>
    refine rackRow_set r _ 33 _ rfl fun i hi hne => ?_
    simp only [rackCell, RRack.put, RRack.at, if_true]
    by_cases h : i = 33
    · exact absurd h hne
    · simp [h]
  | 1, _ =>
    refine rackRow_set r _ 34 _ rfl fun i hi hne => ?_
    simp only [rackCell, RRack.put, RRack.at]
    by_cases h : i = 34
    · exact absurd h hne
    · simp [h]
theorem rackRow_turn (r : RRack) (t : Nat) : (rackRow r).setIfInBounds 35 (.int .i64 (t : Nat)) = rackRow { r with turn := t } := by
  refine rackRow_set r _ 35 _ rfl fun i hi hne => ?_
  simp only [rackCell, RRack.at]
  by_cases h0 : i = 0
  · simp [h0]
  · by_cases h1 : i < 33
    · simp [h0, h1]
    · by_cases h2 : i = 33
      · simp [h2]
      · by_cases h3 : i = 34
        · simp [h3]
        · exact absurd (show i = 35 by omega) hne
theorem rackCell_set (r : RRack) {k : Nat} (hk : k < 2) : rackCell r (33 + k) = .int .u64 (r.set k : Nat) := by
  match k, hk with
  | 0, _ => rfl
  | 1, _ => rfl
theorem rackCell_at (r : RRack) {k l : Nat} (hk : k < 2) (hl : l < 8) : rackCell r (1 + k * 16 + l * 2) = .int .i64 (r.at k l) ∧ rackCell r (1 + k * 16 + l * 2 + 1) = .int .i64 (r.cap : Nat) := by
  unfold rackCell
  constructor
  · rw [if_neg (by omega), if_pos (by omega), if_pos (by omega)]
    congr 2 <;> omega
  · rw [if_neg (by omega), if_pos (by omega), if_neg (by omega)]
/-- What is so of every rack. -/
structure OkRack (r : RRack) : Prop where
  b0 : 0 ≤ r.base
  b1 : r.base ≤ 5
  cap : Pow2 r.cap
  z0 : r.s0 < 256
  z1 : r.s1 < 256
  turn : r.turn < 2
theorem OkRack.s0 {r : RRack} (h : OkRack r) : r.s0 < 18446744073709551616 := Nat.lt_trans h.z0 (by omega)
theorem OkRack.s1 {r : RRack} (h : OkRack r) : r.s1 < 18446744073709551616 := Nat.lt_trans h.z1 (by omega)
end Bosun
namespace Go.Proofs.YtjdbgohfedjifaaGreatDoor
open Go.RowKit Bosun
/-- What a work does next, as a value. -/
def nextV : RNext → Value
  | .pushing => .func (.func 60) #[] #[]
  | .signing => .func (.func 98) #[] #[]
  | .sweeping => .func (.func 96) #[] #[]
  | .asking => .func (.func 119) #[] #[]
  | .again => .func (.func 130) #[] #[]
  | .choosing => .func (.func 55) #[] #[]
  | .taking => .func (.func 86) #[] #[]
  | .emptying => .func (.func 107) #[] #[]
  | .reading => .func (.func 57) #[] #[]
  | .robbing => .func (.func 91) #[] #[]
  | .minding => .func (.func 112) #[] #[]
  | .worst => .func (.func 56) #[] #[]
  | .popping => .func (.func 89) #[] #[]
def ptrO : Option Nat → Value
  | none => .pointer none
  | some g => .pointer (some ⟨g, 0, none⟩)
/-- A work's cells: its rack's block, its function's value, its op's block. -/
def wkCells (rb : Nat) (gv : Value) (ob : Option Nat) (w : RWork) : Array Value :=
  #[.pointer (some ⟨rb, 0, none⟩), nextV w.next, gv, .int .u64 (w.x : Nat), .int .i64 (w.level : Nat), .int .i64 (w.kind : Nat), ptrO ob, .int .u64 (w.from_ : Nat), .int .u64 (w.swept : Nat), .bool w.full, .bool w.holds, .bool w.there, .bool w.sheds, .int .i64 (w.steps : Nat), .bool w.done, .int .i64 w.err]
def IsWk (W : World) (wb rb : Nat) (gv : Value) (ob : Option Nat) (w : RWork) : Prop := Blk W wb (wkCells rb gv ob w) 94
def IsRk (W : World) (rb : Nat) (r : RRack) : Prop := Blk W rb (rackRow r) 74
theorem IsRk.c0 {W : World} {rb : Nat} {r : RRack} (h : IsRk W rb r) : W.cell? ⟨rb, 0, none⟩ = some (.int .i64 r.base) := by rw [Blk.cell h, rackRow_get r (by omega)]; rfl
theorem IsRk.cset {W : World} {rb : Nat} {r : RRack} (h : IsRk W rb r) {k : Nat} (hk : k < 2) : W.cell? ⟨rb, 33 + k, none⟩ = some (.int .u64 (r.set k : Nat)) := by rw [Blk.cell h, rackRow_get r (by omega), rackCell_set r hk]
theorem IsRk.cturn {W : World} {rb : Nat} {r : RRack} (h : IsRk W rb r) : W.cell? ⟨rb, 35, none⟩ = some (.int .i64 (r.turn : Nat)) := by rw [Blk.cell h, rackRow_get r (by omega)]; rfl
theorem IsRk.cat {W : World} {rb : Nat} {r : RRack} (h : IsRk W rb r) {k l : Nat} (hk : k < 2) (hl : l < 8) : W.cell? ⟨rb, 1 + k * 16 + l * 2, none⟩ = some (.int .i64 (r.at k l)) ∧ W.cell? ⟨rb, 1 + k * 16 + l * 2 + 1, none⟩ = some (.int .i64 (r.cap : Nat)) := by
  obtain ⟨h1, h2⟩ := rackCell_at r hk hl
  constructor
  · rw [Blk.cell h, rackRow_get r (by omega), h1]
  · rw [Blk.cell h, rackRow_get r (by omega), h2]
set_option maxHeartbeats 4000000 in
theorem wend_any (wb rb : Nat) (gv : Value) (ob : Option Nat) (wk : RWork) (e : Int) (W : World) (h : IsWk W wb rb gv ob wk) :
    Calls Tryz.prog 83 #[.pointer (some ⟨wb, 0, none⟩), .int .i64 e] W fun x W' => x = .returned (.tuple #[]) ∧ IsWk W' wb rb gv ob { wk with done := true, err := e } ∧ Chg [wb] W W' := by
  have c14 : W.cell? ⟨wb, 14, none⟩ = some (.bool wk.done) := by rw [Blk.cell h]; rfl
  have c15 : W.cell? ⟨wb, 15, none⟩ = some (.int .i64 wk.err) := by rw [Blk.cell h]; rfl
  have z14 : W.frozen? ⟨wb, 14, none⟩ = false := Blk.frozen h _
  have z15 : W.frozen? ⟨wb, 15, none⟩ = false := Blk.frozen h _
  have H := Lib.hid h
  go_enter Tryz.func83, Tryz.ntmps83
  go_wp2_with fail
  go_end0
  exact ⟨rfl, (Blk.setCell (Blk.setCell H.out 14 _) 15 _), ((Chg.refl _ _).setCell (.inl (by simp)) _).setCell (.inl (by simp)) _⟩
theorem blk_ne {W : World} {g g' : Nat} {cs cs' : Array Value} {t t' : TypeId} (h : Blk W g cs t) (h' : Blk W g' cs' t') (ht : t ≠ t') : g ≠ g' := fun e => by
  subst e; exact ht (h.inj h').2
set_option maxHeartbeats 4000000 in
theorem wdeque_any (wb rb : Nat) (gv : Value) (ob : Option Nat) (wk : RWork) (r : RRack) (W : World) (h : IsWk W wb rb gv ob wk) (hr : IsRk W rb r) (hk : wk.kind < 2) (hl : wk.level < 8) :
    Calls Tryz.prog 61 #[.pointer (some ⟨wb, 0, none⟩)] W fun x W' => x = .returned (.agg #[.int .i64 (r.at wk.kind wk.level), .int .i64 (r.cap : Nat)]) ∧ Chg [] W W' := by
  have l1 := Blk.lt h
  have l2 := Blk.lt hr
  have HW := Lib.hid (fun (W' : World) (C : Chg [] W W') => Blk.chg h C (by simp))
  have HR := Lib.hid (fun (W' : World) (C : Chg [] W W') => Blk.chg hr C (by simp))
  obtain ⟨q1, q2⟩ := hr.cat hk hl
  have HQ := Lib.hid (And.intro q1 q2)
  have hki : (wk.kind : Int) < 2 := by omega
  have hli : (wk.level : Int) < 8 := by omega
  have hk0 : (0 : Int) ≤ (wk.kind : Int) := by omega
  have hl0 : (0 : Int) ≤ (wk.level : Int) := by omega
  go_enter Tryz.func61, Tryz.ntmps61
  have c0 : ∀ W', Chg [] W W' → W'.cell? ⟨wb, 0, none⟩ = some (.pointer (some ⟨rb, 0, none⟩)) := fun W' C => by rw [(HW.out W' C).cell]; rfl
  have c4 : ∀ W', Chg [] W W' → W'.cell? ⟨wb, 4, none⟩ = some (.int .i64 (wk.level : Nat)) := fun W' C => by rw [(HW.out W' C).cell]; rfl
  have c5 : ∀ W', Chg [] W W' → W'.cell? ⟨wb, 5, none⟩ = some (.int .i64 (wk.kind : Nat)) := fun W' C => by rw [(HW.out W' C).cell]; rfl
  have c6 : ∀ W', Chg [] W W' → W'.cell? ⟨rb, 1 + wk.kind * 16 + wk.level * 2, none⟩ = some (.int .i64 (r.at wk.kind wk.level)) ∧ W'.cell? ⟨rb, 1 + wk.kind * 16 + wk.level * 2 + 1, none⟩ = some (.int .i64 (r.cap : Nat)) := fun W' C => IsRk.cat (HR.out W' C) hk hl
  have H0 := Lib.hid c0
  have H4 := Lib.hid c4
  have H5 := Lib.hid c5
  have H6 := Lib.hid c6
  clear c0 c4 c5 c6 q1 q2 h hr
  go_upto_region 1 with (fail)
  obtain ⟨w1, hw1⟩ : ∃ w1, w1 = W.alloc (.cells #[.int .i64 0, .int .i64 0] 70) := ⟨_, rfl⟩
  have B1 : Blk w1 W.heap.size #[.int .i64 0, .int .i64 0] 70 := by rw [hw1]; exact Blk.new W _ _
  have C1 : Chg [] W w1 := by rw [hw1]; exact (Chg.refl _ _).alloc _
  rw [← hw1]
  obtain ⟨D, hD⟩ : ∃ D, D = W.heap.size := ⟨_, rfl⟩
  rw [← hD] at B1 ⊢
  clear hw1
  have d0 := H0.out _ C1
  have d4 := H4.out _ C1
  have d5 := H5.out _ C1
  obtain ⟨d6, d7⟩ := H6.out _ C1
  obtain ⟨k, hkk⟩ : ∃ k, k = wk.kind := ⟨_, rfl⟩
  obtain ⟨l, hll⟩ : ∃ l, l = wk.level := ⟨_, rfl⟩
  rw [← hkk, ← hll] at d6 d7
  rw [← hll] at d4 hli hl0
  rw [← hkk] at d5 hki hk0
  have HKL := Lib.hid (And.intro hkk hll)
  clear hkk hll
  have e0 : w1.cell? ⟨D, 0, none⟩ = some (.int .i64 0) := B1.cell 0
  have e1 : w1.cell? ⟨D, 1, none⟩ = some (.int .i64 0) := B1.cell 1
  have z0 : w1.frozen? ⟨D, 0, none⟩ = false := B1.frozen 0
  have z1 : w1.frozen? ⟨D, 1, none⟩ = false := B1.frozen 1
  have hDr : D ≠ rb := by omega
  have hDw : D ≠ wb := by omega
  have HD := Lib.hid (show W.heap.size ≤ D by rw [hD]; exact Nat.le_refl _)
  clear HQ hD l1 l2
  go_big_region
  have B2 : Blk ((w1.setCell ⟨D, 0, none⟩ (.int .i64 (r.at k l))).setCell ⟨D, 1, none⟩ (.int .i64 (r.cap : Nat))).drew D #[.int .i64 (r.at k l), .int .i64 (r.cap : Nat)] 70 := ((B1.setCell 0 _).setCell 1 _).drew
  have C2 : Chg [] W ((w1.setCell ⟨D, 0, none⟩ (.int .i64 (r.at k l))).setCell ⟨D, 1, none⟩ (.int .i64 (r.cap : Nat))).drew := ((C1.setCell (a := ⟨D, 0, none⟩) (.inr HD.out) _).setCell (a := ⟨D, 1, none⟩) (.inr HD.out) _).drew
  obtain ⟨w2, hw2⟩ : ∃ w2, w2 = ((w1.setCell ⟨D, 0, none⟩ (.int .i64 (r.at k l))).setCell ⟨D, 1, none⟩ (.int .i64 (r.cap : Nat))).drew := ⟨_, rfl⟩
  rw [← hw2] at B2 C2 ⊢
  clear hw2 d0 d4 d5 d6 d7 e0 e1 z0 z1 B1 C1
  go_wp2_with fail
  refine bodyPost_ret (results_row rfl _ _ D 70 #[.int .i64 (r.at k l), .int .i64 (r.cap : Nat)] _ rfl B2 Tryz.underlying70 rfl sizeDq) rfl ⟨by rw [HKL.out.1, HKL.out.2], C2⟩
end Go.Proofs.YtjdbgohfedjifaaGreatDoor
