/- Plain facts on sets of numbers below 64, kept as a number whose bits say which are in it; and rows of 64 truths. No program in sight. -/
import Derived.WalkKit
import Derived.WalkSpells
import Derived.WalkLawsBesides
import Derived.Lib.Hide
import Derived.Deep.QuietTactic
import Derived.BigQuiet
import Derived.Laws.CopyOwn
import Derived.StillTailTactics
import Derived.ProofKit
import Derived.OpenShut
import Derived.WalkMore
import Derived.ScopeJumps
import Derived.ArgAppend
import Derived.Maps.AppendAt
import Derived.Laws.AppendOwnNone
namespace Bosun
open Go

/-- The number whose bits below n are those of f. -/
def ofBits : Nat → (Nat → Bool) → Nat
  | 0, _ => 0
  | n + 1, f => 2 * ofBits n (fun j => f (j + 1)) + (f 0).toNat

theorem ofBits_testBit (n : Nat) : ∀ (f : Nat → Bool) (j : Nat), (ofBits n f).testBit j = (decide (j < n) && f j) := by
  induction n with
  | zero => intro f j; simp [ofBits]
  | succ n ih =>
    intro f j
    cases j with
    | zero =>
      simp only [ofBits, Nat.testBit_zero]
      cases f 0 <;> simp <;> omega
    | succ j =>
      have : (2 * ofBits n (fun j => f (j + 1)) + (f 0).toNat) / 2 = ofBits n (fun j => f (j + 1)) := by
        cases f 0 <;> simp <;> omega
      rw [ofBits, Nat.testBit_succ, this, ih]
      simp

theorem ofBits_lt (n : Nat) : ∀ f, ofBits n f < 2 ^ n := by
  induction n with
  | zero => intro f; simp [ofBits]
  | succ n ih =>
    intro f
    have := ih (fun j => f (j + 1))
    rw [ofBits, Nat.pow_succ]
    cases f 0 <;> simp <;> omega

theorem lt_of_bits {s : Nat} (h : ∀ j, 64 ≤ j → s.testBit j = false) : s < 18446744073709551616 := by
  have : s < 2 ^ 64 := Nat.lt_pow_two_of_testBit s h
  simpa using this
theorem bits_above {s : Nat} (h : s < 18446744073709551616) {j : Nat} (hj : 64 ≤ j) : s.testBit j = false := by
  apply Nat.testBit_lt_two_pow
  refine Nat.lt_of_lt_of_le h ?_
  have : 2 ^ 64 ≤ 2 ^ j := Nat.pow_le_pow_right (by decide) hj
  simpa using this
theorem ofBits_self {s : Nat} (h : s < 18446744073709551616) : ofBits 64 s.testBit = s := by
  apply Nat.eq_of_testBit_eq
  intro j
  rw [ofBits_testBit]
  by_cases hj : j < 64
  · simp [hj]
  · simp [hj, bits_above h (by omega : 64 ≤ j)]
theorem ofBits_congr {n : Nat} {f g : Nat → Bool} (h : ∀ j, j < n → f j = g j) : ofBits n f = ofBits n g := by
  apply Nat.eq_of_testBit_eq
  intro j
  rw [ofBits_testBit, ofBits_testBit]
  by_cases hj : j < n
  · simp [hj, h j hj]
  · simp [hj]

/-- A set: is a number in it; the set with or without a number; all numbers below one; its members, rising. -/
def has (s : Nat) (i : Int) : Bool := decide (0 ≤ i) && (decide (i < 64) && s.testBit i.toNat)
def put (s : Nat) (i : Int) (b : Bool) : Nat := ofBits 64 fun j => if (j : Int) = i then b else s.testBit j
def allBelow (n : Int) : Nat := ofBits 64 fun j => decide ((j : Int) < n)
def members (s : Nat) : List Nat := (List.range 64).filter s.testBit

theorem put_testBit (s : Nat) (i : Int) (b : Bool) (j : Nat) : (put s i b).testBit j = (decide (j < 64) && if (j : Int) = i then b else s.testBit j) := by
  simp [put, ofBits_testBit]
theorem put_lt (s : Nat) (i : Int) (b : Bool) : put s i b < 18446744073709551616 := by unfold put; simpa using ofBits_lt 64 (fun j => if (j : Int) = i then b else s.testBit j)
theorem allBelow_lt (n : Int) : allBelow n < 18446744073709551616 := by unfold allBelow; simpa using ofBits_lt 64 (fun j => decide ((j : Int) < n))
theorem put_out {s : Nat} (h : s < 18446744073709551616) {i : Int} (hi : i < 0 ∨ 64 ≤ i) (b : Bool) : put s i b = s := by
  rw [put, ofBits_congr (g := s.testBit) (fun j hj => by rw [if_neg (by omega)]), ofBits_self h]
theorem allBelow_step (k : Nat) (_hk : k < 64) : put (allBelow k) k true = allBelow (k + 1) := by
  refine ofBits_congr fun j hj => ?_
  simp only [allBelow, ofBits_testBit]
  by_cases h : (j : Int) = k
  · rw [if_pos h]; simp; omega
  · rw [if_neg h]
    simp only [hj, decide_true, Bool.true_and]
    congr 1
    apply propext
    omega

theorem allBelow_zero : allBelow ((0 : Nat) : Int) = 0 := by
  apply Nat.eq_of_testBit_eq
  intro j
  simp [allBelow, ofBits_testBit]
/-- The members below a number. -/
def membersTo (s k : Nat) : List Nat := (List.range k).filter s.testBit
theorem membersTo_zero (s : Nat) : membersTo s 0 = [] := rfl
theorem membersTo_yes (s k : Nat) (h : s.testBit k = true) : membersTo s (k + 1) = membersTo s k ++ [k] := by
  simp [membersTo, List.range_succ, List.filter_append, h]
theorem membersTo_no (s k : Nat) (h : s.testBit k = false) : membersTo s (k + 1) = membersTo s k := by
  simp [membersTo, List.range_succ, List.filter_append, h]
theorem membersTo_len (s k : Nat) : (membersTo s k).length ≤ k := by
  have := List.length_filter_le s.testBit (List.range k)
  simpa [membersTo] using this
/-- Whole numbers as values. -/
def nats (l : List Nat) : List Value := l.map fun i => Value.int .i64 ((i : Nat) : Int)
def ints (l : List Int) : List Value := l.map (Value.int .i64)
def words (l : List Nat) : List Value := l.map fun i => Value.int .u64 ((i : Nat) : Int)
theorem nats_len (l : List Nat) : (nats l).length = l.length := by simp [nats]
theorem ints_len (l : List Int) : (ints l).length = l.length := by simp [ints]
theorem words_len (l : List Nat) : (words l).length = l.length := by simp [words]
theorem ints_get (l : List Int) {j : Nat} (h : j < l.length) : (ints l)[j]? = some (.int .i64 l[j]) := by simp [ints, h]
theorem nats_get (l : List Nat) {j : Nat} (h : j < l.length) : (nats l)[j]? = some (.int .i64 (l[j] : Nat)) := by simp [nats, h]
theorem words_get (l : List Nat) {j : Nat} (h : j < l.length) : (words l)[j]? = some (.int .u64 (l[j] : Nat)) := by simp [words, h]
theorem words_snoc (l : List Nat) (i : Nat) : words (l ++ [i]) = words l ++ [Value.int .u64 ((i : Nat) : Int)] := by simp [words]
theorem nats_snoc (l : List Nat) (i : Nat) : nats (l ++ [i]) = nats l ++ [Value.int .i64 ((i : Nat) : Int)] := by simp [nats]
theorem ints_snoc (l : List Int) (i : Int) : ints (l ++ [i]) = ints l ++ [Value.int .i64 i] := by simp [ints]
theorem nats_ints (l : List Nat) : nats l = ints (l.map fun i => ((i : Nat) : Int)) := by simp [nats, ints]

/-- A row of 64 truths, as the cells of an array. -/
def boolRow (f : Nat → Bool) : Array Value := ((List.range 64).map fun i => Value.bool (f i)).toArray
theorem boolRow_size (f : Nat → Bool) : (boolRow f).size = 64 := by simp [boolRow]
theorem boolRow_get (f : Nat → Bool) {j : Nat} (h : j < 64) : (boolRow f)[j]? = some (.bool (f j)) := by simp [boolRow, h]
theorem boolRow_congr {f g : Nat → Bool} (h : ∀ j, j < 64 → f j = g j) : boolRow f = boolRow g := by
  simp only [boolRow]
  congr 1
  refine List.map_congr_left fun j hj => ?_
  rw [h j (by simpa using hj)]
theorem boolRow_set (f : Nat → Bool) (k : Nat) (b : Bool) : (boolRow f).setIfInBounds k (.bool b) = boolRow (fun j => if j = k then b else f j) := by
  apply Array.ext
  · simp [boolRow]
  · intro i h1 h2
    simp only [boolRow_size, Array.size_setIfInBounds] at h1
    rw [Array.getElem_setIfInBounds (by simpa [boolRow_size] using h1)]
    simp only [boolRow, List.getElem_toArray, List.getElem_map, List.getElem_range]
    by_cases h : k = i
    · subst h; simp
    · rw [if_neg h, if_neg (Ne.symm h)]
theorem boolRow_one (f : Nat → Bool) : (boolRow f).all (·.oneCell') = true := by
  simp [boolRow, Value.oneCell']

/-- Of a row the part from a place on, as a number. -/
def fromBit (f : Nat → Bool) (i : Nat) : Nat := ofBits (64 - i) fun j => f (i + j)
theorem fromBit_step (f : Nat → Bool) (i : Nat) (h : i < 64) : fromBit f i = 2 * fromBit f (i + 1) + (f i).toNat := by
  unfold fromBit
  rw [show 64 - i = (64 - (i + 1)) + 1 from by omega, ofBits]
  simp only [Nat.add_zero]
  congr 2
  refine ofBits_congr fun j _ => ?_
  congr 1
  omega
theorem fromBit_end (f : Nat → Bool) : fromBit f 64 = 0 := rfl
theorem fromBit_zero (f : Nat → Bool) : fromBit f 0 = ofBits 64 f := by simp [fromBit]
theorem fromBit_lt (f : Nat → Bool) (i : Nat) : fromBit f i < 2 ^ (64 - i) := ofBits_lt _ _
theorem fromBit_lt' (f : Nat → Bool) (i : Nat) (h : 1 ≤ i) : fromBit f i < 9223372036854775808 := by
  have h1 := fromBit_lt f i
  have h2 : (2 : Nat) ^ (64 - i) ≤ 2 ^ 63 := Nat.pow_le_pow_right (by decide) (by omega)
  have h3 : (2 : Nat) ^ 63 = 9223372036854775808 := by decide
  omega

end Bosun

/- Blocks of memory kept as hypotheses, what a call may have changed, and the walk's steps that speak in these words. Over any program. -/
namespace Bosun
open Go Go.RowKit

/-- Block g holds just these cells, none of which is frozen. -/
def Blk (w : World) (g : Nat) (cs : Array Value) (t : TypeId) : Prop := w.heap[g]? = some (.cells cs t (0, 0))

/-- From w to w' no block has changed but those of S, and new ones. -/
structure Chg (S : List Nat) (w w' : World) : Prop where
  os : w'.os = w.os
  tape : w'.tape = w.tape
  output : w'.output = w.output
  size : w.heap.size ≤ w'.heap.size
  block : ∀ k, k < w.heap.size → k ∉ S → w'.heap[k]? = w.heap[k]?

section
variable {S : List Nat} {w w1 w2 : World}
theorem Chg.refl (S : List Nat) (w : World) : Chg S w w := ⟨rfl, rfl, rfl, Nat.le_refl _, fun _ _ _ => rfl⟩
theorem Chg.trans (h : Chg S w w1) (k : Chg S w1 w2) : Chg S w w2 :=
  ⟨k.os.trans h.os, k.tape.trans h.tape, k.output.trans h.output, Nat.le_trans h.size k.size,
    fun i hi hs => (k.block i (Nat.lt_of_lt_of_le hi h.size) hs).trans (h.block i hi hs)⟩
theorem Chg.mono {S' : List Nat} (h : Chg S w w1) (hs : ∀ g, g ∈ S → g ∈ S' ∨ w.heap.size ≤ g) : Chg S' w w1 :=
  ⟨h.os, h.tape, h.output, h.size, fun i hi hn => h.block i hi (fun hm => by rcases hs i hm with h1 | h1; exact hn h1; omega)⟩
theorem Chg.weak (h : Chg [] w w1) : Chg S w w1 := h.mono (fun g hg => by cases hg)
/-- The second of two changes touches only what the first may touch, and what is new since. -/
theorem Chg.then {S' : List Nat} (h : Chg S w w1) (k : Chg S' w1 w2) (hs : ∀ g, g ∈ S' → g ∈ S ∨ w.heap.size ≤ g) : Chg S w w2 :=
  ⟨k.os.trans h.os, k.tape.trans h.tape, k.output.trans h.output, Nat.le_trans h.size k.size,
    fun i hi hn => (k.block i (Nat.lt_of_lt_of_le hi h.size) (fun hm => by rcases hs i hm with h1 | h1; exact hn h1; omega)).trans (h.block i hi hn)⟩
theorem Chg.drew (h : Chg S w w1) : Chg S w w1.drew := ⟨h.os, h.tape, h.output, h.size, h.block⟩
theorem Chg.drewN (h : Chg S w w1) (n : Nat) : Chg S w (w1.drewN n) := ⟨h.os, h.tape, h.output, h.size, h.block⟩
theorem Chg.undrew (h : Chg S w.drew w1) : Chg S w w1 := ⟨h.os, h.tape, h.output, h.size, h.block⟩
theorem Chg.alloc (h : Chg S w w1) (o : Obj) : Chg S w (w1.alloc o) :=
  h.trans ⟨rfl, rfl, rfl, by simp, fun k hk _ => Below.heap_alloc _ _ _ hk⟩
theorem Chg.setCell (h : Chg S w w1) {a : Addr} (ha : a.block ∈ S ∨ w.heap.size ≤ a.block) (v : Value) : Chg S w (w1.setCell a v) :=
  h.then (S' := [a.block]) ⟨rfl, rfl, rfl, by simp, fun k _ hk => heap_setCell_other _ _ _ _ (by simpa using hk)⟩ (by simpa using ha)
theorem Chg.setRow (h : Chg S w w1) {g : Nat} (hg : g ∈ S ∨ w.heap.size ≤ g) (cs : Array Value) : Chg S w (w1.setRow g cs) :=
  h.then (S' := [g]) ⟨rfl, rfl, rfl, by simp, fun k _ hk => setRow_other _ _ _ _ (by simpa using hk)⟩ (by simpa using hg)
theorem Chg.of_below (h : Below w.heap.size w w1) : Chg [] w w1 := ⟨h.os, h.tape, h.output, h.size, fun k hk _ => h.block k hk⟩
theorem Chg.below (h : Chg [] w w1) : Below w.heap.size w w1 := ⟨h.os, h.tape, h.output, h.size, fun k hk => h.block k hk (by simp)⟩
theorem Chg.of_grown {row : Option Nat} (h : w.grownBy w1 row) : Chg row.toList w w1 :=
  ⟨h.os, h.tape, h.output, h.size, fun k hk hn => h.block k hk (fun e => hn (by rw [← e]; simp))⟩
theorem Chg.grown {row : Option Nat} (h : Chg S w w1) (hg : w1.grownBy w2 row) (hr : ∀ g, row = some g → g ∈ S ∨ w.heap.size ≤ g) : Chg S w w2 :=
  h.then (Chg.of_grown hg) (fun g hm => hr g (by cases row <;> simp at hm; rw [hm]))
end

section
variable {w w1 : World} {g : Nat} {cs : Array Value} {t : TypeId}
theorem Blk.lt (h : Blk w g cs t) : g < w.heap.size := (Array.getElem?_eq_some_iff.1 h).1
theorem Blk.chg {S : List Nat} (h : Blk w g cs t) (hc : Chg S w w1) (hg : g ∉ S) : Blk w1 g cs t := (hc.block g h.lt hg).trans h
theorem Blk.drew (h : Blk w g cs t) : Blk w.drew g cs t := h
theorem Blk.cell (h : Blk w g cs t) (j : Nat) : w.cell? ⟨g, j, none⟩ = cs[j]? := cell_of_row _ _ _ _ _ _ h
theorem Blk.frozen (h : Blk w g cs t) (j : Nat) : w.frozen? ⟨g, j, none⟩ = false := frozen_of_row _ _ _ _ _ h
theorem Blk.new (w : World) (cs : Array Value) (t : TypeId) : Blk (w.alloc (.cells cs t)) w.heap.size cs t := heap_alloc_new _ _
theorem Blk.alloc (h : Blk w g cs t) (o : Obj) : Blk (w.alloc o) g cs t := (Below.heap_alloc _ _ _ h.lt).trans h
theorem Blk.setCell (h : Blk w g cs t) (i : Nat) (v : Value) : Blk (w.setCell ⟨g, i, none⟩ v) g (cs.setIfInBounds i v) t := heap_setCell_same _ _ _ _ _ _ h
theorem Blk.setCell_other (h : Blk w g cs t) {a : Addr} (v : Value) (ha : g ≠ a.block) : Blk (w.setCell a v) g cs t := (heap_setCell_other _ _ _ _ ha).trans h
theorem Blk.setRow (h : Blk w g cs t) (cs' : Array Value) : Blk (w.setRow g cs') g cs' t := setRow_heap _ _ _ _ _ _ h
theorem Blk.setRow_other {g' : Nat} (h : Blk w g cs t) (hg : g ≠ g') (cs' : Array Value) : Blk (w.setRow g' cs') g cs t := (Go.setRow_other _ _ _ _ hg).trans h
theorem Blk.inj {cs' : Array Value} {t' : TypeId} (h : Blk w g cs t) (h' : Blk w g cs' t') : cs = cs' ∧ t = t' := by
  have := h.symm.trans h'
  simpa using this
end

theorem ret_int {k : IntKind} {a b : Int} (h : a = b) : Ending.returned (.int k a) = .returned (.int k b) := by rw [h]
theorem ret_bool {a b : Bool} (h : a = b) : Ending.returned (.bool a) = .returned (.bool b) := by rw [h]

section
variable {P : Program} {ops : Array Oper} {Q : Exit → Act → World → Prop} {rest : List Oper} {o : Oper} {a : Act} {w : World}

/-- Any operation whose run is known. -/
theorem wpList_val {v : Value} {w' : World} (hg : o.guard = none) (hr : (execOp a.eval o).run P w = .ok (.value v) w') (h : wpList P ops Q rest (a.put o.dst v) w') : wpList P ops Q (o :: rest) a w :=
  wpList_plain hg fun _ hK => by
    unfold Oper.wp; rw [hr]; exact hK _ _ h
theorem wpList_none {w' : World} (hg : o.guard = none) (hr : (execOp a.eval o).run P w = .ok .skip w') (h : wpList P ops Q rest (a.put o.dst undef) w') : wpList P ops Q (o :: rest) a w :=
  wpList_plain hg fun _ hK => by
    unfold Oper.wp; rw [hr]; exact hK _ _ h

/-- The same at an operation whose guard says yes. -/
theorem wpList_valW {v : Value} {w' : World} (hw : Region.wanted o (yielded ops a.tmps) = true) (hr : (execOp a.eval o).run P w = .ok (.value v) w') (h : wpList P ops Q rest (a.put o.dst v) w') : wpList P ops Q (o :: rest) a w :=
  wpList_step fun _ hK => by
    rw [if_pos hw]
    unfold Oper.wp; rw [hr]; exact hK _ _ h

/-- A whole row is stored into a block. -/
theorem wpList_put_row (hgd : o.guard = none) (ty : TypeId) (x y : Operand) (ho : o.op = .store ty x y)
    (g : Nat) (cells : Array Value) (hx : a.eval x = .pointer (some ⟨g, 0, none⟩)) (hy : a.eval y = .agg cells)
    (t : TypeId) (old : Array Value) (hg : Blk w g old t) (hi : (P.info? ty).map (·.size) = some cells.size)
    (hold : old.size = cells.size) (h1 : cells.all (·.oneCell') = true)
    (h : ∀ w', Blk w' g cells t → Chg [g] w w' → wpList P ops Q rest (a.put o.dst undef) w') : wpList P ops Q (o :: rest) a w :=
  wpList_store_row hgd ty x y ho g cells hx hy t old hg hi hold h1
    (h _ (Blk.setRow hg _) ((Chg.refl _ _).setRow (.inl (by simp)) _))
/-- One cell of a known block is stored. -/
theorem wpList_val_store (hgd : o.guard = none) (ty : TypeId) (x y : Operand) (ho : o.op = .store ty x y)
    (g i : Nat) (hx : a.eval x = .pointer (some ⟨g, i, none⟩)) (v : Value) (hy : a.eval y = v) (cs : Array Value) (t : TypeId) (hg : Blk w g cs t) (hi : i < cs.size)
    (hs : (P.info? ty).map (·.size) = some 1) (h1 : v.oneCell' = true)
    (h : ∀ w', Blk w' g (cs.setIfInBounds i v) t → Chg [g] w w' → wpList P ops Q rest (a.put o.dst undef) w') : wpList P ops Q (o :: rest) a w := by
  have hc : v.cells = #[v] := by cases v <;> first | rfl | cases h1
  obtain ⟨i0, hi0, hi1⟩ := Option.map_eq_some_iff.1 hs
  have hcell : w.cell? ⟨g, i, none⟩ = some cs[i] := by rw [hg.cell, Array.getElem?_eq_getElem hi]
  have hfz := hg.frozen i
  have hadd : (⟨g, i, none⟩ : Addr).add 0 = ⟨g, i, none⟩ := by unfold Addr.add; split <;> simp_all
  have hst : (storeCells ⟨g, i, none⟩ [v] 0).run P w = .ok () (w.setCell ⟨g, i, none⟩ v) := by
    simp only [storeCells, Sem.run_bind, hadd]
    rw [run_store P w ⟨g, i, none⟩ v .plain h1, hcell]
    simp [hfz]
  refine wpList_none hgd (w' := w.setCell ⟨g, i, none⟩ v) ?_ (h _ (hg.setCell _ _) ((Chg.refl _ _).setCell (.inl (by simp)) _))
  simp [execOp, ho, hx, hy, Instr.storeAt, Instr.sureAddr, storeVar, Go.sizeOf, typeInfo, hi0, hi1, hc, hst]
/-- A whole row is read. -/
theorem wpList_get_row (hgd : o.guard = none) (ty : TypeId) (x : Operand) (ho : o.op = .load ty x)
    (g : Nat) (hx : a.eval x = .pointer (some ⟨g, 0, none⟩)) (t : TypeId) (cs : Array Value) (d : TypeDesc) (hg : Blk w g cs t)
    (hu : P.underlying ty = some d) (hd : (match d with | .struct _ | .array _ _ => true | _ => false) = true) (hi : (P.info? ty).map (·.size) = some cs.size)
    (h : wpList P ops Q rest (a.put o.dst (.agg cs)) w) : wpList P ops Q (o :: rest) a w :=
  wpList_load_row hgd ty x ho g hx t cs (0, 0) d hg hu hd hi h
/-- A new variable. -/
theorem wpList_new_row (hgd : o.guard = none) (ty : TypeId) (ho : o.op = .alloc ty) (cs : Array Value)
    (hz : (Instr.alloc ty true (.tuple #[])).run P w = .ok (.pointer (some ⟨w.heap.size, 0, none⟩)) (w.alloc (.cells cs ty)))
    (h : ∀ w', Blk w' w.heap.size cs ty → Chg [] w w' → w'.heap.size = w.heap.size + 1 → wpList P ops Q rest (a.put o.dst (.pointer (some ⟨w.heap.size, 0, none⟩))) w') : wpList P ops Q (o :: rest) a w :=
  wpList_val hgd (by unfold execOp; simp only [ho, Sem.run_bind, hz, Result.andThen_ok, Sem.run_pure]) (h _ (Blk.new _ _ _) ((Chg.refl _ _).alloc _) (by simp))
end

theorem results_row {P : Program} {fn : Func} {p : Tmp} {ty : TypeId} (h : fn.results = #[.cell p ty]) (tmps : Array Value) (w : World) (g : Nat) (t : TypeId) (cs : Array Value) (d : TypeDesc)
    (hp : tmps.getD p undef = .pointer (some ⟨g, 0, none⟩)) (hg : Blk w g cs t)
    (hu : P.underlying ty = some d) (hd : (match d with | .struct _ | .array _ _ => true | _ => false) = true) (hi : (P.info? ty).map (·.size) = some cs.size) :
    (results fn tmps).run P w = .ok (.agg cs) w :=
  results_cell_row h tmps w g t cs (0, 0) d hp hg hu hd hi

/-! ### Slices -/
/-- The slice v reads as the values xs (each of one cell). -/
def Reads (w : World) (v : Value) (xs : List Value) : Prop :=
  ∃ ao cap, v = .slice ao xs.length cap ∧ xs.length ≤ maxLen ∧ ∀ j x, xs[j]? = some x → ∃ g off, ao = some ⟨g, off, none⟩ ∧ w.cell? ⟨g, off + j, none⟩ = some x
/-- The slice v holds xs in a block of its own, from block b on; there it may be appended to. -/
def Own (w : World) (b : Nat) (e : TypeId) (v : Value) (xs : List Value) : Prop := w.ownsRow b e 1 v xs.length xs

section
variable {w w1 : World} {v : Value} {xs : List Value} {b : Nat} {e : TypeId}
theorem Own.nil (w : World) (b : Nat) (e : TypeId) : Own w b e (.slice none 0 0) [] := World.ownsRow_nil _ _ _ _
theorem Own.reads (h : Own w b e v xs) : Reads w v xs := by
  obtain ⟨_, h⟩ := h
  rcases h with ⟨rfl, h0⟩ | ⟨g, cap, cur, rfl, hb, hg, hn, hc, hs, ht⟩
  · exact ⟨none, 0, by rw [h0], by rw [h0]; exact Nat.zero_le _, fun j x hj => by rw [List.eq_nil_of_length_eq_zero h0] at hj; simp at hj⟩
  · refine ⟨_, _, rfl, Nat.le_trans hn hc, fun j x hx => ⟨g, 0, rfl, ?_⟩⟩
    have hj : j < xs.length := (List.getElem?_eq_some_iff.1 hx).1
    rw [Nat.zero_add, cell_of_row _ _ _ _ _ _ hg]
    have : (cur.toList.take (xs.length * 1))[j]? = xs[j]? := by rw [ht]
    rw [List.getElem?_take, if_pos (by omega), hx] at this
    simpa using this
theorem Own.of_blk {g : Nat} {cs : Array Value} {n cap : Nat} (h : Blk w g cs e) (hb : b ≤ g) (hs : cs.size = cap) (hn : n ≤ cap) (hm : cap ≤ maxLen) (hx : xs = cs.toList.take n) : Own w b e (.slice (some ⟨g, 0, none⟩) n cap) xs := by
  have hl : xs.length = n := by rw [hx, List.length_take]; simp; omega
  unfold Own
  rw [hl]
  exact ⟨by omega, .inr ⟨g, cap, cs, rfl, hb, h, hn, hm, by omega, by rw [hx, Nat.mul_one]⟩⟩
theorem Own.mono {b' : Nat} (h : Own w b e v xs) (hb : b' ≤ b) : Own w b' e v xs := by
  refine ⟨h.1, ?_⟩
  rcases h.2 with h | ⟨g, cap, cur, h1, h2, r⟩
  · exact .inl h
  · exact .inr ⟨g, cap, cur, h1, by omega, r⟩
theorem Own.chg {S : List Nat} (h : Own w b e v xs) (hc : Chg S w w1) (hS : ∀ g, g ∈ S → v.ownBlock ≠ some g) : Own w1 b e v xs := by
  refine ⟨h.1, ?_⟩
  rcases h.2 with h | ⟨g, cap, cur, h1, h2, h3, r⟩
  · exact .inl h
  · refine .inr ⟨g, cap, cur, h1, h2, ?_, r⟩
    rw [hc.block g (Array.getElem?_eq_some_iff.1 h3).1 (fun hm => hS g hm (by rw [h1]; rfl))]
    exact h3
theorem Own.alloc (h : Own w b e v xs) (o : Obj) : Own (w.alloc o) b e v xs := World.ownsRow.alloc h o
theorem Own.drew (h : Own w b e v xs) : Own w.drew b e v xs := h
theorem Own.keep (h : Own w b e v xs) (hc : Chg [] w w1) : Own w1 b e v xs := h.chg hc (fun g hg => by cases hg)
theorem Own.block (h : Own w b e v xs) : ∀ g, g ∈ v.ownBlock.toList → b ≤ g ∧ g < w.heap.size := by
  intro g hg
  refine World.ownsRow.lt h g ?_
  cases hv : v.ownBlock with
  | none => rw [hv] at hg; simp at hg
  | some x => rw [hv] at hg; simp at hg; rw [hg]
theorem Reads.chg {S : List Nat} (h : Reads w v xs) (hc : Chg S w w1) (hS : ∀ g, g ∈ S → v.ownBlock ≠ some g) : Reads w1 v xs := by
  obtain ⟨ao, cap, rfl, hm, h⟩ := h
  refine ⟨ao, cap, rfl, hm, fun j x hx => ?_⟩
  obtain ⟨g, off, rfl, hj'⟩ := h j x hx
  refine ⟨g, off, rfl, ?_⟩
  rw [← hj']
  exact World.cell?_of_block (w := w) (hc.block g (World.block_lt_of_cell? w _ hj') (fun hm => hS g hm rfl))
theorem Reads.keep (h : Reads w v xs) (hc : Chg [] w w1) : Reads w1 v xs := h.chg hc (fun g hg => by cases hg)
theorem Blk.reads {g : Nat} {cs : Array Value} {t : TypeId} (h : Blk w g cs t) (n cap : Nat) (hn : n ≤ cs.size) (hm : cs.size ≤ maxLen) (hx : xs = cs.toList.take n) : Reads w (.slice (some ⟨g, 0, none⟩) n cap) xs := by
  subst hx
  have hl : (cs.toList.take n).length = n := by rw [List.length_take]; simp; omega
  refine ⟨some ⟨g, 0, none⟩, cap, by rw [hl], by rw [hl]; omega, fun j x hx => ⟨g, 0, rfl, ?_⟩⟩
  have hj : j < n := by have := (List.getElem?_eq_some_iff.1 hx).1; omega
  rw [List.getElem?_take, if_pos hj] at hx
  rw [Nat.zero_add, h.cell, ← Array.getElem?_toList]
  exact hx
theorem Reads.alloc (h : Reads w v xs) (o : Obj) : Reads (w.alloc o) v xs := h.keep ((Chg.refl _ _).alloc o)
theorem Reads.nil (w : World) (ao : Option Addr) (cap : Nat) : Reads w (.slice ao 0 cap) [] := ⟨ao, cap, rfl, Nat.zero_le _, fun j x hj => by simp at hj⟩
end

section
variable {P : Program} {ops : Array Oper} {Q : Exit → Act → World → Prop} {rest : List Oper} {o : Oper} {a : Act} {w : World}
/-- 'append(s, u)': one value of one cell more. -/
theorem wpList_app1 (hgd : o.guard = none) (s x : Operand) (t : TypeId)
    (ho : o.op = .call { callee := .builtin .append, args := #[s, x], argTypes := #[t, t] })
    (b : Nat) (e : TypeId) (z : Value) (bytes : Nat) (ht : P.underlying t = some (.slice e)) (hi : (P.info? e).map (fun i => (i.zero, i.size, i.bytes)) = some (some z, 1, bytes)) (hzs : z.cells.size = 1)
    (v : Value) (xs : List Value) (hs : a.eval s = v) (hown : Own w b e v xs)
    (g c : Nat) (u : Value) (hx : a.eval x = .slice (some ⟨g, 0, none⟩) 1 c) (hg : w.cell? ⟨g, 0, none⟩ = some u) (h1 : u.oneCell' = true)
    (h63 : xs.length + 1 ≤ maxLen) (hbytes : (xs.length + 1) * bytes ≤ 140737488355328) (hb : b ≤ w.heap.size)
    (h : ∀ v' w', Own w' b e v' (xs ++ [u]) → Chg v.ownBlock.toList w w' → wpList P ops Q rest (a.put o.dst v') w') : wpList P ops Q (o :: rest) a w := by
  obtain ⟨i0, hi, hz0, hz1, hz2⟩ := info_parts hi
  refine wpList_append_own w hgd s x t ho b e i0 z 1 bytes ht hi hz0 hz1 hz2 hzs (by decide) v xs.length xs hs hown ⟨g, 0, none⟩ 1 c [u] hx rfl ?_ ?_ h63 hbytes hb ?_
  · intro j u' hj
    match j, hj with
    | 0, hj => simp at hj; subst hj; simpa [Addr.add] using hg
  · intro u' hu; simp at hu; subst hu; exact h1
  · intro v' w' h1 h2 _
    exact h v' w' (by unfold Own; simpa using h1) (Chg.of_grown h2)
end

section
variable {P : Program} {ops : Array Oper} {Q : Exit → Act → World → Prop} {rest : List Oper} {o : Oper} {a : Act} {w : World}
/-- 'max' and 'min' of two whole numbers, the answer as the caller wants it spelled. -/
theorem wpList_max (hgd : Region.wanted o (yielded ops a.tmps) = true) (x y : Operand) (t t' : TypeId)
    (ho : o.op = .call { callee := .builtin .max, args := #[x, y], argTypes := #[t, t'] }) (k : IntKind) (p q r : Int)
    (hx : a.eval x = .int k p) (hy : a.eval y = .int k q) (hr : r = if p < q then q else p)
    (h : wpList P ops Q rest (a.put o.dst (.int k r)) w) : wpList P ops Q (o :: rest) a w := by
  refine wpList_valW hgd ?_ h
  subst hr
  by_cases hpq : p < q
  · rw [if_pos hpq]
    simp [execOp, ho, resolve, invoke, builtin, hx, hy, Builtin.max_, Builtin.max2, hpq, Sem.run_pure]
  · rw [if_neg hpq]
    simp [execOp, ho, resolve, invoke, builtin, hx, hy, Builtin.max_, Builtin.max2, hpq, Sem.run_pure]
theorem wpList_min (hgd : Region.wanted o (yielded ops a.tmps) = true) (x y : Operand) (t t' : TypeId)
    (ho : o.op = .call { callee := .builtin .min, args := #[x, y], argTypes := #[t, t'] }) (k : IntKind) (p q r : Int)
    (hx : a.eval x = .int k p) (hy : a.eval y = .int k q) (hr : r = if q < p then q else p)
    (h : wpList P ops Q rest (a.put o.dst (.int k r)) w) : wpList P ops Q (o :: rest) a w := by
  refine wpList_valW hgd ?_ h
  subst hr
  by_cases hpq : q < p
  · rw [if_pos hpq]
    simp [execOp, ho, resolve, invoke, builtin, hx, hy, Builtin.min_, Builtin.min2, hpq, Sem.run_pure]
  · rw [if_neg hpq]
    simp [execOp, ho, resolve, invoke, builtin, hx, hy, Builtin.min_, Builtin.min2, hpq, Sem.run_pure]
end

theorem madeCells_one (z : Value) (n : Nat) : madeCells #[z] n = Array.replicate n z := by
  apply Array.ext
  · simp [size_madeCells]
  · intro i h1 h2
    simp [madeCells, Nat.mod_one]

section
variable {P : Program} {ops : Array Oper} {Q : Exit → Act → World → Prop} {rest : List Oper} {o : Oper} {a : Act} {w : World}
/-- 'make([]T, n)', each element of one cell. -/
theorem wpList_make1 (hgd : o.guard = none) (l c : Operand) (t : TypeId) (hop : o.op = Op.makeSlice t l c)
    (e : TypeId) (z : Value) (bytes : Nat) (ht : P.underlying t = some (.slice e)) (hi : (P.info? e).map (fun i => (i.zero, i.size, i.bytes)) = some (some z, 1, bytes)) (hz : z.cells = #[z])
    (kl kc : IntKind) (n : Nat) (hl : a.eval l = .int kl n) (hc : a.eval c = .int kc n) (hb : bytes * n ≤ 281474976710656) (h63 : n ≤ 9223372036854775807)
    (h : ∀ w', Blk w' w.heap.size (Array.replicate n z) e → Chg [] w w' → w'.heap.size = w.heap.size + 1 → wpList P ops Q rest (a.put o.dst (.slice (some ⟨w.heap.size, 0, none⟩) n n)) w') :
    wpList P ops Q (o :: rest) a w := by
  obtain ⟨i0, hi0, hz0, hz1, hz2⟩ := info_parts hi
  have hb' : ((bytes * n : Nat) : Int) ≤ 281474976710656 := by omega
  rw [Int.natCast_mul] at hb'
  have hr := run_make (P := P) w t e i0 z ht hi0 hz0 kl kc n n (by omega) (by omega) (by rw [hz2]; exact hb') (by omega)
  rw [hz1, hz, Nat.mul_one, madeCells_one] at hr
  simp only [Int.toNat_natCast] at hr
  refine wpList_val hgd ?_ (h _ (Blk.new _ _ _) ((Chg.refl _ _).alloc _) (by simp))
  unfold execOp
  simp only [hop, hl, hc, Sem.run_bind, hr, Result.andThen_ok, Sem.run_pure]
end

theorem splice_get {cur cs : List Value} {off : Nat} (hfit : off + cs.length ≤ cur.length) (j : Nat) :
    (cur.take off ++ (cs ++ cur.drop (off + cs.length)))[j]? = if off ≤ j ∧ j < off + cs.length then cs[j - off]? else cur[j]? := by
  by_cases h1 : j < off
  · rw [List.getElem?_append_left (by rw [List.length_take]; omega), List.getElem?_take, if_pos h1, if_neg (by omega)]
  · have hl : (cur.take off).length = off := by rw [List.length_take]; omega
    rw [List.getElem?_append_right (by omega), hl]
    by_cases h2 : j < off + cs.length
    · rw [List.getElem?_append_left (by omega), if_pos ⟨by omega, h2⟩]
    · rw [List.getElem?_append_right (by omega), List.getElem?_drop, if_neg (by omega)]
      congr 1
      omega

section
variable {P : Program} {ops : Array Oper} {Q : Exit → Act → World → Prop} {rest : List Oper} {o : Oper} {a : Act} {w : World}
/-- 'copy(d, s)' into a block that is known. -/
theorem wpList_copy1 (hgd : o.guard = none) (d s : Operand) (dT sT : TypeId)
    (ho : o.op = .call { callee := .builtin .copy, args := #[d, s], argTypes := #[dT, sT] }) (elem : TypeId) (hu : P.underlying dT = some (.slice elem)) (hsz : (P.info? elem).map (·.size) = some 1)
    (g off dLen dCap : Nat) (sp : Option Addr) (sLen sCap : Nat) (hd : a.eval d = .slice (some ⟨g, off, none⟩) dLen dCap) (hs : a.eval s = .slice sp sLen sCap)
    (cur : Array Value) (t : TypeId) (hg : Blk w g cur t) (cs : List Value) (hn : cs.length = Nat.min sLen dLen)
    (hsrc : cs = [] ∨ ∃ g' o', sp = some ⟨g', o', none⟩ ∧ ∀ j v, cs[j]? = some v → w.cell? ⟨g', o' + j, none⟩ = some v)
    (hfit : off + cs.length ≤ cur.size) (h1 : ∀ v ∈ cs, v.oneCell' = true)
    (h : ∀ w' cur', Blk w' g cur' t → cur'.size = cur.size → (∀ j, cur'[j]? = if off ≤ j ∧ j < off + cs.length then cs[j - off]? else cur[j]?) → Chg [g] w w' →
      wpList P ops Q rest (a.put o.dst (goInt cs.length)) w') : wpList P ops Q (o :: rest) a w := by
  rcases hsrc with rfl | ⟨g', o', rfl, hsrc⟩
  · refine wpList_copy_nothing hgd d s dT sT ho elem hu hsz _ sp dLen dCap sLen sCap hd hs (by simpa using hn.symm) ?_
    exact h w cur hg rfl (fun j => by rw [if_neg (by simp only [List.length_nil]; omega)]) (Chg.refl _ _)
  · refine wpList_copy_own hgd d s dT sT ho elem hu hsz g off dLen dCap ⟨g', o', none⟩ sLen sCap hd hs cur t hg cs hn ?_ hfit h1 ?_
    · intro j v hj
      have hadd : (⟨g', o', none⟩ : Addr).add j = ⟨g', o' + j, none⟩ := by unfold Addr.add; split <;> simp_all
      rw [hadd]; exact hsrc j v hj
    · refine h _ _ (Blk.setRow hg _) (by simp; omega) (fun j => ?_) ((Chg.refl _ _).setRow (.inl (by simp)) _)
      rw [← Array.getElem?_toList, ← Array.getElem?_toList]
      exact splice_get (by simpa using hfit) j
end
end Bosun

/- What the last step of every law uses: a slice of whole numbers that came in, as a list. Over any program. -/
namespace Bosun
open Go Go.RowKit Go.ChangeShapes Go.WideShapes Go.ChangeAt

theorem open_row {P : Program} {H : Type} {enc : TypeId × Value → H} {W : World} {k : IntKind} {T E : TypeId} (hT : P.underlying T = some (.slice E)) (hE : P.underlying E = some (.int k)) (hc : P.cellsOf E = 1)
    {a : Option Addr} {len cap : Nat} {d : DataW H} {p : List MemPlace} (h : DataW.Trod enc P W 0 (fun _ => true) true T (.slice a len cap) d p) :
    ∃ l : List Int, (∀ z ∈ l, (Lit.int k z).wf = true) ∧ Reads W (.slice a len cap) (l.map (Value.int k)) := by
  obtain ⟨fuel, hf⟩ := h
  rcases open_ints hT hE hc hf with ⟨hcs, _⟩ | ⟨x, l, c, zs, hcs, _, hl, hm, hz, _, hcell, hwz⟩
  · simp [Value.cells] at hcs
    obtain ⟨rfl, rfl, rfl⟩ := hcs
    exact ⟨[], by simp, Reads.nil _ _ _⟩
  · simp [Value.cells] at hcs
    obtain ⟨rfl, rfl, rfl⟩ := hcs
    have hz : zs.length = cap := by simpa using hz
    have hlen : (zs.take len).length = len := by rw [List.length_take]; omega
    refine ⟨zs.take len, fun z hz => hwz z (List.mem_of_mem_take hz), some x, cap, by rw [List.length_map, hlen], by rw [List.length_map, hlen]; omega, fun j y hy => ?_⟩
    have hj : j < len := by have := (List.getElem?_eq_some_iff.1 hy).1; rw [List.length_map, hlen] at this; exact this
    have hcj := hcell j (by omega)
    obtain ⟨g, off, spot⟩ := x
    have hspot : spot = none := by simpa [Addr.add] using World.cell?_spot (hcell 0 (by omega))
    subst hspot
    refine ⟨g, off, rfl, ?_⟩
    rw [add_plain] at hcj
    rw [hcj]
    rw [List.getElem?_map, List.getElem?_take, if_pos hj, List.getElem?_eq_getElem (by omega)] at hy
    rw [← hy]
    simp [List.getD, List.getElem?_eq_getElem (show j < zs.length by omega)]

theorem open_cap {P : Program} {H : Type} {enc : TypeId × Value → H} {W : World} {k : IntKind} {T E : TypeId} (hT : P.underlying T = some (.slice E)) (hE : P.underlying E = some (.int k)) (hc : P.cellsOf E = 1)
    {a : Option Addr} {len cap : Nat} {d : DataW H} {p : List MemPlace} (h : DataW.Trod enc P W 0 (fun _ => true) true T (.slice a len cap) d p) : len ≤ cap := by
  obtain ⟨fuel, hf⟩ := h
  rcases open_ints hT hE hc hf with ⟨hcs, _⟩ | ⟨x, l, c, zs, hcs, _, hl, hm, hz, _, hcell, hwz⟩
  · simp [Value.cells] at hcs
    omega
  · simp [Value.cells] at hcs
    omega

theorem open_words {P : Program} {H : Type} {enc : TypeId × Value → H} {W : World} {T E : TypeId} (hT : P.underlying T = some (.slice E)) (hE : P.underlying E = some (.int .u64)) (hc : P.cellsOf E = 1)
    {a : Option Addr} {len cap : Nat} {d : DataW H} {p : List MemPlace} (h : DataW.Trod enc P W 0 (fun _ => true) true T (.slice a len cap) d p) :
    ∃ l : List Nat, (∀ z ∈ l, z < 18446744073709551616) ∧ Reads W (.slice a len cap) (words l) := by
  obtain ⟨l, h1, h2⟩ := open_row hT hE hc h
  have hb : ∀ z ∈ l, 0 ≤ z ∧ z ≤ 18446744073709551615 := fun z hz => bounds_u64 (h1 z hz)
  refine ⟨l.map Int.toNat, ?_, ?_⟩
  · intro z hz
    simp only [List.mem_map] at hz
    obtain ⟨y, hy, rfl⟩ := hz
    have := hb y hy
    omega
  · have e : words (l.map Int.toNat) = l.map (Value.int .u64) := by
      unfold words
      rw [List.map_map]
      refine List.map_congr_left fun y hy => ?_
      have := hb y hy
      simp only [Function.comp]
      rw [Int.toNat_of_nonneg this.1]
    rw [e]; exact h2
theorem open_small {P : Program} {H : Type} {enc : TypeId × Value → H} {W : World} {T E : TypeId} (hT : P.underlying T = some (.slice E)) (hE : P.underlying E = some (.int .u8)) (hc : P.cellsOf E = 1)
    {a : Option Addr} {len cap : Nat} {d : DataW H} {p : List MemPlace} (h : DataW.Trod enc P W 0 (fun _ => true) true T (.slice a len cap) d p) :
    ∃ l : List Int, (∀ z ∈ l, 0 ≤ z ∧ z ≤ 255) ∧ Reads W (.slice a len cap) (l.map (Value.int .u8)) := by
  obtain ⟨l, h1, h2⟩ := open_row hT hE hc h
  exact ⟨l, fun z hz => bounds_u8 (h1 z hz), h2⟩
theorem open_whole {P : Program} {H : Type} {enc : TypeId × Value → H} {W : World} {T E : TypeId} (hT : P.underlying T = some (.slice E)) (hE : P.underlying E = some (.int .i64)) (hc : P.cellsOf E = 1)
    {a : Option Addr} {len cap : Nat} {d : DataW H} {p : List MemPlace} (h : DataW.Trod enc P W 0 (fun _ => true) true T (.slice a len cap) d p) :
    ∃ l : List Int, (∀ z ∈ l, -9223372036854775808 ≤ z ∧ z ≤ 9223372036854775807) ∧ Reads W (.slice a len cap) (ints l) := by
  obtain ⟨l, h1, h2⟩ := open_row hT hE hc h
  exact ⟨l, fun z hz => bounds_i64 (h1 z hz), h2⟩
theorem nat_u8 {a : Int} (h : (Lit.int .u8 a).wf = true) : ∃ n : Nat, a = n ∧ n < 256 := by
  have h1 := bounds_u8 h
  exact ⟨a.toNat, by omega, by omega⟩
theorem nat_u32 {a : Int} (h : (Lit.int .u32 a).wf = true) : ∃ n : Nat, a = n ∧ n < 4294967296 := by
  have h1 := bounds_u32 h
  exact ⟨a.toNat, by omega, by omega⟩
theorem nat_u64 {a : Int} (h : (Lit.int .u64 a).wf = true) : ∃ n : Nat, a = n ∧ n < 18446744073709551616 := by
  have h1 := bounds_u64 h
  exact ⟨a.toNat, by omega, by omega⟩
end Bosun

/- Slices of structs that came in: opened, read. Over any program. -/
namespace Bosun
open Go Go.RowKit Go.ChangeShapes Go.WideShapes Go.ChangeAt

/-- The slice v reads as rows of n cells each. -/
def ReadsS (w : World) (v : Value) (n : Nat) (rows : List (List Value)) : Prop :=
  ∃ ao cap, v = .slice ao rows.length cap ∧ rows.length ≤ maxLen ∧ ∀ i r, rows[i]? = some r → ∃ g off, ao = some ⟨g, off, none⟩ ∧ ∀ j y, r[j]? = some y → w.cell? ⟨g, off + i * n + j, none⟩ = some y
theorem ReadsS.keep {w w1 : World} {v : Value} {n : Nat} {rows : List (List Value)} (h : ReadsS w v n rows) (hc : Chg [] w w1) : ReadsS w1 v n rows := by
  obtain ⟨ao, cap, rfl, hm, h⟩ := h
  refine ⟨ao, cap, rfl, hm, fun i r hr => ?_⟩
  obtain ⟨g, off, rfl, hj'⟩ := h i r hr
  refine ⟨g, off, rfl, fun j y hy => ?_⟩
  rw [← hj' j y hy]
  exact World.cell?_of_block (w := w) (hc.block g (World.block_lt_of_cell? w _ (hj' j y hy)) (by simp))

section
variable {P : Program} {H : Type} {enc : TypeId × Value → H} {W : World}
theorem open_elems {Q : List Value → Prop} {T E : TypeId} (hT : P.underlying T = some (.slice E)) (n : Nat) (hn : 0 < n) (hc : P.cellsOf E = n)
    (hQ : ∀ fuel cs y, DataW.trod enc P W 0 (fun _ => true) true fuel E cs = some y → Q cs ∧ cs.length = n)
    {a : Option Addr} {len cap : Nat} {d : DataW H} {p : List MemPlace} (h : DataW.Trod enc P W 0 (fun _ => true) true T (.slice a len cap) d p) :
    ∃ rows : List (List Value), (∀ r ∈ rows, Q r) ∧ ReadsS W (.slice a len cap) n rows := by
  obtain ⟨fuel, hf⟩ := h
  rcases DataW.trod_slice hT hf with ⟨hcs, _⟩ | ⟨x, l, c, elems, rest, m, _, hcs, _, _, hl, hm, hlen, hel, _, _⟩
  · simp [Value.cells] at hcs
    obtain ⟨rfl, rfl, rfl⟩ := hcs
    exact ⟨[], by simp, none, 0, rfl, by simp, fun i r hr => by simp at hr⟩
  · simp [Value.cells] at hcs
    obtain ⟨rfl, rfl, rfl⟩ := hcs
    rw [hc] at hel
    have each : ∀ i, i < len → ∃ cs, W.cells? 0 (x.add (i * n)) n = some cs ∧ Q cs ∧ cs.length = n ∧ ∀ j, j < n → W.cell? ((x.add (i * n)).add j) = cs[j]? := by
      intro i hi
      have h1 := hel i hi
      rw [List.getElem?_eq_getElem (show i < elems.length by omega), Option.bind_eq_some_iff] at h1
      obtain ⟨cs, h2, h3⟩ := h1
      have h4 := World.cells?_some h2
      exact ⟨cs, h2, (hQ _ _ _ h3).1, (hQ _ _ _ h3).2, fun j hj => h4.2.2 j hj⟩
    refine ⟨(List.range len).map fun i => (W.cells? 0 (x.add (i * n)) n).getD [], ?_, some x, cap, by simp, by simp; omega, ?_⟩
    · intro r hr
      simp only [List.mem_map, List.mem_range] at hr
      obtain ⟨i, hi, rfl⟩ := hr
      obtain ⟨cs, h1, h2, _⟩ := each i hi
      rw [h1]; exact h2
    · intro i r hr
      have hi : i < len := by have := (List.getElem?_eq_some_iff.1 hr).1; simpa using this
      obtain ⟨cs, h1, _, h3, h4⟩ := each i hi
      rw [List.getElem?_map, List.getElem?_range hi] at hr
      simp only [Option.map_some, h1, Option.getD_some, Option.some.injEq] at hr
      subst hr
      obtain ⟨g, off, spot⟩ := x
      have hspot : spot = none := by
        obtain ⟨cs0, _, _, k3, k4⟩ := each 0 (by omega)
        have := World.cell?_spot (Eq.trans (k4 0 hn) (List.getElem?_eq_getElem (show 0 < cs0.length by omega)))
        simpa [Addr.add] using this
      subst hspot
      refine ⟨g, off, rfl, fun j y hy => ?_⟩
      have hj : j < n := by have := (List.getElem?_eq_some_iff.1 hy).1; omega
      have h5 := h4 j hj
      rw [add_plain, add_plain, hy] at h5
      exact h5
end

section
variable {P : Program} {ops : Array Oper} {rest : List Oper} {o : Oper} {a : Go.Act} {w : World} {Q : Exit → Go.Act → World → Prop}
theorem run_loadVar_cells (w : World) (g off : Nat) (ty : TypeId) (cs : Array Value) (d : TypeDesc) (hc : ∀ j y, cs[j]? = some y → w.cell? ⟨g, off + j, none⟩ = some y)
    (hu : P.underlying ty = some d) (hd : (match d with | .struct _ | .array _ _ => true | _ => false) = true) (hi : (P.info? ty).map (·.size) = some cs.size) :
    (loadVar ty ⟨g, off, none⟩).run P w = .ok (.agg cs) w := by
  have hl : (loadCells ⟨g, off, none⟩ cs.toList.length).run P w = .ok cs.toList.toArray w :=
    run_loadCells_list (P := P) w ⟨g, off, none⟩ cs.toList (fun j v hv => by
      rw [add_plain]
      exact hc j v (by simpa using hv))
  cases hq : P.info? ty with
  | none => simp [hq] at hi
  | some i =>
    have hs : i.size = cs.size := by simpa [hq] using hi
    have hagg : (isAgg ty).run P w = .ok true w := by
      unfold isAgg
      rw [Sem.run_bind, run_underlying hu w]
      cases d <;> simp_all
    simp only [Array.length_toList, Array.toArray_toList] at hl
    simp [loadVar, Sem.run_bind, hagg, Go.sizeOf, typeInfo, hq, hs, hl]
/-- A struct is read out of a row. -/
theorem wpList_get_cells (hgd : Region.wanted o (yielded ops a.tmps) = true) (ty : TypeId) (x : Operand) (ho : o.op = .load ty x)
    (g off : Nat) (hx : a.eval x = .pointer (some ⟨g, off, none⟩)) (cs : Array Value) (d : TypeDesc) (hc : ∀ j y, cs[j]? = some y → w.cell? ⟨g, off + j, none⟩ = some y)
    (hu : P.underlying ty = some d) (hd : (match d with | .struct _ | .array _ _ => true | _ => false) = true) (hi : (P.info? ty).map (·.size) = some cs.size)
    (h : wpList P ops Q rest (a.put o.dst (.agg cs)) w) : wpList P ops Q (o :: rest) a w := by
  refine wpList_valW hgd (w' := w) ?_ h
  unfold execOp
  simp only [ho, hx, Instr.loadAt, Instr.sureAddr, Sem.run_bind, Sem.run_pure, Result.andThen_ok, run_loadVar_cells w g off ty cs d hc hu hd hi]
end
end Bosun

/- Several cells of a known block are stored at once: a struct, into its place in a row. Over any program. -/
namespace Bosun
open Go Go.RowKit
section
variable {P : Program} {ops : Array Oper} {Q : Exit → Act → World → Prop} {rest : List Oper} {o : Oper} {a : Act} {w : World}
theorem wpList_put_cells (hgd : o.guard = none) (ty : TypeId) (x y : Operand) (ho : o.op = .store ty x y)
    (g off : Nat) (hx : a.eval x = .pointer (some ⟨g, off, none⟩)) (v : Value) (hy : a.eval y = v) (vs : List Value) (hv : v.cells.toList = vs) (t : TypeId) (old : Array Value) (hg : Blk w g old t)
    (hi : (P.info? ty).map (·.size) = some vs.length) (hfit : off + vs.length ≤ old.size) (h1 : ∀ u ∈ vs, u.oneCell' = true)
    (h : ∀ w' cur', Blk w' g cur' t → cur'.size = old.size → (∀ j, cur'[j]? = if off ≤ j ∧ j < off + vs.length then vs[j - off]? else old[j]?) → Chg [g] w w' → wpList P ops Q rest (a.put o.dst undef) w') : wpList P ops Q (o :: rest) a w := by
  obtain ⟨i0, hi0, hi1⟩ := Option.map_eq_some_iff.1 hi
  have hst := run_storeCells_at P g off t vs 0 old w hg (by simpa using hfit) h1
  simp only [Nat.add_zero] at hst
  have hsz : v.cells.size = vs.length := by rw [← hv]; simp
  have hr : (execOp a.eval o).run P w = .ok .skip (w.setRow g (old.toList.take off ++ vs ++ old.toList.drop (off + vs.length)).toArray) := by
    unfold execOp
    simp only [ho, hx, hy]
    simp [Instr.storeAt, Instr.sureAddr, storeVar, Go.sizeOf, typeInfo, hi0, hi1, hsz, hv, hst]
  refine wpList_none hgd hr (h _ _ (Blk.setRow hg _) (by simp; omega) (fun j => ?_) ((Chg.refl _ _).setRow (.inl (by simp)) _))
  rw [← Array.getElem?_toList, ← Array.getElem?_toList]
  have := splice_get (cur := old.toList) (cs := vs) (off := off) (by simpa using hfit) j
  simpa using this
end
end Bosun

/- A scope in which the run may jump ahead, once, to one label. Over any program. -/
namespace Bosun
open Go
/-- As Q; by a goto to label l: J; by any other goto: no way out. -/
theorem wp_mono {P : Program} {c : Code} {Q Q' : Exit → Act → World → Prop} {a : Act} {w : World} (h : c.wp P Q a w) (hq : ∀ e a w, Q e a w → Q' e a w) : c.wp P Q' a w := by
  intro b k cs
  obtain ⟨e, a₁, w₁, h1, h2⟩ := h b k cs
  exact ⟨e, a₁, w₁, hq _ _ _ h1, h2⟩
theorem wp_scope_ahead {P : Program} {Q : Exit → Act → World → Prop} {a : Act} {w : World} {c rest : Code} (l : Nat) (hf : findLabel c l = some rest)
    (first : c.wp P (Exit.jump l (fun a' w' => rest.wp P (Exit.noGoto Q) a' w') Q) a w) : (Code.scope c).wp P Q a w := by
  refine wp_scope_jumps l (fun a' w' => rest.wp P (Exit.noGoto Q) a' w') (fun _ _ => 0) hf first (fun a w hJ => wp_mono hJ ?_)
  intro e a w h
  cases e <;> first | exact h | exact h.elim
theorem Exit.jump_goto {l : Nat} {J : Act → World → Prop} {Q : Exit → Act → World → Prop} {a : Act} {w : World} (h : J a w) : Go.Exit.jump l J Q (.goto l) a w := ⟨rfl, h⟩
end Bosun

/- A slice of one-cell elements that lies anywhere in a block of the call's own: a queue ('q = q[1:]', 'append(q, x)'). Over any program. -/
namespace Bosun
open Go Go.RowKit

/-- The slice v holds xs in a block of its own, from block b on, at any place in it; there it may be appended to. -/
def Que (w : World) (b : Nat) (e : TypeId) (v : Value) (xs : List Value) : Prop :=
  ∃ g off cap cur, v = .slice (some ⟨g, off, none⟩) xs.length cap ∧ b ≤ g ∧ Blk w g cur e ∧ off + cap ≤ cur.size ∧ xs.length ≤ cap ∧ cap ≤ maxLen ∧ ∀ j x, xs[j]? = some x → cur[off + j]? = some x
/-- The block that a slice lies in. -/
def blkOf : Value → Option Nat
  | .slice (some a) _ _ => some a.block
  | _ => none
section
variable {w w1 : World} {v : Value} {xs : List Value} {b : Nat} {e : TypeId}
theorem Que.of_own (h : Own w b e v xs) (h0 : xs ≠ []) : Que w b e v xs ∧ blkOf v = v.ownBlock := by
  obtain ⟨hl, h⟩ := h
  rcases h with ⟨rfl, hn⟩ | ⟨g, cap, cur, rfl, hb, hg, hn, hc, hs, ht⟩
  · exact absurd (List.eq_nil_of_length_eq_zero hn) h0
  · refine ⟨⟨g, 0, cap, cur, rfl, hb, hg, by omega, hn, hc, fun j x hx => ?_⟩, rfl⟩
    have hj : j < xs.length := (List.getElem?_eq_some_iff.1 hx).1
    have : (cur.toList.take (xs.length * 1))[j]? = xs[j]? := by rw [ht]
    rw [List.getElem?_take, if_pos (by omega), hx] at this
    simpa using this
theorem Que.mono {b' : Nat} (h : Que w b e v xs) (hb : b' ≤ b) : Que w b' e v xs := by
  obtain ⟨g, off, cap, cur, h1, h2, h3⟩ := h
  exact ⟨g, off, cap, cur, h1, by omega, h3⟩
theorem Que.chg {S : List Nat} (h : Que w b e v xs) (hc : Chg S w w1) (hS : ∀ g, g ∈ S → blkOf v ≠ some g) : Que w1 b e v xs := by
  obtain ⟨g, off, cap, cur, rfl, h2, h3, r⟩ := h
  exact ⟨g, off, cap, cur, rfl, h2, h3.chg hc (fun hm => hS g hm rfl), r⟩
theorem Que.keep (h : Que w b e v xs) (hc : Chg [] w w1) : Que w1 b e v xs := h.chg hc (fun g hg => by cases hg)
theorem Que.block (h : Que w b e v xs) : ∃ g, blkOf v = some g ∧ b ≤ g ∧ g < w.heap.size := by
  obtain ⟨g, off, cap, cur, rfl, h2, h3, r⟩ := h
  exact ⟨g, rfl, h2, h3.lt⟩
theorem Que.reads (h : Que w b e v xs) : Reads w v xs := by
  obtain ⟨g, off, cap, cur, rfl, h2, h3, h4, h5, h6, h7⟩ := h
  exact ⟨_, _, rfl, by omega, fun j x hx => ⟨g, off, rfl, by rw [h3.cell]; exact h7 j x hx⟩⟩
/-- Without its first element. -/
theorem Que.tail {x : Value} {g off cap n : Nat} (h : Que w b e (.slice (some ⟨g, off, none⟩) n cap) (x :: xs)) :
    Que w b e (.slice (if cap = 1 then some ⟨g, off, none⟩ else some ⟨g, off + 1, none⟩) (n - 1) (cap - 1)) xs := by
  obtain ⟨g', off', cap', cur, hv, h2, h3, h4, h5, h6, h7⟩ := h
  simp at hv
  obtain ⟨⟨rfl, rfl⟩, rfl, rfl⟩ := hv
  simp only [List.length_cons] at h5
  by_cases h1 : cap = 1
  · subst h1
    obtain rfl : xs = [] := List.eq_nil_of_length_eq_zero (by omega)
    exact ⟨g, off, 0, cur, by simp, h2, h3, by omega, by simp, by omega, fun j x hx => by simp at hx⟩
  · rw [if_neg h1]
    exact ⟨g, off + 1, cap - 1, cur, by simp, h2, h3, by omega, by omega, by omega, fun j y hy => by
      have := h7 (j + 1) y (by simpa using hy)
      rw [show off + 1 + j = off + (j + 1) from by omega]; exact this⟩
end

section
variable {P : Program} {ops : Array Oper} {Q : Exit → Act → World → Prop} {rest : List Oper} {o : Oper} {a : Act} {w : World}
/-- 'q[1:]' -/
theorem wpList_que_tail (hgd : o.guard = none) (t : TypeId) (x lo : Operand) (ho : o.op = .slice t x (some lo) none none) (b : Nat) (e : TypeId) (ht : P.underlying t = some (.slice e)) (hz : (P.info? e).map (·.size) = some 1)
    (k : IntKind) (hlo : a.eval lo = .int k 1) (v : Value) (hx : a.eval x = v) (y : Value) (ys : List Value) (hq : Que w b e v (y :: ys))
    (h : ∀ v', Que w b e v' ys → blkOf v' = blkOf v → wpList P ops Q rest (a.put o.dst v') w) : wpList P ops Q (o :: rest) a w := by
  have hq0 := hq
  obtain ⟨g, off, cap, cur, rfl, h2, h3, h4, h5, h6, h7⟩ := hq0
  have hpe : P.elem t = e := by simp [Program.elem, ht]
  have ht' : P.underlying t = some (.slice (P.elem t)) := by rw [hpe]; exact ht
  obtain ⟨i0, hi0, hi1⟩ := Option.map_eq_some_iff.1 hz
  refine wpList_val hgd (v := .slice (if cap = 1 then some ⟨g, off, none⟩ else some ⟨g, off + 1, none⟩) ((y :: ys).length - 1) (cap - 1)) (w' := w) ?_ (h _ hq.tail ?_)
  · have hr := run_slice_l w t (some ⟨g, off, none⟩) (y :: ys).length cap ht' k 1 (by omega) (by simp only [List.length_cons]; omega)
    unfold execOp
    simp only [ho, hx, hlo, Option.map_some, Option.map_none, run_sliceAt_slice w t _ _ _ _ ht', Sem.run_bind, hr]
    simp [Go.sizeOf, typeInfo, hpe, hi0, hi1, sliced, Addr.add]
  · split <;> rfl
/-- 'append(q, x)' -/
theorem wpList_que_app (hgd : o.guard = none) (s x : Operand) (t : TypeId)
    (ho : o.op = .call { callee := .builtin .append, args := #[s, x], argTypes := #[t, t] })
    (b : Nat) (e : TypeId) (z : Value) (bytes : Nat) (ht : P.underlying t = some (.slice e)) (hi : (P.info? e).map (fun i => (i.zero, i.size, i.bytes)) = some (some z, 1, bytes)) (hzs : z.cells.size = 1)
    (v : Value) (xs : List Value) (hs : a.eval s = v) (hq : Que w b e v xs)
    (g c : Nat) (u : Value) (hx : a.eval x = .slice (some ⟨g, 0, none⟩) 1 c) (hg : w.cell? ⟨g, 0, none⟩ = some u) (h1 : u.oneCell' = true)
    (h63 : xs.length + 1 ≤ maxLen) (hbytes : (xs.length + 1) * bytes ≤ 140737488355328) (hb : b ≤ w.heap.size)
    (h : ∀ v' w', Que w' b e v' (xs ++ [u]) → Chg (blkOf v).toList w w' → (blkOf v' = blkOf v ∨ ∃ n, blkOf v' = some n ∧ w.heap.size ≤ n) → wpList P ops Q rest (a.put o.dst v') w') : wpList P ops Q (o :: rest) a w := by
  obtain ⟨i0, hi, hz0, hz1, hz2⟩ := info_parts hi
  obtain ⟨g0, off, cap, cur, rfl, h2, h3, h4, h5, h6, h7⟩ := hq
  refine wpList_append_arg w hgd s x t ho e i0 z 1 bytes ht hi hz0 hz1 hz2 hzs (by decide) g0 off xs.length cap xs hs (by omega) (fun j u hj => by rw [h3.cell]; exact h7 j u hj)
    ⟨g, 0, none⟩ 1 c [u] hx rfl ?_ ?_ ?_ h63 hbytes ?_ ?_
  · intro j u' hj
    match j, hj with
    | 0, hj => simp at hj; subst hj; simpa [Addr.add] using hg
  · intro u' hu; simp at hu; subst hu; exact h1
  · intro hr j hj
    simp at hj; subst hj
    rw [h3.cell, h3.frozen, Array.getElem?_eq_getElem (by omega)]
    exact ⟨rfl, rfl⟩
  · intro hr
    have e1 : w.setCells g0 (off + xs.length * 1) [u] = w.setCell ⟨g0, off + xs.length, none⟩ u := by simp [World.setCells]
    rw [e1]
    refine h _ _ ⟨g0, off, cap, cur.setIfInBounds (off + xs.length) u, by simp, h2, h3.setCell _ _, by simpa using h4, by simpa using hr, h6, fun j y hy => ?_⟩ ((Chg.refl _ _).setCell (.inl (by simp [blkOf])) _) (.inl rfl)
    rw [Array.getElem?_setIfInBounds]
    by_cases hj : j < xs.length
    · rw [if_neg (by omega)]
      rw [List.getElem?_append_left hj] at hy
      exact h7 j y hy
    · have hl : j < (xs ++ [u]).length := (List.getElem?_eq_some_iff.1 hy).1
      simp at hl
      obtain rfl : j = xs.length := by omega
      rw [if_pos rfl, if_pos (by omega)]
      simpa using hy
  · intro hr v' w' h8 h9
    have h8' : Own w' w.heap.size e v' (xs ++ [u]) := by unfold Own; simpa using h8
    obtain ⟨q1, q2⟩ := Que.of_own h8' (by simp)
    refine h v' w' (q1.mono hb) ((Chg.of_grown h9).mono (by simp)) (.inr ?_)
    obtain ⟨n, hn, hn2, _⟩ := q1.block
    exact ⟨n, hn, hn2⟩
end

/-- The same; or nil, and empty. -/
def QueN (w : World) (b : Nat) (e : TypeId) (v : Value) (xs : List Value) : Prop := (v = .slice none 0 0 ∧ xs = []) ∨ Que w b e v xs
section
variable {w w1 : World} {v : Value} {xs : List Value} {b : Nat} {e : TypeId}
theorem QueN.chg {S : List Nat} (h : QueN w b e v xs) (hc : Chg S w w1) (hS : ∀ g, g ∈ S → blkOf v ≠ some g) : QueN w1 b e v xs := h.imp id (fun h => h.chg hc hS)
theorem QueN.keep (h : QueN w b e v xs) (hc : Chg [] w w1) : QueN w1 b e v xs := h.chg hc (fun g hg => by cases hg)
theorem QueN.mono {b' : Nat} (h : QueN w b e v xs) (hb : b' ≤ b) : QueN w b' e v xs := h.imp id (fun h => h.mono hb)
theorem QueN.que (h : QueN w b e v xs) (h0 : xs ≠ []) : Que w b e v xs := by
  rcases h with ⟨_, h⟩ | h
  · exact absurd h h0
  · exact h
theorem QueN.reads (h : QueN w b e v xs) : Reads w v xs := by
  rcases h with ⟨rfl, rfl⟩ | h
  · exact Reads.nil _ _ _
  · exact h.reads
theorem QueN.block (h : QueN w b e v xs) {g : Nat} (hg : blkOf v = some g) : b ≤ g ∧ g < w.heap.size := by
  rcases h with ⟨rfl, rfl⟩ | h
  · cases hg
  · obtain ⟨g', h1, h2⟩ := h.block
    rw [hg] at h1
    cases h1
    exact h2
end
section
variable {P : Program} {ops : Array Oper} {Q : Exit → Act → World → Prop} {rest : List Oper} {o : Oper} {a : Act} {w : World}
/-- 'append(q, x)', q nil perhaps. -/
theorem wpList_quen_app (hgd : o.guard = none) (s x : Operand) (t : TypeId)
    (ho : o.op = .call { callee := .builtin .append, args := #[s, x], argTypes := #[t, t] })
    (b : Nat) (e : TypeId) (z : Value) (bytes : Nat) (ht : P.underlying t = some (.slice e)) (hi : (P.info? e).map (fun i => (i.zero, i.size, i.bytes)) = some (some z, 1, bytes)) (hzs : z.cells.size = 1)
    (v : Value) (xs : List Value) (hs : a.eval s = v) (hq : QueN w b e v xs)
    (g c : Nat) (u : Value) (hx : a.eval x = .slice (some ⟨g, 0, none⟩) 1 c) (hg : w.cell? ⟨g, 0, none⟩ = some u) (h1 : u.oneCell' = true)
    (h63 : xs.length + 1 ≤ maxLen) (hbytes : (xs.length + 1) * bytes ≤ 140737488355328) (hb : b ≤ w.heap.size)
    (h : ∀ v' w', Que w' b e v' (xs ++ [u]) → Chg (blkOf v).toList w w' → (blkOf v' = blkOf v ∨ ∃ n, blkOf v' = some n ∧ w.heap.size ≤ n) → wpList P ops Q rest (a.put o.dst v') w') : wpList P ops Q (o :: rest) a w := by
  rcases hq with ⟨rfl, rfl⟩ | hq
  · refine wpList_app1 hgd s x t ho w.heap.size e z bytes ht hi hzs _ [] hs (Own.nil _ _ _) g c u hx hg h1 h63 hbytes (Nat.le_refl _) ?_
    intro v' w' h8 h9
    obtain ⟨q1, q2⟩ := Que.of_own h8 (by simp)
    obtain ⟨n, hn, hn2, _⟩ := q1.block
    exact h v' w' (q1.mono hb) h9 (.inr ⟨n, hn, hn2⟩)
  · exact wpList_que_app hgd s x t ho b e z bytes ht hi hzs v xs hs hq g c u hx hg h1 h63 hbytes hb h
end

section
variable {P : Program} {ops : Array Oper} {Q : Exit → Act → World → Prop} {rest : List Oper} {o : Oper} {a : Act} {w : World}
/-- 'append(s, u...)', both the call's own; where the outcome lies is told. -/
theorem wpList_app_own (hgd : o.guard = none) (s x : Operand) (t : TypeId)
    (ho : o.op = .call { callee := .builtin .append, args := #[s, x], argTypes := #[t, t] })
    (b : Nat) (e : TypeId) (z : Value) (bytes : Nat) (ht : P.underlying t = some (.slice e)) (hi : (P.info? e).map (fun i => (i.zero, i.size, i.bytes)) = some (some z, 1, bytes)) (hzs : z.cells.size = 1)
    (v : Value) (xs : List Value) (hs : a.eval s = v) (hown : Own w b e v xs)
    (u : Value) (b' : Nat) (e' : TypeId) (ys : List Value) (hx : a.eval x = u) (hu : Own w b' e' u ys) (h1 : ∀ y ∈ ys, y.oneCell' = true)
    (h63 : xs.length + ys.length ≤ maxLen) (hbytes : (xs.length + ys.length) * bytes ≤ 140737488355328) (hb : b ≤ w.heap.size)
    (h : ∀ v' w', Own w' b e v' (xs ++ ys) → Chg v.ownBlock.toList w w' → (v'.ownBlock = v.ownBlock ∨ v'.ownBlock = some w.heap.size) → wpList P ops Q rest (a.put o.dst v') w') : wpList P ops Q (o :: rest) a w := by
  obtain ⟨i0, hi, hz0, hz1, hz2⟩ := info_parts hi
  obtain ⟨hl, hu⟩ := hu
  rcases hu with ⟨rfl, hn⟩ | ⟨g, cap, cur, rfl, hb2, hg, hn, hc, hs2, ht2⟩
  · obtain rfl : ys = [] := List.eq_nil_of_length_eq_zero hn
    refine wpList_append_own_none hgd s x t ho b e i0 1 ht hi v xs.length xs hs hown hx ?_
    exact h v w (by simpa using hown) ((Chg.refl _ _).mono (fun g hg => .inl hg)) (.inl rfl)
  · refine wpList_append_own_at w hgd s x t ho b e i0 z 1 bytes ht hi hz0 hz1 hz2 hzs (by decide) v xs.length xs hs hown ⟨g, 0, none⟩ ys.length cap ys hx (by omega) ?_ h1 h63 hbytes hb ?_
    · intro j y hj
      have hlt : j < ys.length := (List.getElem?_eq_some_iff.1 hj).1
      have hadd : (⟨g, 0, none⟩ : Addr).add j = ⟨g, j, none⟩ := by clear hs hx hown h h1 hb; simp [Addr.add]; omega
      rw [hadd, cell_of_row _ _ _ _ _ _ hg]
      have : (cur.toList.take (ys.length * 1))[j]? = ys[j]? := by rw [ht2]
      rw [List.getElem?_take, if_pos (by omega), hj] at this
      simpa using this
    · intro v' w' h2 h3 _ h4
      exact h v' w' (by unfold Own; simpa using h2) (Chg.of_grown h3) h4
/-- 'append(s, x)' of one value more; where the outcome lies is told. -/
theorem wpList_app1_at (hgd : o.guard = none) (s x : Operand) (t : TypeId)
    (ho : o.op = .call { callee := .builtin .append, args := #[s, x], argTypes := #[t, t] })
    (b : Nat) (e : TypeId) (z : Value) (bytes : Nat) (ht : P.underlying t = some (.slice e)) (hi : (P.info? e).map (fun i => (i.zero, i.size, i.bytes)) = some (some z, 1, bytes)) (hzs : z.cells.size = 1)
    (v : Value) (xs : List Value) (hs : a.eval s = v) (hown : Own w b e v xs)
    (g c : Nat) (u : Value) (hx : a.eval x = .slice (some ⟨g, 0, none⟩) 1 c) (hg : w.cell? ⟨g, 0, none⟩ = some u) (h1 : u.oneCell' = true)
    (h63 : xs.length + 1 ≤ maxLen) (hbytes : (xs.length + 1) * bytes ≤ 140737488355328) (hb : b ≤ w.heap.size)
    (h : ∀ v' w', Own w' b e v' (xs ++ [u]) → Chg v.ownBlock.toList w w' → (v'.ownBlock = v.ownBlock ∨ v'.ownBlock = some w.heap.size) → wpList P ops Q rest (a.put o.dst v') w') : wpList P ops Q (o :: rest) a w := by
  obtain ⟨i0, hi, hz0, hz1, hz2⟩ := info_parts hi
  refine wpList_append_own_at w hgd s x t ho b e i0 z 1 bytes ht hi hz0 hz1 hz2 hzs (by decide) v xs.length xs hs hown ⟨g, 0, none⟩ 1 c [u] hx rfl ?_ ?_ h63 hbytes hb ?_
  · intro j u' hj
    match j, hj with
    | 0, hj => simp at hj; subst hj; simpa [Addr.add] using hg
  · intro u' hu; simp at hu; subst hu; exact h1
  · intro v' w' h2 h3 _ h4
    exact h v' w' (by unfold Own; simpa using h2) (Chg.of_grown h3) h4
end
end Bosun
