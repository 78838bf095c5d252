/- Blocks of memory kept as hypotheses, what a call may have changed, and the walk's steps that speak in these words. Over any program. -/
import Derived.WalkKit
import Derived.WalkSpells
import Derived.WalkLawsBesides
import Derived.Lib.Hide
import Derived.Deep.QuietTactic
import Derived.BigQuiet
import Derived.Laws.CopyOwn
import Derived.StillTailTactics
namespace Bosun
open Go Go.RowKit

/-- Block g holds just these cells, none of which is frozen. -/
def Blk (w : World) (g : Nat) (cs : Array Value) (t : TypeId) : Prop := w.heap[g]? = some (.cells cs t (0, 0))

/-- From w to w' no block has changed but those of S, and new ones. -/
structure Chg (S : List Nat) (w w' : World) : Prop where
  os : w'.os = w.os
  tape : w'.tape = w.tape
  output : w'.output = w.output
  size : w.heap.size ≤ w'.heap.size
  block : ∀ k, k < w.heap.size → k ∉ S → w'.heap[k]? = w.heap[k]?

section
variable {S : List Nat} {w w1 w2 : World}
theorem Chg.refl (S : List Nat) (w : World) : Chg S w w := ⟨rfl, rfl, rfl, Nat.le_refl _, fun _ _ _ => rfl⟩
theorem Chg.trans (h : Chg S w w1) (k : Chg S w1 w2) : Chg S w w2 :=
  ⟨k.os.trans h.os, k.tape.trans h.tape, k.output.trans h.output, Nat.le_trans h.size k.size,
    fun i hi hs => (k.block i (Nat.lt_of_lt_of_le hi h.size) hs).trans (h.block i hi hs)⟩
theorem Chg.mono {S' : List Nat} (h : Chg S w w1) (hs : ∀ g, g ∈ S → g ∈ S' ∨ w.heap.size ≤ g) : Chg S' w w1 :=
  ⟨h.os, h.tape, h.output, h.size, fun i hi hn => h.block i hi (fun hm => by rcases hs i hm with h1 | h1; exact hn h1; omega)⟩
theorem Chg.weak (h : Chg [] w w1) : Chg S w w1 := h.mono (fun g hg => by cases hg)
/-- The second of two changes touches only what the first may touch, and what is new since. -/
theorem Chg.then {S' : List Nat} (h : Chg S w w1) (k : Chg S' w1 w2) (hs : ∀ g, g ∈ S' → g ∈ S ∨ w.heap.size ≤ g) : Chg S w w2 :=
  ⟨k.os.trans h.os, k.tape.trans h.tape, k.output.trans h.output, Nat.le_trans h.size k.size,
    fun i hi hn => (k.block i (Nat.lt_of_lt_of_le hi h.size) (fun hm => by rcases hs i hm with h1 | h1; exact hn h1; omega)).trans (h.block i hi hn)⟩
theorem Chg.drew (h : Chg S w w1) : Chg S w w1.drew := ⟨h.os, h.tape, h.output, h.size, h.block⟩
theorem Chg.drewN (h : Chg S w w1) (n : Nat) : Chg S w (w1.drewN n) := ⟨h.os, h.tape, h.output, h.size, h.block⟩
theorem Chg.undrew (h : Chg S w.drew w1) : Chg S w w1 := ⟨h.os, h.tape, h.output, h.size, h.block⟩
theorem Chg.alloc (h : Chg S w w1) (o : Obj) : Chg S w (w1.alloc o) :=
  h.trans ⟨rfl, rfl, rfl, by simp, fun k hk _ => Below.heap_alloc _ _ _ hk⟩
theorem Chg.setCell (h : Chg S w w1) {a : Addr} (ha : a.block ∈ S ∨ w.heap.size ≤ a.block) (v : Value) : Chg S w (w1.setCell a v) :=
  h.then (S' := [a.block]) ⟨rfl, rfl, rfl, by simp, fun k _ hk => heap_setCell_other _ _ _ _ (by simpa using hk)⟩ (by simpa using ha)
theorem Chg.setRow (h : Chg S w w1) {g : Nat} (hg : g ∈ S ∨ w.heap.size ≤ g) (cs : Array Value) : Chg S w (w1.setRow g cs) :=
  h.then (S' := [g]) ⟨rfl, rfl, rfl, by simp, fun k _ hk => setRow_other _ _ _ _ (by simpa using hk)⟩ (by simpa using hg)
theorem Chg.of_below (h : Below w.heap.size w w1) : Chg [] w w1 := ⟨h.os, h.tape, h.output, h.size, fun k hk _ => h.block k hk⟩
theorem Chg.below (h : Chg [] w w1) : Below w.heap.size w w1 := ⟨h.os, h.tape, h.output, h.size, fun k hk => h.block k hk (by simp)⟩
theorem Chg.of_grown {row : Option Nat} (h : w.grownBy w1 row) : Chg row.toList w w1 :=
  ⟨h.os, h.tape, h.output, h.size, fun k hk hn => h.block k hk (fun e => hn (by rw [← e]; simp))⟩
theorem Chg.grown {row : Option Nat} (h : Chg S w w1) (hg : w1.grownBy w2 row) (hr : ∀ g, row = some g → g ∈ S ∨ w.heap.size ≤ g) : Chg S w w2 :=
  h.then (Chg.of_grown hg) (fun g hm => hr g (by cases row <;> simp at hm; rw [hm]))
end

section
variable {w w1 : World} {g : Nat} {cs : Array Value} {t : TypeId}
theorem Blk.lt (h : Blk w g cs t) : g < w.heap.size := (Array.getElem?_eq_some_iff.1 h).1
theorem Blk.chg {S : List Nat} (h : Blk w g cs t) (hc : Chg S w w1) (hg : g ∉ S) : Blk w1 g cs t := (hc.block g h.lt hg).trans h
theorem Blk.drew (h : Blk w g cs t) : Blk w.drew g cs t := h
theorem Blk.cell (h : Blk w g cs t) (j : Nat) : w.cell? ⟨g, j, none⟩ = cs[j]? := cell_of_row _ _ _ _ _ _ h
theorem Blk.frozen (h : Blk w g cs t) (j : Nat) : w.frozen? ⟨g, j, none⟩ = false := frozen_of_row _ _ _ _ _ h
theorem Blk.new (w : World) (cs : Array Value) (t : TypeId) : Blk (w.alloc (.cells cs t)) w.heap.size cs t := heap_alloc_new _ _
theorem Blk.alloc (h : Blk w g cs t) (o : Obj) : Blk (w.alloc o) g cs t := (Below.heap_alloc _ _ _ h.lt).trans h
theorem Blk.setCell (h : Blk w g cs t) (i : Nat) (v : Value) : Blk (w.setCell ⟨g, i, none⟩ v) g (cs.setIfInBounds i v) t := heap_setCell_same _ _ _ _ _ _ h
theorem Blk.setCell_other (h : Blk w g cs t) {a : Addr} (v : Value) (ha : g ≠ a.block) : Blk (w.setCell a v) g cs t := (heap_setCell_other _ _ _ _ ha).trans h
theorem Blk.setRow (h : Blk w g cs t) (cs' : Array Value) : Blk (w.setRow g cs') g cs' t := setRow_heap _ _ _ _ _ _ h
theorem Blk.setRow_other {g' : Nat} (h : Blk w g cs t) (hg : g ≠ g') (cs' : Array Value) : Blk (w.setRow g' cs') g cs t := (Go.setRow_other _ _ _ _ hg).trans h
theorem Blk.inj {cs' : Array Value} {t' : TypeId} (h : Blk w g cs t) (h' : Blk w g cs' t') : cs = cs' ∧ t = t' := by
  have := h.symm.trans h'
  simpa using this
end

theorem ret_int {k : IntKind} {a b : Int} (h : a = b) : Ending.returned (.int k a) = .returned (.int k b) := by rw [h]
theorem ret_bool {a b : Bool} (h : a = b) : Ending.returned (.bool a) = .returned (.bool b) := by rw [h]

section
variable {P : Program} {ops : Array Oper} {Q : Exit → Act → World → Prop} {rest : List Oper} {o : Oper} {a : Act} {w : World}

/-- Any operation whose run is known. -/
theorem wpList_val {v : Value} {w' : World} (hg : o.guard = none) (hr : (execOp a.eval o).run P w = .ok (.value v) w') (h : wpList P ops Q rest (a.put o.dst v) w') : wpList P ops Q (o :: rest) a w :=
  wpList_plain hg fun _ hK => by
    unfold Oper.wp; rw [hr]; exact hK _ _ h
theorem wpList_none {w' : World} (hg : o.guard = none) (hr : (execOp a.eval o).run P w = .ok .skip w') (h : wpList P ops Q rest (a.put o.dst undef) w') : wpList P ops Q (o :: rest) a w :=
  wpList_plain hg fun _ hK => by
    unfold Oper.wp; rw [hr]; exact hK _ _ h

/-- The same at an operation whose guard says yes. -/
theorem wpList_valW {v : Value} {w' : World} (hw : Region.wanted o (yielded ops a.tmps) = true) (hr : (execOp a.eval o).run P w = .ok (.value v) w') (h : wpList P ops Q rest (a.put o.dst v) w') : wpList P ops Q (o :: rest) a w :=
  wpList_step fun _ hK => by
    rw [if_pos hw]
    unfold Oper.wp; rw [hr]; exact hK _ _ h

/-- A whole row is stored into a block. -/
theorem wpList_put_row (hgd : o.guard = none) (ty : TypeId) (x y : Operand) (ho : o.op = .store ty x y)
    (g : Nat) (cells : Array Value) (hx : a.eval x = .pointer (some ⟨g, 0, none⟩)) (hy : a.eval y = .agg cells)
    (t : TypeId) (old : Array Value) (hg : Blk w g old t) (hi : (P.info? ty).map (·.size) = some cells.size)
    (hold : old.size = cells.size) (h1 : cells.all (·.oneCell') = true)
    (h : ∀ w', Blk w' g cells t → Chg [g] w w' → wpList P ops Q rest (a.put o.dst undef) w') : wpList P ops Q (o :: rest) a w :=
  wpList_store_row hgd ty x y ho g cells hx hy t old hg hi hold h1
    (h _ (Blk.setRow hg _) ((Chg.refl _ _).setRow (.inl (by simp)) _))
/-- One cell of a known block is stored. -/
theorem wpList_val_store (hgd : o.guard = none) (ty : TypeId) (x y : Operand) (ho : o.op = .store ty x y)
    (g i : Nat) (hx : a.eval x = .pointer (some ⟨g, i, none⟩)) (v : Value) (hy : a.eval y = v) (cs : Array Value) (t : TypeId) (hg : Blk w g cs t) (hi : i < cs.size)
    (hs : (P.info? ty).map (·.size) = some 1) (h1 : v.oneCell' = true)
    (h : ∀ w', Blk w' g (cs.setIfInBounds i v) t → Chg [g] w w' → wpList P ops Q rest (a.put o.dst undef) w') : wpList P ops Q (o :: rest) a w := by
  have hc : v.cells = #[v] := by cases v <;> first | rfl | cases h1
  obtain ⟨i0, hi0, hi1⟩ := Option.map_eq_some_iff.1 hs
  have hcell : w.cell? ⟨g, i, none⟩ = some cs[i] := by rw [hg.cell, Array.getElem?_eq_getElem hi]
  have hfz := hg.frozen i
  have hadd : (⟨g, i, none⟩ : Addr).add 0 = ⟨g, i, none⟩ := by unfold Addr.add; split <;> simp_all
  have hst : (storeCells ⟨g, i, none⟩ [v] 0).run P w = .ok () (w.setCell ⟨g, i, none⟩ v) := by
    simp only [storeCells, Sem.run_bind, hadd]
    rw [run_store P w ⟨g, i, none⟩ v .plain h1, hcell]
    simp [hfz]
  refine wpList_none hgd (w' := w.setCell ⟨g, i, none⟩ v) ?_ (h _ (hg.setCell _ _) ((Chg.refl _ _).setCell (.inl (by simp)) _))
  simp [execOp, ho, hx, hy, Instr.storeAt, Instr.sureAddr, storeVar, Go.sizeOf, typeInfo, hi0, hi1, hc, hst]
/-- A whole row is read. -/
theorem wpList_get_row (hgd : o.guard = none) (ty : TypeId) (x : Operand) (ho : o.op = .load ty x)
    (g : Nat) (hx : a.eval x = .pointer (some ⟨g, 0, none⟩)) (t : TypeId) (cs : Array Value) (d : TypeDesc) (hg : Blk w g cs t)
    (hu : P.underlying ty = some d) (hd : (match d with | .struct _ | .array _ _ => true | _ => false) = true) (hi : (P.info? ty).map (·.size) = some cs.size)
    (h : wpList P ops Q rest (a.put o.dst (.agg cs)) w) : wpList P ops Q (o :: rest) a w :=
  wpList_load_row hgd ty x ho g hx t cs (0, 0) d hg hu hd hi h
/-- A new variable. -/
theorem wpList_new_row (hgd : o.guard = none) (ty : TypeId) (ho : o.op = .alloc ty) (cs : Array Value)
    (hz : (Instr.alloc ty true (.tuple #[])).run P w = .ok (.pointer (some ⟨w.heap.size, 0, none⟩)) (w.alloc (.cells cs ty)))
    (h : ∀ w', Blk w' w.heap.size cs ty → Chg [] w w' → w'.heap.size = w.heap.size + 1 → wpList P ops Q rest (a.put o.dst (.pointer (some ⟨w.heap.size, 0, none⟩))) w') : wpList P ops Q (o :: rest) a w :=
  wpList_val hgd (by unfold execOp; simp only [ho, Sem.run_bind, hz, Result.andThen_ok, Sem.run_pure]) (h _ (Blk.new _ _ _) ((Chg.refl _ _).alloc _) (by simp))
end

theorem results_row {P : Program} {fn : Func} {p : Tmp} {ty : TypeId} (h : fn.results = #[.cell p ty]) (tmps : Array Value) (w : World) (g : Nat) (t : TypeId) (cs : Array Value) (d : TypeDesc)
    (hp : tmps.getD p undef = .pointer (some ⟨g, 0, none⟩)) (hg : Blk w g cs t)
    (hu : P.underlying ty = some d) (hd : (match d with | .struct _ | .array _ _ => true | _ => false) = true) (hi : (P.info? ty).map (·.size) = some cs.size) :
    (results fn tmps).run P w = .ok (.agg cs) w :=
  results_cell_row h tmps w g t cs (0, 0) d hp hg hu hd hi

/-! ### Slices -/
/-- The slice v reads as the values xs (each of one cell). -/
def Reads (w : World) (v : Value) (xs : List Value) : Prop :=
  ∃ ao cap, v = .slice ao xs.length cap ∧ xs.length ≤ maxLen ∧ ∀ j x, xs[j]? = some x → ∃ g off, ao = some ⟨g, off, none⟩ ∧ w.cell? ⟨g, off + j, none⟩ = some x
/-- The slice v holds xs in a block of its own, from block b on; there it may be appended to. -/
def Own (w : World) (b : Nat) (e : TypeId) (v : Value) (xs : List Value) : Prop := w.ownsRow b e 1 v xs.length xs

section
variable {w w1 : World} {v : Value} {xs : List Value} {b : Nat} {e : TypeId}
theorem Own.nil (w : World) (b : Nat) (e : TypeId) : Own w b e (.slice none 0 0) [] := World.ownsRow_nil _ _ _ _
theorem Own.reads (h : Own w b e v xs) : Reads w v xs := by
  obtain ⟨_, h⟩ := h
  rcases h with ⟨rfl, h0⟩ | ⟨g, cap, cur, rfl, hb, hg, hn, hc, hs, ht⟩
  · exact ⟨none, 0, by rw [h0], by rw [h0]; exact Nat.zero_le _, fun j x hj => by rw [List.eq_nil_of_length_eq_zero h0] at hj; simp at hj⟩
  · refine ⟨_, _, rfl, Nat.le_trans hn hc, fun j x hx => ⟨g, 0, rfl, ?_⟩⟩
    have hj : j < xs.length := (List.getElem?_eq_some_iff.1 hx).1
    rw [Nat.zero_add, cell_of_row _ _ _ _ _ _ hg]
    have : (cur.toList.take (xs.length * 1))[j]? = xs[j]? := by rw [ht]
    rw [List.getElem?_take, if_pos (by omega), hx] at this
    simpa using this
theorem Own.of_blk {g : Nat} {cs : Array Value} {n cap : Nat} (h : Blk w g cs e) (hb : b ≤ g) (hs : cs.size = cap) (hn : n ≤ cap) (hm : cap ≤ maxLen) (hx : xs = cs.toList.take n) : Own w b e (.slice (some ⟨g, 0, none⟩) n cap) xs := by
  have hl : xs.length = n := by rw [hx, List.length_take]; simp; omega
  unfold Own
  rw [hl]
  exact ⟨by omega, .inr ⟨g, cap, cs, rfl, hb, h, hn, hm, by omega, by rw [hx, Nat.mul_one]⟩⟩
theorem Own.mono {b' : Nat} (h : Own w b e v xs) (hb : b' ≤ b) : Own w b' e v xs := by
  refine ⟨h.1, ?_⟩
  rcases h.2 with h | ⟨g, cap, cur, h1, h2, r⟩
  · exact .inl h
  · exact .inr ⟨g, cap, cur, h1, by omega, r⟩
theorem Own.chg {S : List Nat} (h : Own w b e v xs) (hc : Chg S w w1) (hS : ∀ g, g ∈ S → v.ownBlock ≠ some g) : Own w1 b e v xs := by
  refine ⟨h.1, ?_⟩
  rcases h.2 with h | ⟨g, cap, cur, h1, h2, h3, r⟩
  · exact .inl h
  · refine .inr ⟨g, cap, cur, h1, h2, ?_, r⟩
    rw [hc.block g (Array.getElem?_eq_some_iff.1 h3).1 (fun hm => hS g hm (by rw [h1]; rfl))]
    exact h3
theorem Own.alloc (h : Own w b e v xs) (o : Obj) : Own (w.alloc o) b e v xs := World.ownsRow.alloc h o
theorem Own.drew (h : Own w b e v xs) : Own w.drew b e v xs := h
theorem Own.keep (h : Own w b e v xs) (hc : Chg [] w w1) : Own w1 b e v xs := h.chg hc (fun g hg => by cases hg)
theorem Own.block (h : Own w b e v xs) : ∀ g, g ∈ v.ownBlock.toList → b ≤ g ∧ g < w.heap.size := by
  intro g hg
  refine World.ownsRow.lt h g ?_
  cases hv : v.ownBlock with
  | none => rw [hv] at hg; simp at hg
  | some x => rw [hv] at hg; simp at hg; rw [hg]
theorem Reads.chg {S : List Nat} (h : Reads w v xs) (hc : Chg S w w1) (hS : ∀ g, g ∈ S → v.ownBlock ≠ some g) : Reads w1 v xs := by
  obtain ⟨ao, cap, rfl, hm, h⟩ := h
  refine ⟨ao, cap, rfl, hm, fun j x hx => ?_⟩
  obtain ⟨g, off, rfl, hj'⟩ := h j x hx
  refine ⟨g, off, rfl, ?_⟩
  rw [← hj']
  exact World.cell?_of_block (w := w) (hc.block g (World.block_lt_of_cell? w _ hj') (fun hm => hS g hm rfl))
theorem Reads.keep (h : Reads w v xs) (hc : Chg [] w w1) : Reads w1 v xs := h.chg hc (fun g hg => by cases hg)
theorem Blk.reads {g : Nat} {cs : Array Value} {t : TypeId} (h : Blk w g cs t) (n cap : Nat) (hn : n ≤ cs.size) (hm : cs.size ≤ maxLen) (hx : xs = cs.toList.take n) : Reads w (.slice (some ⟨g, 0, none⟩) n cap) xs := by
  subst hx
  have hl : (cs.toList.take n).length = n := by rw [List.length_take]; simp; omega
  refine ⟨some ⟨g, 0, none⟩, cap, by rw [hl], by rw [hl]; omega, fun j x hx => ⟨g, 0, rfl, ?_⟩⟩
  have hj : j < n := by have := (List.getElem?_eq_some_iff.1 hx).1; omega
  rw [List.getElem?_take, if_pos hj] at hx
  rw [Nat.zero_add, h.cell, ← Array.getElem?_toList]
  exact hx
theorem Reads.alloc (h : Reads w v xs) (o : Obj) : Reads (w.alloc o) v xs := h.keep ((Chg.refl _ _).alloc o)
theorem Reads.nil (w : World) (ao : Option Addr) (cap : Nat) : Reads w (.slice ao 0 cap) [] := ⟨ao, cap, rfl, Nat.zero_le _, fun j x hj => by simp at hj⟩
end

section
variable {P : Program} {ops : Array Oper} {Q : Exit → Act → World → Prop} {rest : List Oper} {o : Oper} {a : Act} {w : World}
/-- 'append(s, u)': one value of one cell more. -/
theorem wpList_app1 (hgd : o.guard = none) (s x : Operand) (t : TypeId)
    (ho : o.op = .call { callee := .builtin .append, args := #[s, x], argTypes := #[t, t] })
    (b : Nat) (e : TypeId) (z : Value) (bytes : Nat) (ht : P.underlying t = some (.slice e)) (hi : (P.info? e).map (fun i => (i.zero, i.size, i.bytes)) = some (some z, 1, bytes)) (hzs : z.cells.size = 1)
    (v : Value) (xs : List Value) (hs : a.eval s = v) (hown : Own w b e v xs)
    (g c : Nat) (u : Value) (hx : a.eval x = .slice (some ⟨g, 0, none⟩) 1 c) (hg : w.cell? ⟨g, 0, none⟩ = some u) (h1 : u.oneCell' = true)
    (h63 : xs.length + 1 ≤ maxLen) (hbytes : (xs.length + 1) * bytes ≤ 140737488355328) (hb : b ≤ w.heap.size)
    (h : ∀ v' w', Own w' b e v' (xs ++ [u]) → Chg v.ownBlock.toList w w' → wpList P ops Q rest (a.put o.dst v') w') : wpList P ops Q (o :: rest) a w := by
  obtain ⟨i0, hi, hz0, hz1, hz2⟩ := info_parts hi
  refine wpList_append_own w hgd s x t ho b e i0 z 1 bytes ht hi hz0 hz1 hz2 hzs (by decide) v xs.length xs hs hown ⟨g, 0, none⟩ 1 c [u] hx rfl ?_ ?_ h63 hbytes hb ?_
  · intro j u' hj
    match j, hj with
    | 0, hj => simp at hj; subst hj; simpa [Addr.add] using hg
  · intro u' hu; simp at hu; subst hu; exact h1
  · intro v' w' h1 h2 _
    exact h v' w' (by unfold Own; simpa using h1) (Chg.of_grown h2)
end

section
variable {P : Program} {ops : Array Oper} {Q : Exit → Act → World → Prop} {rest : List Oper} {o : Oper} {a : Act} {w : World}
/-- 'max' and 'min' of two whole numbers, the answer as the caller wants it spelled. -/
theorem wpList_max (hgd : Region.wanted o (yielded ops a.tmps) = true) (x y : Operand) (t t' : TypeId)
    (ho : o.op = .call { callee := .builtin .max, args := #[x, y], argTypes := #[t, t'] }) (k : IntKind) (p q r : Int)
    (hx : a.eval x = .int k p) (hy : a.eval y = .int k q) (hr : r = if p < q then q else p)
    (h : wpList P ops Q rest (a.put o.dst (.int k r)) w) : wpList P ops Q (o :: rest) a w := by
  refine wpList_valW hgd ?_ h
  subst hr
  by_cases hpq : p < q
  · rw [if_pos hpq]
    simp [execOp, ho, resolve, invoke, builtin, hx, hy, Builtin.max_, Builtin.max2, hpq, Sem.run_pure]
  · rw [if_neg hpq]
    simp [execOp, ho, resolve, invoke, builtin, hx, hy, Builtin.max_, Builtin.max2, hpq, Sem.run_pure]
theorem wpList_min (hgd : Region.wanted o (yielded ops a.tmps) = true) (x y : Operand) (t t' : TypeId)
    (ho : o.op = .call { callee := .builtin .min, args := #[x, y], argTypes := #[t, t'] }) (k : IntKind) (p q r : Int)
    (hx : a.eval x = .int k p) (hy : a.eval y = .int k q) (hr : r = if q < p then q else p)
    (h : wpList P ops Q rest (a.put o.dst (.int k r)) w) : wpList P ops Q (o :: rest) a w := by
  refine wpList_valW hgd ?_ h
  subst hr
  by_cases hpq : q < p
  · rw [if_pos hpq]
    simp [execOp, ho, resolve, invoke, builtin, hx, hy, Builtin.min_, Builtin.min2, hpq, Sem.run_pure]
  · rw [if_neg hpq]
    simp [execOp, ho, resolve, invoke, builtin, hx, hy, Builtin.min_, Builtin.min2, hpq, Sem.run_pure]
end

theorem madeCells_one (z : Value) (n : Nat) : madeCells #[z] n = Array.replicate n z := by
  apply Array.ext
  · simp [size_madeCells]
  · intro i h1 h2
    simp [madeCells, Nat.mod_one]

section
variable {P : Program} {ops : Array Oper} {Q : Exit → Act → World → Prop} {rest : List Oper} {o : Oper} {a : Act} {w : World}
/-- 'make([]T, n)', each element of one cell. -/
theorem wpList_make1 (hgd : o.guard = none) (l c : Operand) (t : TypeId) (hop : o.op = Op.makeSlice t l c)
    (e : TypeId) (z : Value) (bytes : Nat) (ht : P.underlying t = some (.slice e)) (hi : (P.info? e).map (fun i => (i.zero, i.size, i.bytes)) = some (some z, 1, bytes)) (hz : z.cells = #[z])
    (kl kc : IntKind) (n : Nat) (hl : a.eval l = .int kl n) (hc : a.eval c = .int kc n) (hb : bytes * n ≤ 281474976710656) (h63 : n ≤ 9223372036854775807)
    (h : ∀ w', Blk w' w.heap.size (Array.replicate n z) e → Chg [] w w' → w'.heap.size = w.heap.size + 1 → wpList P ops Q rest (a.put o.dst (.slice (some ⟨w.heap.size, 0, none⟩) n n)) w') :
    wpList P ops Q (o :: rest) a w := by
  obtain ⟨i0, hi0, hz0, hz1, hz2⟩ := info_parts hi
  have hb' : ((bytes * n : Nat) : Int) ≤ 281474976710656 := by omega
  rw [Int.natCast_mul] at hb'
  have hr := run_make (P := P) w t e i0 z ht hi0 hz0 kl kc n n (by omega) (by omega) (by rw [hz2]; exact hb') (by omega)
  rw [hz1, hz, Nat.mul_one, madeCells_one] at hr
  simp only [Int.toNat_natCast] at hr
  refine wpList_val hgd ?_ (h _ (Blk.new _ _ _) ((Chg.refl _ _).alloc _) (by simp))
  unfold execOp
  simp only [hop, hl, hc, Sem.run_bind, hr, Result.andThen_ok, Sem.run_pure]
end

theorem splice_get {cur cs : List Value} {off : Nat} (hfit : off + cs.length ≤ cur.length) (j : Nat) :
    (cur.take off ++ (cs ++ cur.drop (off + cs.length)))[j]? = if off ≤ j ∧ j < off + cs.length then cs[j - off]? else cur[j]? := by
  by_cases h1 : j < off
  · rw [List.getElem?_append_left (by rw [List.length_take]; omega), List.getElem?_take, if_pos h1, if_neg (by omega)]
  · have hl : (cur.take off).length = off := by rw [List.length_take]; omega
    rw [List.getElem?_append_right (by omega), hl]
    by_cases h2 : j < off + cs.length
    · rw [List.getElem?_append_left (by omega), if_pos ⟨by omega, h2⟩]
    · rw [List.getElem?_append_right (by omega), List.getElem?_drop, if_neg (by omega)]
      congr 1
      omega

section
variable {P : Program} {ops : Array Oper} {Q : Exit → Act → World → Prop} {rest : List Oper} {o : Oper} {a : Act} {w : World}
/-- 'copy(d, s)' into a block that is known. -/
theorem wpList_copy1 (hgd : o.guard = none) (d s : Operand) (dT sT : TypeId)
    (ho : o.op = .call { callee := .builtin .copy, args := #[d, s], argTypes := #[dT, sT] }) (elem : TypeId) (hu : P.underlying dT = some (.slice elem)) (hsz : (P.info? elem).map (·.size) = some 1)
    (g off dLen dCap : Nat) (sp : Option Addr) (sLen sCap : Nat) (hd : a.eval d = .slice (some ⟨g, off, none⟩) dLen dCap) (hs : a.eval s = .slice sp sLen sCap)
    (cur : Array Value) (t : TypeId) (hg : Blk w g cur t) (cs : List Value) (hn : cs.length = Nat.min sLen dLen)
    (hsrc : cs = [] ∨ ∃ g' o', sp = some ⟨g', o', none⟩ ∧ ∀ j v, cs[j]? = some v → w.cell? ⟨g', o' + j, none⟩ = some v)
    (hfit : off + cs.length ≤ cur.size) (h1 : ∀ v ∈ cs, v.oneCell' = true)
    (h : ∀ w' cur', Blk w' g cur' t → cur'.size = cur.size → (∀ j, cur'[j]? = if off ≤ j ∧ j < off + cs.length then cs[j - off]? else cur[j]?) → Chg [g] w w' →
      wpList P ops Q rest (a.put o.dst (goInt cs.length)) w') : wpList P ops Q (o :: rest) a w := by
  rcases hsrc with rfl | ⟨g', o', rfl, hsrc⟩
  · refine wpList_copy_nothing hgd d s dT sT ho elem hu hsz _ sp dLen dCap sLen sCap hd hs (by simpa using hn.symm) ?_
    exact h w cur hg rfl (fun j => by rw [if_neg (by simp only [List.length_nil]; omega)]) (Chg.refl _ _)
  · refine wpList_copy_own hgd d s dT sT ho elem hu hsz g off dLen dCap ⟨g', o', none⟩ sLen sCap hd hs cur t hg cs hn ?_ hfit h1 ?_
    · intro j v hj
      have hadd : (⟨g', o', none⟩ : Addr).add j = ⟨g', o' + j, none⟩ := by unfold Addr.add; split <;> simp_all
      rw [hadd]; exact hsrc j v hj
    · refine h _ _ (Blk.setRow hg _) (by simp; omega) (fun j => ?_) ((Chg.refl _ _).setRow (.inl (by simp)) _)
      rw [← Array.getElem?_toList, ← Array.getElem?_toList]
      exact splice_get (by simpa using hfit) j
end
end Bosun
