/- A slice of one-cell elements that lies anywhere in a block of the call's own: a queue ('q = q[1:]', 'append(q, x)'). Over any program. -/
import Derived.Test.YtjdbgohfedjifaaDoorBase
import Derived.ArgAppend
import Derived.Maps.AppendAt
import Derived.Laws.AppendOwnNone
namespace Bosun
open Go Go.RowKit

/-- The slice v holds xs in a block of its own, from block b on, at any place in it; there it may be appended to. -/
def Que (w : World) (b : Nat) (e : TypeId) (v : Value) (xs : List Value) : Prop :=
  ∃ g off cap cur, v = .slice (some ⟨g, off, none⟩) xs.length cap ∧ b ≤ g ∧ Blk w g cur e ∧ off + cap ≤ cur.size ∧ xs.length ≤ cap ∧ cap ≤ maxLen ∧ ∀ j x, xs[j]? = some x → cur[off + j]? = some x
/-- The block that a slice lies in. -/
def blkOf : Value → Option Nat
  | .slice (some a) _ _ => some a.block
  | _ => none
section
variable {w w1 : World} {v : Value} {xs : List Value} {b : Nat} {e : TypeId}
theorem Que.of_own (h : Own w b e v xs) (h0 : xs ≠ []) : Que w b e v xs ∧ blkOf v = v.ownBlock := by
  obtain ⟨hl, h⟩ := h
  rcases h with ⟨rfl, hn⟩ | ⟨g, cap, cur, rfl, hb, hg, hn, hc, hs, ht⟩
  · exact absurd (List.eq_nil_of_length_eq_zero hn) h0
  · refine ⟨⟨g, 0, cap, cur, rfl, hb, hg, by omega, hn, hc, fun j x hx => ?_⟩, rfl⟩
    have hj : j < xs.length := (List.getElem?_eq_some_iff.1 hx).1
    have : (cur.toList.take (xs.length * 1))[j]? = xs[j]? := by rw [ht]
    rw [List.getElem?_take, if_pos (by omega), hx] at this
    simpa using this
theorem Que.mono {b' : Nat} (h : Que w b e v xs) (hb : b' ≤ b) : Que w b' e v xs := by
  obtain ⟨g, off, cap, cur, h1, h2, h3⟩ := h
  exact ⟨g, off, cap, cur, h1, by omega, h3⟩
theorem Que.chg {S : List Nat} (h : Que w b e v xs) (hc : Chg S w w1) (hS : ∀ g, g ∈ S → blkOf v ≠ some g) : Que w1 b e v xs := by
  obtain ⟨g, off, cap, cur, rfl, h2, h3, r⟩ := h
  exact ⟨g, off, cap, cur, rfl, h2, h3.chg hc (fun hm => hS g hm rfl), r⟩
theorem Que.keep (h : Que w b e v xs) (hc : Chg [] w w1) : Que w1 b e v xs := h.chg hc (fun g hg => by cases hg)
theorem Que.block (h : Que w b e v xs) : ∃ g, blkOf v = some g ∧ b ≤ g ∧ g < w.heap.size := by
  obtain ⟨g, off, cap, cur, rfl, h2, h3, r⟩ := h
  exact ⟨g, rfl, h2, h3.lt⟩
theorem Que.reads (h : Que w b e v xs) : Reads w v xs := by
  obtain ⟨g, off, cap, cur, rfl, h2, h3, h4, h5, h6, h7⟩ := h
  exact ⟨_, _, rfl, by omega, fun j x hx => ⟨g, off, rfl, by rw [h3.cell]; exact h7 j x hx⟩⟩
/-- Without its first element. -/
theorem Que.tail {x : Value} {g off cap n : Nat} (h : Que w b e (.slice (some ⟨g, off, none⟩) n cap) (x :: xs)) :
    Que w b e (.slice (if cap = 1 then some ⟨g, off, none⟩ else some ⟨g, off + 1, none⟩) (n - 1) (cap - 1)) xs := by
  obtain ⟨g', off', cap', cur, hv, h2, h3, h4, h5, h6, h7⟩ := h
  simp at hv
  obtain ⟨⟨rfl, rfl⟩, rfl, rfl⟩ := hv
  simp only [List.length_cons] at h5
  by_cases h1 : cap = 1
  · subst h1
    obtain rfl : xs = [] := List.eq_nil_of_length_eq_zero (by omega)
    exact ⟨g, off, 0, cur, by simp, h2, h3, by omega, by simp, by omega, fun j x hx => by simp at hx⟩
  · rw [if_neg h1]
    exact ⟨g, off + 1, cap - 1, cur, by simp, h2, h3, by omega, by omega, by omega, fun j y hy => by
      have := h7 (j + 1) y (by simpa using hy)
      rw [show off + 1 + j = off + (j + 1) from by omega]; exact this⟩
end

section
variable {P : Program} {ops : Array Oper} {Q : Exit → Act → World → Prop} {rest : List Oper} {o : Oper} {a : Act} {w : World}
/-- 'q[1:]' -/
theorem wpList_que_tail (hgd : o.guard = none) (t : TypeId) (x lo : Operand) (ho : o.op = .slice t x (some lo) none none) (b : Nat) (e : TypeId) (ht : P.underlying t = some (.slice e)) (hz : (P.info? e).map (·.size) = some 1)
    (k : IntKind) (hlo : a.eval lo = .int k 1) (v : Value) (hx : a.eval x = v) (y : Value) (ys : List Value) (hq : Que w b e v (y :: ys))
    (h : ∀ v', Que w b e v' ys → blkOf v' = blkOf v → wpList P ops Q rest (a.put o.dst v') w) : wpList P ops Q (o :: rest) a w := by
  have hq0 := hq
  obtain ⟨g, off, cap, cur, rfl, h2, h3, h4, h5, h6, h7⟩ := hq0
  have hpe : P.elem t = e := by simp [Program.elem, ht]
  have ht' : P.underlying t = some (.slice (P.elem t)) := by rw [hpe]; exact ht
  obtain ⟨i0, hi0, hi1⟩ := Option.map_eq_some_iff.1 hz
  refine wpList_val hgd (v := .slice (if cap = 1 then some ⟨g, off, none⟩ else some ⟨g, off + 1, none⟩) ((y :: ys).length - 1) (cap - 1)) (w' := w) ?_ (h _ hq.tail ?_)
  · have hr := run_slice_l w t (some ⟨g, off, none⟩) (y :: ys).length cap ht' k 1 (by omega) (by simp only [List.length_cons]; omega)
    unfold execOp
    simp only [ho, hx, hlo, Option.map_some, Option.map_none, run_sliceAt_slice w t _ _ _ _ ht', Sem.run_bind, hr]
    simp [Go.sizeOf, typeInfo, hpe, hi0, hi1, sliced, Addr.add]
  · split <;> rfl
/-- 'append(q, x)' -/
theorem wpList_que_app (hgd : o.guard = none) (s x : Operand) (t : TypeId)
    (ho : o.op = .call { callee := .builtin .append, args := #[s, x], argTypes := #[t, t] })
    (b : Nat) (e : TypeId) (z : Value) (bytes : Nat) (ht : P.underlying t = some (.slice e)) (hi : (P.info? e).map (fun i => (i.zero, i.size, i.bytes)) = some (some z, 1, bytes)) (hzs : z.cells.size = 1)
    (v : Value) (xs : List Value) (hs : a.eval s = v) (hq : Que w b e v xs)
    (g c : Nat) (u : Value) (hx : a.eval x = .slice (some ⟨g, 0, none⟩) 1 c) (hg : w.cell? ⟨g, 0, none⟩ = some u) (h1 : u.oneCell' = true)
    (h63 : xs.length + 1 ≤ maxLen) (hbytes : (xs.length + 1) * bytes ≤ 140737488355328) (hb : b ≤ w.heap.size)
    (h : ∀ v' w', Que w' b e v' (xs ++ [u]) → Chg (blkOf v).toList w w' → (blkOf v' = blkOf v ∨ ∃ n, blkOf v' = some n ∧ w.heap.size ≤ n) → wpList P ops Q rest (a.put o.dst v') w') : wpList P ops Q (o :: rest) a w := by
  obtain ⟨i0, hi, hz0, hz1, hz2⟩ := info_parts hi
  obtain ⟨g0, off, cap, cur, rfl, h2, h3, h4, h5, h6, h7⟩ := hq
  refine wpList_append_arg w hgd s x t ho e i0 z 1 bytes ht hi hz0 hz1 hz2 hzs (by decide) g0 off xs.length cap xs hs (by omega) (fun j u hj => by rw [h3.cell]; exact h7 j u hj)
    ⟨g, 0, none⟩ 1 c [u] hx rfl ?_ ?_ ?_ h63 hbytes ?_ ?_
  · intro j u' hj
    match j, hj with
    | 0, hj => simp at hj; subst hj; simpa [Addr.add] using hg
  · intro u' hu; simp at hu; subst hu; exact h1
  · intro hr j hj
    simp at hj; subst hj
    rw [h3.cell, h3.frozen, Array.getElem?_eq_getElem (by omega)]
    exact ⟨rfl, rfl⟩
  · intro hr
    have e1 : w.setCells g0 (off + xs.length * 1) [u] = w.setCell ⟨g0, off + xs.length, none⟩ u := by simp [World.setCells]
    rw [e1]
    refine h _ _ ⟨g0, off, cap, cur.setIfInBounds (off + xs.length) u, by simp, h2, h3.setCell _ _, by simpa using h4, by simpa using hr, h6, fun j y hy => ?_⟩ ((Chg.refl _ _).setCell (.inl (by simp [blkOf])) _) (.inl rfl)
    rw [Array.getElem?_setIfInBounds]
    by_cases hj : j < xs.length
    · rw [if_neg (by omega)]
      rw [List.getElem?_append_left hj] at hy
      exact h7 j y hy
    · have hl : j < (xs ++ [u]).length := (List.getElem?_eq_some_iff.1 hy).1
      simp at hl
      obtain rfl : j = xs.length := by omega
      rw [if_pos rfl, if_pos (by omega)]
      simpa using hy
  · intro hr v' w' h8 h9
    have h8' : Own w' w.heap.size e v' (xs ++ [u]) := by unfold Own; simpa using h8
    obtain ⟨q1, q2⟩ := Que.of_own h8' (by simp)
    refine h v' w' (q1.mono hb) ((Chg.of_grown h9).mono (by simp)) (.inr ?_)
    obtain ⟨n, hn, hn2, _⟩ := q1.block
    exact ⟨n, hn, hn2⟩
end

/-- The same; or nil, and empty. -/
def QueN (w : World) (b : Nat) (e : TypeId) (v : Value) (xs : List Value) : Prop := (v = .slice none 0 0 ∧ xs = []) ∨ Que w b e v xs
section
variable {w w1 : World} {v : Value} {xs : List Value} {b : Nat} {e : TypeId}
theorem QueN.chg {S : List Nat} (h : QueN w b e v xs) (hc : Chg S w w1) (hS : ∀ g, g ∈ S → blkOf v ≠ some g) : QueN w1 b e v xs := h.imp id (fun h => h.chg hc hS)
theorem QueN.keep (h : QueN w b e v xs) (hc : Chg [] w w1) : QueN w1 b e v xs := h.chg hc (fun g hg => by cases hg)
theorem QueN.mono {b' : Nat} (h : QueN w b e v xs) (hb : b' ≤ b) : QueN w b' e v xs := h.imp id (fun h => h.mono hb)
theorem QueN.que (h : QueN w b e v xs) (h0 : xs ≠ []) : Que w b e v xs := by
  rcases h with ⟨_, h⟩ | h
  · exact absurd h h0
  · exact h
theorem QueN.reads (h : QueN w b e v xs) : Reads w v xs := by
  rcases h with ⟨rfl, rfl⟩ | h
  · exact Reads.nil _ _ _
  · exact h.reads
theorem QueN.block (h : QueN w b e v xs) {g : Nat} (hg : blkOf v = some g) : b ≤ g ∧ g < w.heap.size := by
  rcases h with ⟨rfl, rfl⟩ | h
  · cases hg
  · obtain ⟨g', h1, h2⟩ := h.block
    rw [hg] at h1
    cases h1
    exact h2
end
section
variable {P : Program} {ops : Array Oper} {Q : Exit → Act → World → Prop} {rest : List Oper} {o : Oper} {a : Act} {w : World}
/-- 'append(q, x)', q nil perhaps. -/
theorem wpList_quen_app (hgd : o.guard = none) (s x : Operand) (t : TypeId)
    (ho : o.op = .call { callee := .builtin .append, args := #[s, x], argTypes := #[t, t] })
    (b : Nat) (e : TypeId) (z : Value) (bytes : Nat) (ht : P.underlying t = some (.slice e)) (hi : (P.info? e).map (fun i => (i.zero, i.size, i.bytes)) = some (some z, 1, bytes)) (hzs : z.cells.size = 1)
    (v : Value) (xs : List Value) (hs : a.eval s = v) (hq : QueN w b e v xs)
    (g c : Nat) (u : Value) (hx : a.eval x = .slice (some ⟨g, 0, none⟩) 1 c) (hg : w.cell? ⟨g, 0, none⟩ = some u) (h1 : u.oneCell' = true)
    (h63 : xs.length + 1 ≤ maxLen) (hbytes : (xs.length + 1) * bytes ≤ 140737488355328) (hb : b ≤ w.heap.size)
    (h : ∀ v' w', Que w' b e v' (xs ++ [u]) → Chg (blkOf v).toList w w' → (blkOf v' = blkOf v ∨ ∃ n, blkOf v' = some n ∧ w.heap.size ≤ n) → wpList P ops Q rest (a.put o.dst v') w') : wpList P ops Q (o :: rest) a w := by
  rcases hq with ⟨rfl, rfl⟩ | hq
  · refine wpList_app1 hgd s x t ho w.heap.size e z bytes ht hi hzs _ [] hs (Own.nil _ _ _) g c u hx hg h1 h63 hbytes (Nat.le_refl _) ?_
    intro v' w' h8 h9
    obtain ⟨q1, q2⟩ := Que.of_own h8 (by simp)
    obtain ⟨n, hn, hn2, _⟩ := q1.block
    exact h v' w' (q1.mono hb) h9 (.inr ⟨n, hn, hn2⟩)
  · exact wpList_que_app hgd s x t ho b e z bytes ht hi hzs v xs hs hq g c u hx hg h1 h63 hbytes hb h
end

section
variable {P : Program} {ops : Array Oper} {Q : Exit → Act → World → Prop} {rest : List Oper} {o : Oper} {a : Act} {w : World}
/-- 'append(s, u...)', both the call's own; where the outcome lies is told. -/
theorem wpList_app_own (hgd : o.guard = none) (s x : Operand) (t : TypeId)
    (ho : o.op = .call { callee := .builtin .append, args := #[s, x], argTypes := #[t, t] })
    (b : Nat) (e : TypeId) (z : Value) (bytes : Nat) (ht : P.underlying t = some (.slice e)) (hi : (P.info? e).map (fun i => (i.zero, i.size, i.bytes)) = some (some z, 1, bytes)) (hzs : z.cells.size = 1)
    (v : Value) (xs : List Value) (hs : a.eval s = v) (hown : Own w b e v xs)
    (u : Value) (b' : Nat) (e' : TypeId) (ys : List Value) (hx : a.eval x = u) (hu : Own w b' e' u ys) (h1 : ∀ y ∈ ys, y.oneCell' = true)
    (h63 : xs.length + ys.length ≤ maxLen) (hbytes : (xs.length + ys.length) * bytes ≤ 140737488355328) (hb : b ≤ w.heap.size)
    (h : ∀ v' w', Own w' b e v' (xs ++ ys) → Chg v.ownBlock.toList w w' → (v'.ownBlock = v.ownBlock ∨ v'.ownBlock = some w.heap.size) → wpList P ops Q rest (a.put o.dst v') w') : wpList P ops Q (o :: rest) a w := by
  obtain ⟨i0, hi, hz0, hz1, hz2⟩ := info_parts hi
  obtain ⟨hl, hu⟩ := hu
  rcases hu with ⟨rfl, hn⟩ | ⟨g, cap, cur, rfl, hb2, hg, hn, hc, hs2, ht2⟩
  · obtain rfl : ys = [] := List.eq_nil_of_length_eq_zero hn
    refine wpList_append_own_none hgd s x t ho b e i0 1 ht hi v xs.length xs hs hown hx ?_
    exact h v w (by simpa using hown) ((Chg.refl _ _).mono (fun g hg => .inl hg)) (.inl rfl)
  · refine wpList_append_own_at w hgd s x t ho b e i0 z 1 bytes ht hi hz0 hz1 hz2 hzs (by decide) v xs.length xs hs hown ⟨g, 0, none⟩ ys.length cap ys hx (by omega) ?_ h1 h63 hbytes hb ?_
    · intro j y hj
      have hlt : j < ys.length := (List.getElem?_eq_some_iff.1 hj).1
      have hadd : (⟨g, 0, none⟩ : Addr).add j = ⟨g, j, none⟩ := by clear hs hx hown h h1 hb; simp [Addr.add]; omega
      rw [hadd, cell_of_row _ _ _ _ _ _ hg]
      have : (cur.toList.take (ys.length * 1))[j]? = ys[j]? := by rw [ht2]
      rw [List.getElem?_take, if_pos (by omega), hj] at this
      simpa using this
    · intro v' w' h2 h3 _ h4
      exact h v' w' (by unfold Own; simpa using h2) (Chg.of_grown h3) h4
/-- 'append(s, x)' of one value more; where the outcome lies is told. -/
theorem wpList_app1_at (hgd : o.guard = none) (s x : Operand) (t : TypeId)
    (ho : o.op = .call { callee := .builtin .append, args := #[s, x], argTypes := #[t, t] })
    (b : Nat) (e : TypeId) (z : Value) (bytes : Nat) (ht : P.underlying t = some (.slice e)) (hi : (P.info? e).map (fun i => (i.zero, i.size, i.bytes)) = some (some z, 1, bytes)) (hzs : z.cells.size = 1)
    (v : Value) (xs : List Value) (hs : a.eval s = v) (hown : Own w b e v xs)
    (g c : Nat) (u : Value) (hx : a.eval x = .slice (some ⟨g, 0, none⟩) 1 c) (hg : w.cell? ⟨g, 0, none⟩ = some u) (h1 : u.oneCell' = true)
    (h63 : xs.length + 1 ≤ maxLen) (hbytes : (xs.length + 1) * bytes ≤ 140737488355328) (hb : b ≤ w.heap.size)
    (h : ∀ v' w', Own w' b e v' (xs ++ [u]) → Chg v.ownBlock.toList w w' → (v'.ownBlock = v.ownBlock ∨ v'.ownBlock = some w.heap.size) → wpList P ops Q rest (a.put o.dst v') w') : wpList P ops Q (o :: rest) a w := by
  obtain ⟨i0, hi, hz0, hz1, hz2⟩ := info_parts hi
  refine wpList_append_own_at w hgd s x t ho b e i0 z 1 bytes ht hi hz0 hz1 hz2 hzs (by decide) v xs.length xs hs hown ⟨g, 0, none⟩ 1 c [u] hx rfl ?_ ?_ h63 hbytes hb ?_
  · intro j u' hj
    match j, hj with
    | 0, hj => simp at hj; subst hj; simpa [Addr.add] using hg
  · intro u' hu; simp at hu; subst hu; exact h1
  · intro v' w' h2 h3 _ h4
    exact h v' w' (by unfold Own; simpa using h2) (Chg.of_grown h3) h4
end
end Bosun
