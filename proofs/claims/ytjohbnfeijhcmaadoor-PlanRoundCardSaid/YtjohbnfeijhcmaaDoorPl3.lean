/- plan: a row of entries of one's own, to which one is appended; a slice that came in, cut. Over any program. -/
import Derived.Test.YtjohbnfeijhcmaaDoorPl2
import Derived.Maps.AppendAt
namespace Bosun
open Go Go.RowKit Go.ChangeShapes Go.WideShapes Go.ChangeAt
theorem cells3 (e : Ent) : e.cells.length = 3 := rfl
def flatE (l : List Ent) : List Value := l.flatMap Ent.cells
theorem flatE_len (l : List Ent) : (flatE l).length = l.length * 3 := by
  induction l with
  | nil => rfl
  | cons e l ih => unfold flatE at *; rw [List.flatMap_cons, List.length_append, ih, cells3, List.length_cons]; omega
theorem flatE_get : ∀ (l : List Ent) (i : Nat) (e : Ent), l[i]? = some e → ∀ j, j < 3 → (flatE l)[i * 3 + j]? = e.cells[j]?
  | [], i, e, h, _, _ => by simp at h
  | x :: l, 0, e, h, j, hj => by
    obtain rfl : x = e := by simpa using h
    unfold flatE
    rw [List.flatMap_cons, List.getElem?_append_left (by rw [cells3]; omega)]
    congr 1; omega
  | x :: l, i + 1, e, h, j, hj => by
    unfold flatE
    rw [List.flatMap_cons, List.getElem?_append_right (by rw [cells3]; omega), cells3, show (i + 1) * 3 + j - 3 = i * 3 + j from by omega]
    exact flatE_get l i e (by simpa using h) j hj
/-- The slice v holds the entries l in a block of its own, from block b on. -/
def OwnE (w : World) (b : Nat) (t : TypeId) (v : Value) (l : List Ent) : Prop := w.ownsRow b t 3 v l.length (flatE l)
section
variable {w w1 : World} {v : Value} {l : List Ent} {b : Nat} {t : TypeId}
theorem OwnE.nil (w : World) (b : Nat) (t : TypeId) : OwnE w b t (.slice none 0 0) [] := World.ownsRow_nil _ _ _ _
theorem OwnE.chg {S : List Nat} (h : OwnE w b t v l) (hc : Chg S w w1) (hS : ∀ g, g ∈ S → v.ownBlock ≠ some g) : OwnE w1 b t v l := by
  refine ⟨h.1, ?_⟩
  rcases h.2 with h | ⟨g, cap, cur, h1, h2, h3, r⟩
  · exact .inl h
  · refine .inr ⟨g, cap, cur, h1, h2, ?_, r⟩
    rw [hc.block g (Array.getElem?_eq_some_iff.1 h3).1 (fun hm => hS g hm (by rw [h1]; rfl))]
    exact h3
theorem OwnE.keep (h : OwnE w b t v l) (hc : Chg [] w w1) : OwnE w1 b t v l := h.chg hc (fun g hg => by cases hg)
theorem OwnE.alloc (h : OwnE w b t v l) (o : Obj) : OwnE (w.alloc o) b t v l := World.ownsRow.alloc h o
theorem OwnE.block (h : OwnE w b t v l) : ∀ g, g ∈ v.ownBlock.toList → b ≤ g ∧ g < w.heap.size := by
  intro g hg
  refine World.ownsRow.lt h g ?_
  cases hv : v.ownBlock with
  | none => rw [hv] at hg; simp at hg
  | some x => rw [hv] at hg; simp at hg; rw [hg]
theorem OwnE.fresh (h : OwnE w b t v l) {g : Nat} (hg : w.heap.size ≤ g ∨ g < b) : v.ownBlock ≠ some g := by
  intro he
  have := h.block g (by rw [he]; simp)
  omega
theorem OwnE.mono {b' : Nat} (h : OwnE w b t v l) (hb : b' ≤ b) : OwnE w b' t v l := by
  refine ⟨h.1, ?_⟩
  rcases h.2 with h | ⟨g, cap, cur, h1, h2, r⟩
  · exact .inl h
  · exact .inr ⟨g, cap, cur, h1, by omega, r⟩
theorem OwnE.shape (h : OwnE w b t v l) : ∃ gx cap, v = .slice gx l.length cap ∧ OwnE w b t (.slice gx l.length cap) l := by
  rcases h.2 with ⟨rfl, h0⟩ | ⟨g, cap, cur, rfl, r⟩
  · exact ⟨none, 0, by rw [h0], by rw [h0]; exact h⟩
  · exact ⟨_, _, rfl, h⟩
theorem OwnE.reads (h : OwnE w b t v l) : ReadsE w v l := by
  obtain ⟨hl, h⟩ := h
  rcases h with ⟨rfl, h0⟩ | ⟨g, cap, cur, rfl, hb, hg, hn, hc, hs, ht⟩
  · obtain rfl := List.eq_nil_of_length_eq_zero h0
    exact ⟨none, 0, rfl, by simp, fun i r hr => by simp at hr⟩
  · refine ⟨_, cap, by rw [List.length_map], by rw [List.length_map]; omega, fun i r hr => ⟨g, 0, rfl, fun j y hy => ?_⟩⟩
    rw [List.getElem?_map, Option.map_eq_some_iff] at hr
    obtain ⟨e, he, rfl⟩ := hr
    have hi : i < l.length := (List.getElem?_eq_some_iff.1 he).1
    have hj : j < 3 := by have := (List.getElem?_eq_some_iff.1 hy).1; rwa [cells3] at this
    rw [Nat.zero_add, cell_of_row _ _ _ _ _ _ hg]
    have h1 : (cur.toList.take (l.length * 3))[i * 3 + j]? = (flatE l)[i * 3 + j]? := by rw [ht]
    rw [List.getElem?_take, if_pos (by omega), flatE_get l i e he j hj, hy] at h1
    simpa using h1
end
section
variable {P : Program} {ops : Array Oper} {Q : Exit → Act → World → Prop} {rest : List Oper} {o : Oper} {a : Act} {w : World}
/-- 'append(s, e)' -/
theorem wpList_appE (hgd : o.guard = none) (s x : Operand) (t : TypeId)
    (ho : o.op = .call { callee := .builtin .append, args := #[s, x], argTypes := #[t, t] })
    (b : Nat) (e : TypeId) (z : Value) (bytes : Nat) (ht : P.underlying t = some (.slice e)) (hi : (P.info? e).map (fun i => (i.zero, i.size, i.bytes)) = some (some z, 3, bytes)) (hzs : z.cells.size = 3)
    (v : Value) (l : List Ent) (hs : a.eval s = v) (hown : OwnE w b e v l)
    (g c : Nat) (en : Ent) (hx : a.eval x = .slice (some ⟨g, 0, none⟩) 1 c) (hg : Blk w g en.cells.toArray e)
    (h63 : l.length + 1 ≤ maxLen) (hbytes : (l.length + 1) * bytes ≤ 140737488355328) (hb : b ≤ w.heap.size)
    (h : ∀ v' w', OwnE w' b e v' (l ++ [en]) → Chg v.ownBlock.toList w w' → wpList P ops Q rest (a.put o.dst v') w') : wpList P ops Q (o :: rest) a w := by
  obtain ⟨i0, hi, hz0, hz1, hz2⟩ := info_parts hi
  refine wpList_append_own_at w hgd s x t ho b e i0 z 3 bytes ht hi hz0 hz1 hz2 hzs (by decide) v l.length (flatE l) hs hown ⟨g, 0, none⟩ 1 c en.cells hx rfl ?_ ?_ h63 hbytes hb ?_
  · intro j u' hj
    rw [show (⟨g, 0, none⟩ : Addr).add j = ⟨g, j, none⟩ from by rw [add_plain, Nat.zero_add], hg.cell]
    simpa using hj
  · intro u' hu; simp [Ent.cells] at hu; rcases hu with rfl | rfl | rfl <;> rfl
  · intro v' w' h1 h2 _ _
    exact h v' w' (by unfold OwnE; simpa [flatE] using h1) (Chg.of_grown h2)
end
/-- The slice v reads as xs, and may be cut. -/
def RdC (w : World) (v : Value) (xs : List Value) : Prop :=
  ∃ ao cap, v = .slice ao xs.length cap ∧ xs.length ≤ cap ∧ xs.length ≤ maxLen ∧ ∀ j x, xs[j]? = some x → ∃ g off, ao = some ⟨g, off, none⟩ ∧ w.cell? ⟨g, off + j, none⟩ = some x
section
variable {w w1 : World} {v : Value} {xs : List Value} {b : Nat} {e : TypeId}
theorem RdC.reads (h : RdC w v xs) : Reads w v xs := by
  obtain ⟨ao, cap, rfl, _, hm, hc⟩ := h
  exact ⟨ao, cap, rfl, hm, hc⟩
theorem RdC.of_reads {ao : Option Addr} {n cap : Nat} (h : Reads w (.slice ao n cap) xs) (hc : n ≤ cap) : RdC w (.slice ao n cap) xs := by
  obtain ⟨ao', cap', hv, hm, h'⟩ := h
  simp at hv
  obtain ⟨rfl, rfl, rfl⟩ := hv
  exact ⟨ao, cap, rfl, hc, hm, h'⟩
theorem RdC.of_own (h : Own w b e v xs) : RdC w v xs := by
  have hr := h.reads
  rcases h.2 with ⟨rfl, h0⟩ | ⟨g, cap, cur, rfl, hb, hg, hn, hc, hs, ht⟩
  · exact RdC.of_reads hr (by omega)
  · exact RdC.of_reads hr hn
theorem RdC.shape (h : RdC w v xs) : ∃ ao cap, v = .slice ao xs.length cap ∧ RdC w (.slice ao xs.length cap) xs := by
  obtain ⟨ao, cap, rfl, hm⟩ := h
  exact ⟨ao, cap, rfl, ao, cap, rfl, hm⟩
theorem RdC.keep (h : RdC w v xs) (hc : Chg [] w w1) : RdC w1 v xs := by
  obtain ⟨ao, cap, rfl, hm, hm2, h⟩ := h
  refine ⟨ao, cap, rfl, hm, hm2, fun j x hx => ?_⟩
  obtain ⟨g, off, rfl, hj'⟩ := h j x hx
  refine ⟨g, off, rfl, ?_⟩
  rw [← hj']
  exact World.cell?_of_block (w := w) (hc.block g (World.block_lt_of_cell? w _ hj') (by simp))
theorem RdC.drop {ao : Option Addr} {n cap : Nat} (h : RdC w (.slice ao n cap) xs) {k : Nat} (hk : k ≤ xs.length) : RdC w (sliced ao k n cap 1) (xs.drop k) := by
  obtain ⟨ao', cap', hv, hm, hm2, h⟩ := h
  simp at hv
  obtain ⟨rfl, rfl, rfl⟩ := hv
  refine ⟨_, _, by rw [List.length_drop]; rfl, by rw [List.length_drop]; omega, by rw [List.length_drop]; omega, fun j x hx => ?_⟩
  rw [List.getElem?_drop] at hx
  have hlt := (List.getElem?_eq_some_iff.1 hx).1
  obtain ⟨g, off, rfl, hc⟩ := h _ _ hx
  rw [if_neg (by omega)]
  exact ⟨g, off + k, by simp [Addr.add], by rw [← hc]; congr 2; omega⟩
theorem RdC.take {ao : Option Addr} {n cap : Nat} (h : RdC w (.slice ao n cap) xs) {k : Nat} (hk : k ≤ xs.length) : RdC w (sliced ao 0 k cap 1) (xs.take k) := by
  obtain ⟨ao', cap', hv, hm, hm2, h⟩ := h
  simp at hv
  obtain ⟨rfl, rfl, rfl⟩ := hv
  have hl : (xs.take k).length = k := by rw [List.length_take]; omega
  refine ⟨ao, cap, by rw [hl]; unfold sliced; congr 1; split; rfl; cases ao <;> simp [Addr.add], by rw [hl]; omega, by rw [hl]; omega, fun j x hx => ?_⟩
  have hj : j < k := by have := (List.getElem?_eq_some_iff.1 hx).1; omega
  rw [List.getElem?_take, if_pos hj] at hx
  exact h _ _ hx
variable {P : Program} {ops : Array Oper} {Q : Exit → Act → World → Prop} {rest : List Oper} {o : Oper} {a : Act} {w : World}
/-- 'v[k:]' -/
theorem wpList_rd_from (hgd : o.guard = none) (t : TypeId) (x lo : Operand) (ho : o.op = .slice t x (some lo) none none) (e : TypeId) (ht : P.underlying t = some (.slice e)) (hz : (P.info? e).map (·.size) = some 1)
    (kd : IntKind) (k : Nat) (hlo : a.eval lo = .int kd k) (v : Value) (hx : a.eval x = v) (xs : List Value) (hq : RdC w v xs) (hk : k ≤ xs.length)
    (h : ∀ v', RdC w v' (xs.drop k) → wpList P ops Q rest (a.put o.dst v') w) : wpList P ops Q (o :: rest) a w := by
  obtain ⟨ao, cap, rfl, hm, hm2, hc⟩ := hq
  have hq' : RdC w (.slice ao xs.length cap) xs := ⟨ao, cap, rfl, hm, hm2, hc⟩
  have hpe : P.elem t = e := by simp [Program.elem, ht]
  have ht' : P.underlying t = some (.slice (P.elem t)) := by rw [hpe]; exact ht
  obtain ⟨i0, hi0, hi1⟩ := Option.map_eq_some_iff.1 hz
  refine wpList_val hgd (v := sliced ao k xs.length cap 1) (w' := w) ?_ (h _ (hq'.drop hk))
  have hr := run_slice_l w t ao xs.length cap ht' kd k (by omega) (by omega)
  unfold execOp
  simp only [ho, hx, hlo, Option.map_some, Option.map_none, run_sliceAt_slice w t _ _ _ _ ht', Sem.run_bind, hr]
  simp [Go.sizeOf, typeInfo, hpe, hi0, hi1]
/-- 'v[:k]' -/
theorem wpList_rd_to (hgd : o.guard = none) (t : TypeId) (x lo : Operand) (ho : o.op = .slice t x none (some lo) none) (e : TypeId) (ht : P.underlying t = some (.slice e)) (hz : (P.info? e).map (·.size) = some 1)
    (kd : IntKind) (k : Nat) (hlo : a.eval lo = .int kd k) (v : Value) (hx : a.eval x = v) (xs : List Value) (hq : RdC w v xs) (hk : k ≤ xs.length)
    (h : ∀ v', RdC w v' (xs.take k) → wpList P ops Q rest (a.put o.dst v') w) : wpList P ops Q (o :: rest) a w := by
  obtain ⟨ao, cap, rfl, hm, hm2, hc⟩ := hq
  have hq' : RdC w (.slice ao xs.length cap) xs := ⟨ao, cap, rfl, hm, hm2, hc⟩
  have hpe : P.elem t = e := by simp [Program.elem, ht]
  have ht' : P.underlying t = some (.slice (P.elem t)) := by rw [hpe]; exact ht
  obtain ⟨i0, hi0, hi1⟩ := Option.map_eq_some_iff.1 hz
  refine wpList_val hgd (v := sliced ao 0 k cap 1) (w' := w) ?_ (h _ (hq'.take hk))
  have hr := run_slice_h w t ao xs.length cap ht' kd k (by omega) (by omega)
  unfold execOp
  simp only [ho, hx, hlo, Option.map_some, Option.map_none, run_sliceAt_slice w t _ _ _ _ ht', Sem.run_bind, hr]
  simp [Go.sizeOf, typeInfo, hpe, hi0, hi1]
end
end Bosun
