/- rack: what a work's next function leaves, followed cell by cell; a new steal or push on the work's deque. -/
import Derived.Test.YtjdbgohfedjifaaDoorRk8
import Derived.Test.YtjdbgohfedjifaaDoorRkTel
namespace Go.Proofs.YtjdbgohfedjifaaDoor
open Go.RowKit Bosun
theorem ckp {w w1 : World} {a : Addr} {v : Value} (C : Chg [] w w1) (h : w.cell? a = some v) : w1.cell? a = some v :=
  (World.cell?_of_block (w := w) (C.block _ (World.block_lt_of_cell? w _ h) (by simp))).trans h
theorem fkp {w w1 : World} {a : Addr} {v : Value} (C : Chg [] w w1) (h : w.cell? a = some v) : w1.frozen? a = w.frozen? a :=
  World.frozen?_of_block (w := w) (C.block _ (World.block_lt_of_cell? w _ h) (by simp))
theorem csk {w : World} {g i j : Nat} {v u : Value} (h : w.cell? ⟨g, j, none⟩ = some u) (hij : i ≠ j) : (w.setCell ⟨g, i, none⟩ v).cell? ⟨g, j, none⟩ = some u :=
  (World.cell?_setCell_other (w := w) (v := v) (a := ⟨g, i, none⟩) (b := ⟨g, j, none⟩) (by intro h; injection h; omega)).trans h
/-- A function is stored: the walk does not run it by itself. -/
theorem storeF (w : World) {g i : Nat} (f : FuncId) {u : Value} (h : w.cell? ⟨g, i, none⟩ = some u) (z : w.frozen? ⟨g, i, none⟩ = false) :
    (store ⟨g, i, none⟩ (.func (.func f) #[] #[])).run Tryd.prog w = .ok () (w.setCell ⟨g, i, none⟩ (.func (.func f) #[] #[])) := by
  rw [run_store Tryd.prog w ⟨g, i, none⟩ (.func (.func f) #[] #[]) .plain rfl, h]
  simp [z]
theorem storeF6 (w : World) {g i : Nat} (f : FuncId) {u v : Value} (h : w.cell? ⟨g, i, none⟩ = some u) (z : w.frozen? ⟨g, i, none⟩ = false) (hi : 6 ≠ i) :
    (store ⟨g, i, none⟩ (.func (.func f) #[] #[])).run Tryd.prog (w.setCell ⟨g, 6, none⟩ v) = .ok () ((w.setCell ⟨g, 6, none⟩ v).setCell ⟨g, i, none⟩ (.func (.func f) #[] #[])) :=
  storeF _ f (csk h hi) (by rw [World.frozen?_setCell]; exact z)
/-- Where a walk through a work's next function stands. -/
structure Tr (W0 W : World) (wb rb bm bw : Nat) (gv : Value) (ob0 ob : Option Nat) (r : RRack) (w : RWork) (M : List Nat) (u : Nat) : Prop where
  rig : Rig W wb rb bm bw gv ob r w M u
  chg : Chg (wb :: rb :: bm :: bw :: ob0.toList) W0 W
  new : ob = ob0 ∨ ∃ g, ob = some g ∧ W0.heap.size ≤ g
section
variable {W0 W W1 W' : World} {wb rb bm bw : Nat} {gv : Value} {ob0 ob : Option Nat} {r r' : RRack} {w w' : RWork} {M M' : List Nat} {u u' : Nat}
theorem Tr.start (h : Rig W wb rb bm bw gv ob r w M u) : Tr W W wb rb bm bw gv ob ob r w M u := ⟨h, Chg.refl _ _, .inl rfl⟩
theorem Tr.fin (h : Tr W0 W wb rb bm bw gv ob0 ob r w M u) {s : RRack × RWork × List Nat × Nat} (hs : s = (r, w, M, u)) {e : Ending} (he : e = .returned (.tuple #[])) : Turned W0 W wb rb bm bw gv ob0 s e := by
  subst hs
  exact ⟨he, ob, h.rig, h.chg, h.new⟩
theorem Rig.keep (h : Rig W wb rb bm bw gv ob r w M u) (C : Chg [] W W') : Rig W' wb rb bm bw gv ob r w M u :=
  ⟨Blk.chg h.wk C (by simp), Blk.chg h.rk C (by simp), h.mem.chg C (by simp) (by simp), h.opChg (C.mono (by simp)), h.ok, h.kind, h.level, h.steps⟩
theorem Tr.keep (h : Tr W0 W wb rb bm bw gv ob0 ob r w M u) (C : Chg [] W W') : Tr W0 W' wb rb bm bw gv ob0 ob r w M u := ⟨h.rig.keep C, h.chg.then C (by simp), h.new⟩
/-- The work's own cells change; its op does not. -/
theorem Rig.own (h : Rig W wb rb bm bw gv ob r w M u) (B : IsWk W' wb rb gv ob w') (C : Chg [wb] W W') (ho : w'.op = w.op) (hk : w'.kind < 2) (hl : w'.done = false → w'.level < 8) (hs : w'.steps ≤ 1000000) : Rig W' wb rb bm bw gv ob r w' M u :=
  ⟨B, Blk.chg h.rk C (by simp; exact Ne.symm h.wr), h.mem.chg C (by simp; exact Ne.symm h.wm) (by simp; exact Ne.symm h.ww), by rw [ho]; exact h.opChg (C.mono (by intro g hg; left; simp at hg ⊢; left; exact hg)), h.ok, hk, hl, hs⟩
theorem Tr.own (h : Tr W0 W wb rb bm bw gv ob0 ob r w M u) (B : IsWk W' wb rb gv ob w') (C : Chg [wb] W W') (ho : w'.op = w.op) (hk : w'.kind < 2) (hl : w'.done = false → w'.level < 8) (hs : w'.steps ≤ 1000000) : Tr W0 W' wb rb bm bw gv ob0 ob r w' M u :=
  ⟨h.rig.own B C ho hk hl hs, h.chg.then C (by intro g hg; left; simp at hg ⊢; left; exact hg), h.new⟩
theorem Tr.cell (h : Tr W0 W wb rb bm bw gv ob0 ob r w M u) (j : Nat) : W.cell? ⟨wb, j, none⟩ = (wkCells rb gv ob w)[j]? := Blk.cell h.rig.wk j
theorem Tr.frozen (h : Tr W0 W wb rb bm bw gv ob0 ob r w M u) (j : Nat) : W.frozen? ⟨wb, j, none⟩ = false := Blk.frozen h.rig.wk j
/-- A new work on a deque. -/
theorem Tr.op (h : Tr W0 W wb rb bm bw gv ob0 ob r w M u) {o : DOp} {g : Nat} (O : IsOp W g o) (ok : OkOp o) (hg : W0.heap.size ≤ g) : Tr W0 (W.setCell ⟨wb, 6, none⟩ (.pointer (some ⟨g, 0, none⟩))) wb rb bm bw gv ob0 (some g) r { w with op := some o } M u := by
  have C : Chg [wb] W (W.setCell ⟨wb, 6, none⟩ (.pointer (some ⟨g, 0, none⟩))) := (Chg.refl _ _).setCell (.inl (by simp)) _
  have B : IsWk (W.setCell ⟨wb, 6, none⟩ (.pointer (some ⟨g, 0, none⟩))) wb rb gv (some g) { w with op := some o } := Blk.setCell h.rig.wk 6 _
  have hgw : g ≠ wb := blk_ne O h.rig.wk (by decide)
  exact ⟨⟨B, Blk.chg h.rig.rk C (by simp; exact Ne.symm h.rig.wr), h.rig.mem.chg C (by simp; exact Ne.symm h.rig.wm) (by simp; exact Ne.symm h.rig.ww), ⟨O.chg C (by simp; exact hgw), ok⟩, h.rig.ok, h.rig.kind, h.rig.level, h.rig.steps⟩, h.chg.then C (by intro g hg; left; simp at hg ⊢; left; exact hg), .inr ⟨g, rfl, hg⟩⟩
/-- The work on the deque made a step. -/
theorem Tr.stepped (h : Tr W0 W wb rb bm bw gv ob0 ob0 r w M u) {g : Nat} (hob : ob0 = some g) {o' : DOp} (O : IsOp W' g o') (ok : OkOp o') (Mm : IsMem W' bm bw M' u') (C : Chg [g, bm, bw] W W') (n1 : g ≠ wb) (n2 : g ≠ rb) : Tr W0 W' wb rb bm bw gv ob0 ob0 r { w with op := some o' } M' u' := by
  subst hob
  exact ⟨⟨Blk.chg h.rig.wk C (by simp; exact ⟨Ne.symm n1, h.rig.wm, h.rig.ww⟩), Blk.chg h.rig.rk C (by simp; exact ⟨Ne.symm n2, h.rig.rm, h.rig.rw_⟩), Mm, ⟨O, ok⟩, h.rig.ok, h.rig.kind, h.rig.level, h.rig.steps⟩, h.chg.then C (by intro g hg; left; simp at hg ⊢; omega), .inl rfl⟩
/-- A memory access of the work's own. -/
theorem Tr.access (h : Tr W0 W wb rb bm bw gv ob0 ob r w M u) (Mm : IsMem W' bm bw M' u') (C : Chg [bm, bw] W W') : Tr W0 W' wb rb bm bw gv ob0 ob r w M' u' :=
  ⟨⟨Blk.chg h.rig.wk C (by simp; exact ⟨h.rig.wm, h.rig.ww⟩), Blk.chg h.rig.rk C (by simp; exact ⟨h.rig.rm, h.rig.rw_⟩), Mm, h.rig.opChg (C.mono (by intro g hg; left; simp at hg ⊢; omega)), h.rig.ok, h.rig.kind, h.rig.level, h.rig.steps⟩, h.chg.then C (by intro g hg; left; simp at hg ⊢; omega), h.new⟩
theorem Tr.end_ (h : Tr W0 W wb rb bm bw gv ob0 ob r w M u) (e : Int) (B : IsWk W' wb rb gv ob { w with done := true, err := e }) (C : Chg [wb] W W') : Tr W0 W' wb rb bm bw gv ob0 ob r { w with done := true, err := e } M u :=
  h.own B C rfl h.rig.kind (fun h => by simp at h) h.rig.steps
theorem Tr.next (h : Tr W0 W wb rb bm bw gv ob0 ob r w M u) (n : RNext) (B : IsWk W' wb rb gv ob { w with next := n }) (C : Chg [wb] W W') : Tr W0 W' wb rb bm bw gv ob0 ob r { w with next := n } M u :=
  h.own B C rfl h.rig.kind h.rig.level h.rig.steps
theorem Tr.size (h : Tr W0 W wb rb bm bw gv ob0 ob r w M u) : W0.heap.size ≤ W.heap.size := h.chg.size
/-- A new op on the work's deque, and the next function. -/
theorem Tr.opAt (h : Tr W0 W wb rb bm bw gv ob0 ob r w M u) (hd : w.done = false) : -100 ≤ r.at w.kind w.level ∧ r.at w.kind w.level ≤ 1000000 := atOk h.rig.ok h.rig.kind (h.rig.level hd)
end
end Go.Proofs.YtjdbgohfedjifaaDoor
