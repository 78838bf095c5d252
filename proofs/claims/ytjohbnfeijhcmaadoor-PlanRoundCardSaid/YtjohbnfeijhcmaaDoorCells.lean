/- Several cells of a known block are stored at once: a struct, into its place in a row. Over any program. -/
import Derived.Test.YtjohbnfeijhcmaaDoorBase
namespace Bosun
open Go Go.RowKit
section
variable {P : Program} {ops : Array Oper} {Q : Exit → Act → World → Prop} {rest : List Oper} {o : Oper} {a : Act} {w : World}
theorem wpList_put_cells (hgd : o.guard = none) (ty : TypeId) (x y : Operand) (ho : o.op = .store ty x y)
    (g off : Nat) (hx : a.eval x = .pointer (some ⟨g, off, none⟩)) (v : Value) (hy : a.eval y = v) (vs : List Value) (hv : v.cells.toList = vs) (t : TypeId) (old : Array Value) (hg : Blk w g old t)
    (hi : (P.info? ty).map (·.size) = some vs.length) (hfit : off + vs.length ≤ old.size) (h1 : ∀ u ∈ vs, u.oneCell' = true)
    (h : ∀ w' cur', Blk w' g cur' t → cur'.size = old.size → (∀ j, cur'[j]? = if off ≤ j ∧ j < off + vs.length then vs[j - off]? else old[j]?) → Chg [g] w w' → wpList P ops Q rest (a.put o.dst undef) w') : wpList P ops Q (o :: rest) a w := by
  obtain ⟨i0, hi0, hi1⟩ := Option.map_eq_some_iff.1 hi
  have hst := run_storeCells_at P g off t vs 0 old w hg (by simpa using hfit) h1
  simp only [Nat.add_zero] at hst
  have hsz : v.cells.size = vs.length := by rw [← hv]; simp
  have hr : (execOp a.eval o).run P w = .ok .skip (w.setRow g (old.toList.take off ++ vs ++ old.toList.drop (off + vs.length)).toArray) := by
    unfold execOp
    simp only [ho, hx, hy]
    simp [Instr.storeAt, Instr.sureAddr, storeVar, Go.sizeOf, typeInfo, hi0, hi1, hsz, hv, hst]
  refine wpList_none hgd hr (h _ _ (Blk.setRow hg _) (by simp; omega) (fun j => ?_) ((Chg.refl _ _).setRow (.inl (by simp)) _))
  rw [← Array.getElem?_toList, ← Array.getElem?_toList]
  have := splice_get (cur := old.toList) (cs := vs) (off := off) (by simpa using hfit) j
  simpa using this
end
end Bosun
