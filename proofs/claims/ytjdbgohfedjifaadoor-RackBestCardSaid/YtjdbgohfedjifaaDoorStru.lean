/- Slices of structs that came in: opened, read. Over any program. -/
import Derived.Test.YtjdbgohfedjifaaDoorLaw
namespace Bosun
open Go Go.RowKit Go.ChangeShapes Go.WideShapes Go.ChangeAt

/-- The slice v reads as rows of n cells each. -/
def ReadsS (w : World) (v : Value) (n : Nat) (rows : List (List Value)) : Prop :=
  ∃ ao cap, v = .slice ao rows.length cap ∧ rows.length ≤ maxLen ∧ ∀ i r, rows[i]? = some r → ∃ g off, ao = some ⟨g, off, none⟩ ∧ ∀ j y, r[j]? = some y → w.cell? ⟨g, off + i * n + j, none⟩ = some y
theorem ReadsS.keep {w w1 : World} {v : Value} {n : Nat} {rows : List (List Value)} (h : ReadsS w v n rows) (hc : Chg [] w w1) : ReadsS w1 v n rows := by
  obtain ⟨ao, cap, rfl, hm, h⟩ := h
  refine ⟨ao, cap, rfl, hm, fun i r hr => ?_⟩
  obtain ⟨g, off, rfl, hj'⟩ := h i r hr
  refine ⟨g, off, rfl, fun j y hy => ?_⟩
  rw [← hj' j y hy]
  exact World.cell?_of_block (w := w) (hc.block g (World.block_lt_of_cell? w _ (hj' j y hy)) (by simp))

section
variable {P : Program} {H : Type} {enc : TypeId × Value → H} {W : World}
theorem open_elems {Q : List Value → Prop} {T E : TypeId} (hT : P.underlying T = some (.slice E)) (n : Nat) (hn : 0 < n) (hc : P.cellsOf E = n)
    (hQ : ∀ fuel cs y, DataW.trod enc P W 0 (fun _ => true) true fuel E cs = some y → Q cs ∧ cs.length = n)
    {a : Option Addr} {len cap : Nat} {d : DataW H} {p : List MemPlace} (h : DataW.Trod enc P W 0 (fun _ => true) true T (.slice a len cap) d p) :
    ∃ rows : List (List Value), (∀ r ∈ rows, Q r) ∧ ReadsS W (.slice a len cap) n rows := by
  obtain ⟨fuel, hf⟩ := h
  rcases DataW.trod_slice hT hf with ⟨hcs, _⟩ | ⟨x, l, c, elems, rest, m, _, hcs, _, _, hl, hm, hlen, hel, _, _⟩
  · simp [Value.cells] at hcs
    obtain ⟨rfl, rfl, rfl⟩ := hcs
    exact ⟨[], by simp, none, 0, rfl, by simp, fun i r hr => by simp at hr⟩
  · simp [Value.cells] at hcs
    obtain ⟨rfl, rfl, rfl⟩ := hcs
    rw [hc] at hel
    have each : ∀ i, i < len → ∃ cs, W.cells? 0 (x.add (i * n)) n = some cs ∧ Q cs ∧ cs.length = n ∧ ∀ j, j < n → W.cell? ((x.add (i * n)).add j) = cs[j]? := by
      intro i hi
      have h1 := hel i hi
      rw [List.getElem?_eq_getElem (show i < elems.length by omega), Option.bind_eq_some_iff] at h1
      obtain ⟨cs, h2, h3⟩ := h1
      have h4 := World.cells?_some h2
      exact ⟨cs, h2, (hQ _ _ _ h3).1, (hQ _ _ _ h3).2, fun j hj => h4.2.2 j hj⟩
    refine ⟨(List.range len).map fun i => (W.cells? 0 (x.add (i * n)) n).getD [], ?_, some x, cap, by simp, by simp; omega, ?_⟩
    · intro r hr
      simp only [List.mem_map, List.mem_range] at hr
      obtain ⟨i, hi, rfl⟩ := hr
      obtain ⟨cs, h1, h2, _⟩ := each i hi
      rw [h1]; exact h2
    · intro i r hr
      have hi : i < len := by have := (List.getElem?_eq_some_iff.1 hr).1; simpa using this
      obtain ⟨cs, h1, _, h3, h4⟩ := each i hi
      rw [List.getElem?_map, List.getElem?_range hi] at hr
      simp only [Option.map_some, h1, Option.getD_some, Option.some.injEq] at hr
      subst hr
      obtain ⟨g, off, spot⟩ := x
      have hspot : spot = none := by
        obtain ⟨cs0, _, _, k3, k4⟩ := each 0 (by omega)
        have := World.cell?_spot (Eq.trans (k4 0 hn) (List.getElem?_eq_getElem (show 0 < cs0.length by omega)))
        simpa [Addr.add] using this
      subst hspot
      refine ⟨g, off, rfl, fun j y hy => ?_⟩
      have hj : j < n := by have := (List.getElem?_eq_some_iff.1 hy).1; omega
      have h5 := h4 j hj
      rw [add_plain, add_plain, hy] at h5
      exact h5
end

section
variable {P : Program} {ops : Array Oper} {rest : List Oper} {o : Oper} {a : Go.Act} {w : World} {Q : Exit → Go.Act → World → Prop}
theorem run_loadVar_cells (w : World) (g off : Nat) (ty : TypeId) (cs : Array Value) (d : TypeDesc) (hc : ∀ j y, cs[j]? = some y → w.cell? ⟨g, off + j, none⟩ = some y)
    (hu : P.underlying ty = some d) (hd : (match d with | .struct _ | .array _ _ => true | _ => false) = true) (hi : (P.info? ty).map (·.size) = some cs.size) :
    (loadVar ty ⟨g, off, none⟩).run P w = .ok (.agg cs) w := by
  have hl : (loadCells ⟨g, off, none⟩ cs.toList.length).run P w = .ok cs.toList.toArray w :=
    run_loadCells_list (P := P) w ⟨g, off, none⟩ cs.toList (fun j v hv => by
      rw [add_plain]
      exact hc j v (by simpa using hv))
  cases hq : P.info? ty with
  | none => simp [hq] at hi
  | some i =>
    have hs : i.size = cs.size := by simpa [hq] using hi
    have hagg : (isAgg ty).run P w = .ok true w := by
      unfold isAgg
      rw [Sem.run_bind, run_underlying hu w]
      cases d <;> simp_all
    simp only [Array.length_toList, Array.toArray_toList] at hl
    simp [loadVar, Sem.run_bind, hagg, Go.sizeOf, typeInfo, hq, hs, hl]
/-- A struct is read out of a row. -/
theorem wpList_get_cells (hgd : Region.wanted o (yielded ops a.tmps) = true) (ty : TypeId) (x : Operand) (ho : o.op = .load ty x)
    (g off : Nat) (hx : a.eval x = .pointer (some ⟨g, off, none⟩)) (cs : Array Value) (d : TypeDesc) (hc : ∀ j y, cs[j]? = some y → w.cell? ⟨g, off + j, none⟩ = some y)
    (hu : P.underlying ty = some d) (hd : (match d with | .struct _ | .array _ _ => true | _ => false) = true) (hi : (P.info? ty).map (·.size) = some cs.size)
    (h : wpList P ops Q rest (a.put o.dst (.agg cs)) w) : wpList P ops Q (o :: rest) a w := by
  refine wpList_valW hgd (w' := w) ?_ h
  unfold execOp
  simp only [ho, hx, Instr.loadAt, Instr.sureAddr, Sem.run_bind, Sem.run_pure, Result.andThen_ok, run_loadVar_cells w g off ty cs d hc hu hd hi]
end
end Bosun
