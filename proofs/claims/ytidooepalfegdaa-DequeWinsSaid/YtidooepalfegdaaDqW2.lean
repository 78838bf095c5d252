/- What holds between two steps of the loops of DequeWins: the memory, the thieves. -/
import Derived.Test.YtidooepalfegdaaDqW
import Derived.Test.YtidooepalfegdaaDqM
import Derived.Test.YtidooepalfegdaaDq9
namespace Bosun
open Go
/-- The cells of a row of five works, of which the first m are there. -/
def ptr5 (m : Nat) (gb : Nat → Nat) : Array Value := ((List.range 5).map fun k => Value.pointer (if k < m then some ⟨gb k, 0, none⟩ else none)).toArray
theorem ptr5_size (m : Nat) (gb : Nat → Nat) : (ptr5 m gb).size = 5 := by simp [ptr5]
theorem ptr5_get (m : Nat) (gb : Nat → Nat) {k : Nat} (h : k < 5) : (ptr5 m gb)[k]? = some (.pointer (if k < m then some ⟨gb k, 0, none⟩ else none)) := by simp [ptr5, h]
theorem ptr5_yes (m : Nat) (gb : Nat → Nat) {k : Nat} (h : k < 5) (hm : k < m) : (ptr5 m gb)[k]? = some (.pointer (some ⟨gb k, 0, none⟩)) := by rw [ptr5_get m gb h, if_pos hm]
theorem ptr5_none (gb : Nat → Nat) : Array.replicate 5 (Value.pointer none) = ptr5 0 gb := by
  apply Array.ext_getElem?
  intro i
  by_cases hi : i < 5
  · rw [ptr5_get _ _ hi]; simp [hi]
  · rw [Array.getElem?_eq_none (by simp; omega), Array.getElem?_eq_none (by rw [ptr5_size]; omega)]
theorem ptr5_set (m : Nat) (gb : Nat → Nat) (g : Nat) (hm : m < 5) : (ptr5 m gb).setIfInBounds m (.pointer (some ⟨g, 0, none⟩)) = ptr5 (m + 1) (updG gb m g) := by
  apply Array.ext_getElem?
  intro i
  rw [Array.getElem?_setIfInBounds]
  by_cases hi : i < 5
  · rw [ptr5_get _ _ hi, ptr5_get _ _ hi, ptr5_size]
    by_cases e : m = i
    · subst e
      rw [if_pos rfl, if_pos hi, if_pos (by omega)]
      simp [updG]
    · rw [if_neg e]
      by_cases h1 : i < m
      · rw [if_pos h1, if_pos (by omega)]; simp [updG, Ne.symm e]
      · rw [if_neg h1, if_neg (by omega)]
  · rw [if_neg (by omega), Array.getElem?_eq_none (by rw [ptr5_size]; omega), Array.getElem?_eq_none (by rw [ptr5_size]; omega)]
def updO (os : Nat → DOp) (k : Nat) (o : DOp) : Nat → DOp := fun j => if j = k then o else os j
theorem updO_same (os : Nat → DOp) (k : Nat) (o : DOp) : updO os k o k = o := if_pos rfl
theorem updO_other (os : Nat → DOp) {k j : Nat} (o : DOp) (h : j ≠ k) : updO os k o j = os j := if_neg h
theorem updO_upd (os : Nat → DOp) (k : Nat) (o o' : DOp) : updO (updO os k o) k o' = updO os k o' := by
  funext j
  by_cases e : j = k
  · subst e; rw [updO_same, updO_same]
  · rw [updO_other _ _ e, updO_other _ _ e, updO_other _ _ e]
theorem updO_const (o : DOp) (k : Nat) : updO (fun _ => o) k o = fun _ => o := by
  funext j
  by_cases e : j = k
  · subst e; rw [updO_same]
  · rw [updO_other _ _ e]
/-- What a thief saw. -/
def seenD (o : DOp) : Nat × Bool := if o.kind ≠ 2 ∨ o.steps < 3 then (0, false) else (o.x, true)
end Bosun
namespace Go.Proofs.Ytidooepalfegdaa
open Go.RowKit Bosun
theorem seen_any (g : Nat) (o : DOp) (w : World) (h : IsOp w g o) (hk : o.kind = 2) (hs : o.steps ≤ 6) : Calls Try.prog 22 #[.pointer (some ⟨g, 0, none⟩)] w fun e w' => e = .returned (.tuple #[.int .u64 ((seenD o).1 : Nat), .bool (seenD o).2]) ∧ w = w' := by
  have c2 := h.c2
  have c3 := h.c3
  have c6 := h.c6
  rw [hk] at c2
  have hc2 : w.cell? ⟨g, 2, none⟩ = some (.int .i64 2) := c2
  obtain ⟨n, hn⟩ : ∃ n, n = o.steps := ⟨_, rfl⟩
  obtain ⟨x, hx⟩ : ∃ x, x = o.x := ⟨_, rfl⟩
  rw [← hn] at c3 hs
  rw [← hx] at c6
  by_cases h3 : n < 3
  · have e : seenD o = (0, false) := by unfold seenD; rw [if_pos (.inr (by omega))]
    rw [e]
    have d3 : decide ((n : Int) < 3) = true := decide_eq_true (by omega)
    clear h c2 hn hx hk e
    go_enter Try.func22, Try.ntmps22
    go_wp2_with fail
    go_ret2
    exact ⟨rfl, rfl⟩
  · have e : seenD o = (x, true) := by unfold seenD; rw [if_neg (by rintro (h | h); exact h hk; omega), hx]
    rw [e]
    have d3 : decide ((n : Int) < 3) = false := decide_eq_false (by omega)
    clear h c2 hn hx hk e
    go_enter Try.func22, Try.ntmps22
    go_wp2_with fail
    go_ret2
    exact ⟨rfl, rfl⟩
structure SW (w0 w : World) (lim bm bw db ab m : Nat) (gb : Nat → Nat) (os : Nat → DOp) (W : List Nat) (u : Nat) : Prop where
  mem : IsMem w bm bw W u
  d : Blk w db #[.int .i64 0, .int .i64 ((256 : Nat) : Int)] 28
  arr : Blk w ab (ptr5 m gb) 36
  ops : ∀ k, k < m → IsOp w (gb k) (os k) ∧ OkOp (os k) ∧ lim ≤ gb k
  apart : ∀ j k, j < m → k < m → j ≠ k → gb j ≠ gb k
  low : bm < lim ∧ bw < lim ∧ db < lim ∧ ab < lim
  lo : w0.heap.size ≤ bm ∧ w0.heap.size ≤ bw ∧ w0.heap.size ≤ db ∧ w0.heap.size ≤ ab ∧ w0.heap.size ≤ lim
  size : lim ≤ w.heap.size
  chg : Chg [] w0 w
section
variable {w0 w : World} {lim bm bw db ab m : Nat} {gb : Nat → Nat} {os : Nat → DOp} {W : List Nat} {u : Nat}
theorem SW.keep {w' : World} (h : SW w0 w lim bm bw db ab m gb os W u) (hc : Chg [] w w') : SW w0 w' lim bm bw db ab m gb os W u :=
  ⟨h.mem.keep hc, h.d.chg hc (by simp), h.arr.chg hc (by simp), fun k hk => ⟨(h.ops k hk).1.chg hc (by simp), (h.ops k hk).2⟩, h.apart, h.low, h.lo, Nat.le_trans h.size hc.size, h.chg.then hc (by simp)⟩
theorem SW.new (h : SW w0 w lim bm bw db ab m gb os W u) (hm : m < 5) {o : DOp} {g : Nat} {w1 w' : World} (hc : Chg [] w w1) (hg : w.heap.size ≤ g) (ho : IsOp w1 g o) (ok : OkOp o) (hw : w' = w1.setCell ⟨ab, m, none⟩ (.pointer (some ⟨g, 0, none⟩))) :
    SW w0 w' lim bm bw db ab (m + 1) (updG gb m g) (updO os m o) W u := by
  have h1 := h.keep hc
  have hs := h.size
  have lg := ho.lt
  have CS : Chg [ab] w1 w' := by rw [hw]; exact (Chg.refl _ _).setCell (.inl (by simp)) _
  have lo := h.lo
  have low := h.low
  have hall : ∀ j, j < m → gb j < w.heap.size := fun j hj => (h.ops j hj).1.lt
  refine ⟨h1.mem.chg CS (by simp; exact (blk_ne h1.mem.head h1.arr (by decide))) (by simp; exact (blk_ne h1.mem.row h1.arr (by decide))), h1.d.chg CS (by simp; exact blk_ne h1.d h1.arr (by decide)), ?_, ?_, ?_, h.low, h.lo, Nat.le_trans h1.size CS.size, h1.chg.then CS (fun g' hg' => .inr (by simp at hg'; omega))⟩
  · rw [hw, ← ptr5_set m gb g hm]; exact h1.arr.setCell m _
  · intro j hj
    by_cases e : j = m
    · subst e
      rw [updO_same, show updG gb j g j = g from if_pos rfl]
      exact ⟨ho.chg CS (by simp; exact blk_ne ho h1.arr (by decide)), ok, by omega⟩
    · rw [updO_other _ _ e, show updG gb m g j = gb j from if_neg e]
      obtain ⟨a1, a2, a3⟩ := h1.ops j (by omega)
      exact ⟨a1.chg CS (by simp; omega), a2, a3⟩
  · intro i j hi hj hne
    by_cases ei : i = m
    · have ej : j ≠ m := fun e => hne (by rw [ei, e])
      have := hall j (by omega)
      rw [ei, show updG gb m g m = g from if_pos rfl, show updG gb m g j = gb j from if_neg ej]; omega
    · have := hall i (by omega)
      rw [show updG gb m g i = gb i from if_neg ei]
      by_cases ej : j = m
      · rw [ej, show updG gb m g m = g from if_pos rfl]; omega
      · rw [show updG gb m g j = gb j from if_neg ej]
        exact h.apart i j (by omega) (by omega) hne
theorem SW.step (h : SW w0 w lim bm bw db ab m gb os W u) {k : Nat} (hk : k < m) {o' : DOp} {W' : List Nat} {u' : Nat} {w1 : World} (hi : IsOp w1 (gb k) o') (ok' : OkOp o') (hm : IsMem w1 bm bw W' u') (hc : Chg [gb k, bm, bw] w w1) : SW w0 w1 lim bm bw db ab m gb (updO os k o') W' u' := by
  obtain ⟨hi0, ok, hl⟩ := h.ops k hk
  have lo := h.lo
  have low := h.low
  have n1 : ∀ g ∈ [gb k, bm, bw], g ≠ db ∧ g ≠ ab := by
    intro g hg
    simp at hg
    rcases hg with rfl | rfl | rfl
    · exact ⟨by omega, by omega⟩
    · exact ⟨blk_ne h.mem.head h.d (by decide), blk_ne h.mem.head h.arr (by decide)⟩
    · exact ⟨blk_ne h.mem.row h.d (by decide), blk_ne h.mem.row h.arr (by decide)⟩
  have hin : ∀ g, g ∈ [gb k, bm, bw] → g ∈ ([] : List Nat) ∨ w0.heap.size ≤ g := fun g hg => .inr (by simp at hg; omega)
  refine ⟨hm, h.d.chg hc (fun hg => (n1 _ hg).1 rfl), h.arr.chg hc (fun hg => (n1 _ hg).2 rfl), ?_, h.apart, h.low, h.lo, Nat.le_trans h.size hc.size, h.chg.then hc hin⟩
  intro j hj
  by_cases e : j = k
  · subst e
    rw [updO_same]
    exact ⟨hi, ok', hl⟩
  · rw [updO_other _ _ e]
    obtain ⟨a1, a2, a3⟩ := h.ops j hj
    have ne := h.apart j k hj hk e
    exact ⟨a1.chg hc (by simp; omega), a2, a3⟩
end
end Go.Proofs.Ytidooepalfegdaa
