/- A memory of words, plainly. No program in sight. -/
import Derived.Test.YtjdbgohfedjifaaDoorSets0
import Derived.Test.YtjdbgohfedjifaaDoorBase
namespace Bosun
open Go

def hasA (W : List Nat) (a : Int) : Bool := decide (0 ≤ a) && decide (a < W.length)
def tick (W : List Nat) (a : Int) (u : Nat) : Nat := if hasA W a then (u + 1) % 18446744073709551616 else u
def getA (W : List Nat) (a : Int) : Nat := if hasA W a then W.getD a.toNat 0 else 0
def setA (W : List Nat) (a : Int) (x : Nat) : List Nat := if hasA W a then W.set a.toNat x else W
def Small (W : List Nat) : Prop := ∀ x ∈ W, x < 18446744073709551616

theorem hasA_yes {W : List Nat} {k : Nat} (h : k < W.length) : hasA W k = true := by simp [hasA, h]
theorem hasA_no {W : List Nat} {a : Int} (h : ¬ (0 ≤ a ∧ a < W.length)) : hasA W a = false := by
  unfold hasA
  by_cases h0 : 0 ≤ a
  · have : decide (a < W.length) = false := by simp; omega
    rw [this, Bool.and_false]
  · have : decide (0 ≤ a) = false := by simp; omega
    rw [this, Bool.false_and]
theorem hasA_iff {W : List Nat} {a : Int} : hasA W a = true ↔ 0 ≤ a ∧ a < W.length := by simp [hasA]
theorem getA_yes {W : List Nat} {k : Nat} (h : k < W.length) : getA W k = W[k] := by
  unfold getA; rw [if_pos (hasA_yes h)]; simp [h]
theorem getA_no {W : List Nat} {a : Int} (h : hasA W a = false) : getA W a = 0 := by unfold getA; rw [h]; rfl
theorem setA_yes {W : List Nat} {k : Nat} (h : k < W.length) (x : Nat) : setA W k x = W.set k x := by
  unfold setA; rw [if_pos (hasA_yes h)]; simp
theorem setA_no {W : List Nat} {a : Int} (h : hasA W a = false) (x : Nat) : setA W a x = W := by unfold setA; rw [h]; rfl
theorem tick_yes {W : List Nat} {k : Nat} (h : k < W.length) (u : Nat) : tick W k u = (u + 1) % 18446744073709551616 := by
  unfold tick; rw [if_pos (hasA_yes h)]
theorem tick_no {W : List Nat} {a : Int} (h : hasA W a = false) (u : Nat) : tick W a u = u := by unfold tick; rw [h]; rfl
theorem setA_length (W : List Nat) (a : Int) (x : Nat) : (setA W a x).length = W.length := by unfold setA; split <;> simp
theorem tick_lt {W : List Nat} {a : Int} {u : Nat} (hu : u < 18446744073709551616) : tick W a u < 18446744073709551616 := by
  unfold tick; split
  · exact Nat.mod_lt _ (by omega)
  · exact hu
theorem Small.get {W : List Nat} (h : Small W) {k : Nat} (hk : k < W.length) : W[k] < 18446744073709551616 := h _ (List.getElem_mem hk)
theorem Small.getA {W : List Nat} (h : Small W) (a : Int) : getA W a < 18446744073709551616 := by
  by_cases hh : hasA W a = true
  · obtain ⟨h0, h1⟩ := hasA_iff.1 hh
    obtain ⟨k, rfl⟩ := Int.eq_ofNat_of_zero_le h0
    rw [getA_yes (by omega)]; exact h.get _
  · rw [getA_no (by simpa using hh)]; omega
theorem Small.setA {W : List Nat} (h : Small W) (a : Int) {x : Nat} (hx : x < 18446744073709551616) : Small (setA W a x) := by
  unfold Bosun.setA
  split
  · intro y hy
    rcases List.mem_or_eq_of_mem_set hy with h1 | h1
    · exact h _ h1
    · rw [h1]; exact hx
  · exact h
theorem Small.zeros (n : Nat) : Small (List.replicate n 0) := by
  intro x hx; rw [List.eq_of_mem_replicate hx]; omega
theorem words_set (W : List Nat) (k x : Nat) : (words W).toArray.setIfInBounds k (.int .u64 (x : Nat)) = (words (W.set k x)).toArray := by
  simp [words, List.map_set]
theorem words_replicate (n : Nat) : Array.replicate n (Value.int .u64 0) = (words (List.replicate n 0)).toArray := by
  simp [words]

/-- A memory at bm, its words at bw. T: its type; E: that of a word. -/
structure MemAt (T E : TypeId) (w : World) (bm bw : Nat) (W : List Nat) (u : Nat) : Prop where
  head : Blk w bm #[.slice (some ⟨bw, 0, none⟩) W.length W.length, .int .u64 (u : Nat)] T
  row : Blk w bw (words W).toArray E
  ne : bm ≠ bw
  small : Small W
  used : u < 18446744073709551616
  len : W.length ≤ 524288

section
variable {T E : TypeId} {w w1 : World} {bm bw : Nat} {W : List Nat} {u : Nat}
theorem MemAt.chg {S : List Nat} (h : MemAt T E w bm bw W u) (hc : Chg S w w1) (h1 : bm ∉ S) (h2 : bw ∉ S) : MemAt T E w1 bm bw W u :=
  ⟨h.head.chg hc h1, h.row.chg hc h2, h.ne, h.small, h.used, h.len⟩
theorem MemAt.keep (h : MemAt T E w bm bw W u) (hc : Chg [] w w1) : MemAt T E w1 bm bw W u := h.chg hc (by simp) (by simp)
theorem MemAt.alloc (h : MemAt T E w bm bw W u) (o : Obj) : MemAt T E (w.alloc o) bm bw W u := h.keep ((Chg.refl _ _).alloc o)
theorem MemAt.drew (h : MemAt T E w bm bw W u) : MemAt T E w.drew bm bw W u := h.keep (Chg.refl _ _).drew
theorem MemAt.c0 (h : MemAt T E w bm bw W u) : w.cell? ⟨bm, 0, none⟩ = some (.slice (some ⟨bw, 0, none⟩) W.length W.length) := by rw [h.head.cell]; rfl
theorem MemAt.c1 (h : MemAt T E w bm bw W u) : w.cell? ⟨bm, 1, none⟩ = some (.int .u64 (u : Nat)) := by rw [h.head.cell]; rfl
theorem MemAt.cw (h : MemAt T E w bm bw W u) {k : Nat} (hk : k < W.length) : w.cell? ⟨bw, k, none⟩ = some (.int .u64 (W[k] : Nat)) := by
  rw [h.row.cell, List.getElem?_toArray, words_get W hk]
/-- Behind a count. -/
theorem MemAt.counted (h : MemAt T E w bm bw W u) (u' : Nat) (hu : u' < 18446744073709551616) (v : Value) (hv : v = .int .u64 (u' : Nat)) : MemAt T E (w.setCell ⟨bm, 1, none⟩ v) bm bw W u' := by
  subst hv
  exact ⟨h.head.setCell 1 _, h.row.setCell_other _ (fun e => h.ne (by simpa using e.symm)), h.ne, h.small, hu, h.len⟩
/-- Behind a store of a word. -/
theorem MemAt.stored (h : MemAt T E w bm bw W u) (k x : Nat) (hk : k < W.length) (hx : x < 18446744073709551616) (v : Value) (hv : v = .int .u64 (x : Nat)) : MemAt T E (w.setCell ⟨bw, k, none⟩ v) bm bw (W.set k x) u := by
  subst hv
  refine ⟨?_, ?_, h.ne, ?_, h.used, by rw [List.length_set]; exact h.len⟩
  · rw [List.length_set]; exact h.head.setCell_other _ (fun e => h.ne (by simpa using e))
  · rw [← words_set]; exact h.row.setCell k _
  · rw [← setA_yes hk]; exact h.small.setA _ hx
end
end Bosun
