/- What the last step of every law uses: a slice of whole numbers that came in, as a list. Over any program. -/
import Derived.Test.YtjdbgohfedjifaaDoorSets0
import Derived.Test.YtjdbgohfedjifaaDoorBase
import Derived.ProofKit
import Derived.OpenShut
namespace Bosun
open Go Go.RowKit Go.ChangeShapes Go.WideShapes Go.ChangeAt

theorem open_row {P : Program} {H : Type} {enc : TypeId × Value → H} {W : World} {k : IntKind} {T E : TypeId} (hT : P.underlying T = some (.slice E)) (hE : P.underlying E = some (.int k)) (hc : P.cellsOf E = 1)
    {a : Option Addr} {len cap : Nat} {d : DataW H} {p : List MemPlace} (h : DataW.Trod enc P W 0 (fun _ => true) true T (.slice a len cap) d p) :
    ∃ l : List Int, (∀ z ∈ l, (Lit.int k z).wf = true) ∧ Reads W (.slice a len cap) (l.map (Value.int k)) := by
  obtain ⟨fuel, hf⟩ := h
  rcases open_ints hT hE hc hf with ⟨hcs, _⟩ | ⟨x, l, c, zs, hcs, _, hl, hm, hz, _, hcell, hwz⟩
  · simp [Value.cells] at hcs
    obtain ⟨rfl, rfl, rfl⟩ := hcs
    exact ⟨[], by simp, Reads.nil _ _ _⟩
  · simp [Value.cells] at hcs
    obtain ⟨rfl, rfl, rfl⟩ := hcs
    have hz : zs.length = cap := by simpa using hz
    have hlen : (zs.take len).length = len := by rw [List.length_take]; omega
    refine ⟨zs.take len, fun z hz => hwz z (List.mem_of_mem_take hz), some x, cap, by rw [List.length_map, hlen], by rw [List.length_map, hlen]; omega, fun j y hy => ?_⟩
    have hj : j < len := by have := (List.getElem?_eq_some_iff.1 hy).1; rw [List.length_map, hlen] at this; exact this
    have hcj := hcell j (by omega)
    obtain ⟨g, off, spot⟩ := x
    have hspot : spot = none := by simpa [Addr.add] using World.cell?_spot (hcell 0 (by omega))
    subst hspot
    refine ⟨g, off, rfl, ?_⟩
    rw [add_plain] at hcj
    rw [hcj]
    rw [List.getElem?_map, List.getElem?_take, if_pos hj, List.getElem?_eq_getElem (by omega)] at hy
    rw [← hy]
    simp [List.getD, List.getElem?_eq_getElem (show j < zs.length by omega)]

theorem open_cap {P : Program} {H : Type} {enc : TypeId × Value → H} {W : World} {k : IntKind} {T E : TypeId} (hT : P.underlying T = some (.slice E)) (hE : P.underlying E = some (.int k)) (hc : P.cellsOf E = 1)
    {a : Option Addr} {len cap : Nat} {d : DataW H} {p : List MemPlace} (h : DataW.Trod enc P W 0 (fun _ => true) true T (.slice a len cap) d p) : len ≤ cap := by
  obtain ⟨fuel, hf⟩ := h
  rcases open_ints hT hE hc hf with ⟨hcs, _⟩ | ⟨x, l, c, zs, hcs, _, hl, hm, hz, _, hcell, hwz⟩
  · simp [Value.cells] at hcs
    omega
  · simp [Value.cells] at hcs
    omega

theorem open_words {P : Program} {H : Type} {enc : TypeId × Value → H} {W : World} {T E : TypeId} (hT : P.underlying T = some (.slice E)) (hE : P.underlying E = some (.int .u64)) (hc : P.cellsOf E = 1)
    {a : Option Addr} {len cap : Nat} {d : DataW H} {p : List MemPlace} (h : DataW.Trod enc P W 0 (fun _ => true) true T (.slice a len cap) d p) :
    ∃ l : List Nat, (∀ z ∈ l, z < 18446744073709551616) ∧ Reads W (.slice a len cap) (words l) := by
  obtain ⟨l, h1, h2⟩ := open_row hT hE hc h
  have hb : ∀ z ∈ l, 0 ≤ z ∧ z ≤ 18446744073709551615 := fun z hz => bounds_u64 (h1 z hz)
  refine ⟨l.map Int.toNat, ?_, ?_⟩
  · intro z hz
    simp only [List.mem_map] at hz
    obtain ⟨y, hy, rfl⟩ := hz
    have := hb y hy
    omega
  · have e : words (l.map Int.toNat) = l.map (Value.int .u64) := by
      unfold words
      rw [List.map_map]
      refine List.map_congr_left fun y hy => ?_
      have := hb y hy
      simp only [Function.comp]
      rw [Int.toNat_of_nonneg this.1]
    rw [e]; exact h2
theorem open_small {P : Program} {H : Type} {enc : TypeId × Value → H} {W : World} {T E : TypeId} (hT : P.underlying T = some (.slice E)) (hE : P.underlying E = some (.int .u8)) (hc : P.cellsOf E = 1)
    {a : Option Addr} {len cap : Nat} {d : DataW H} {p : List MemPlace} (h : DataW.Trod enc P W 0 (fun _ => true) true T (.slice a len cap) d p) :
    ∃ l : List Int, (∀ z ∈ l, 0 ≤ z ∧ z ≤ 255) ∧ Reads W (.slice a len cap) (l.map (Value.int .u8)) := by
  obtain ⟨l, h1, h2⟩ := open_row hT hE hc h
  exact ⟨l, fun z hz => bounds_u8 (h1 z hz), h2⟩
theorem open_whole {P : Program} {H : Type} {enc : TypeId × Value → H} {W : World} {T E : TypeId} (hT : P.underlying T = some (.slice E)) (hE : P.underlying E = some (.int .i64)) (hc : P.cellsOf E = 1)
    {a : Option Addr} {len cap : Nat} {d : DataW H} {p : List MemPlace} (h : DataW.Trod enc P W 0 (fun _ => true) true T (.slice a len cap) d p) :
    ∃ l : List Int, (∀ z ∈ l, -9223372036854775808 ≤ z ∧ z ≤ 9223372036854775807) ∧ Reads W (.slice a len cap) (ints l) := by
  obtain ⟨l, h1, h2⟩ := open_row hT hE hc h
  exact ⟨l, fun z hz => bounds_i64 (h1 z hz), h2⟩
theorem nat_u8 {a : Int} (h : (Lit.int .u8 a).wf = true) : ∃ n : Nat, a = n ∧ n < 256 := by
  have h1 := bounds_u8 h
  exact ⟨a.toNat, by omega, by omega⟩
theorem nat_u32 {a : Int} (h : (Lit.int .u32 a).wf = true) : ∃ n : Nat, a = n ∧ n < 4294967296 := by
  have h1 := bounds_u32 h
  exact ⟨a.toNat, by omega, by omega⟩
theorem nat_u64 {a : Int} (h : (Lit.int .u64 a).wf = true) : ∃ n : Nat, a = n ∧ n < 18446744073709551616 := by
  have h1 := bounds_u64 h
  exact ⟨a.toNat, by omega, by omega⟩
end Bosun
