/- A slice of double words that came in, as a list. Over any program. -/
import Derived.Test.YtknfpnifhpbojaaGauL
import Derived.Test.YtknfpnifhpbojaaLaw
import Derived.Test.YtknfpnifhpbojaaStru
import Derived.Laws.Cover2
namespace Bosun
open Go Go.RowKit Go.ChangeShapes Go.WideShapes Go.ChangeAt
theorem lt_f64 {a : Nat} (h : (Lit.float .f64 a).wf = true) : a < 18446744073709551616 := by
  simpa [Lit.wf] using h
section
variable {P : Program} {H : Type} {enc : TypeId × Value → H} {W : World}
def FRow (r : List Value) : Prop := ∃ b, b < 18446744073709551616 ∧ r = [.float .f64 b]
theorem trod_f {t : TypeId} {k : FloatKind} {fuel : Nat} {cs : List Value} {y : DataW H × List MemPlace} (ht : P.underlying t = some (.float k)) (h : DataW.trod enc P W 0 (fun _ => true) true fuel t cs = some y) : ∃ n, cs = [.float k n] ∧ (Lit.float k n).wf = true := by
  cases fuel with
  | zero => simp [DataW.trod] at h
  | succ n =>
    unfold DataW.trod at h
    rw [ht] at h
    split at h <;> simp_all
theorem trod_fl {t : TypeId} (ht : P.underlying t = some (.float .f64)) (fuel : Nat) (cs : List Value) (y : DataW H × List MemPlace) (h : DataW.trod enc P W 0 (fun _ => true) true fuel t cs = some y) : FRow cs ∧ cs.length = 1 := by
  obtain ⟨n, rfl, hw⟩ := trod_f ht h
  exact ⟨⟨n, lt_f64 hw, rfl⟩, rfl⟩
def fwd : List Value → Nat
  | [.float .f64 b] => b
  | _ => 0
theorem open_fls {T E : TypeId} (hT : P.underlying T = some (.slice E)) (hE : P.underlying E = some (.float .f64)) (hc : P.cellsOf E = 1)
    {a : Option Addr} {len cap : Nat} {d : DataW H} {p : List MemPlace} (h : DataW.Trod enc P W 0 (fun _ => true) true T (.slice a len cap) d p) :
    ∃ l : List Nat, (∀ x ∈ l, x < 18446744073709551616) ∧ Reads W (.slice a len cap) (fls l) ∧ len ≤ cap := by
  have h0 := h
  obtain ⟨rows, hq, ao, c, hv, hm, hg⟩ := open_elems (Q := FRow) hT 1 (by decide) hc (fun fuel cs y hy => trod_fl hE fuel cs y hy) h
  have hcap : len ≤ cap := by
    obtain ⟨fuel, hf⟩ := h0
    rcases DataW.trod_slice hT hf with ⟨hcs, _⟩ | ⟨x, l, c, elems, rest, m, _, hcs, _, _, hl, hm, hlen, hel, _, _⟩
    · simp [Value.cells] at hcs; omega
    · simp [Value.cells] at hcs; omega
  injection hv with e1 e2 e3
  subst e1 e2 e3
  have hrow : ∀ i r, rows[i]? = some r → ∃ b, b < 18446744073709551616 ∧ r = [Value.float .f64 b] := fun i r hr => hq r (List.mem_of_getElem? hr)
  refine ⟨rows.map fwd, ?_, ⟨a, cap, by simp [fls], by simpa [fls] using hm, ?_⟩, hcap⟩
  · intro x hx
    obtain ⟨r, hr, rfl⟩ := List.mem_map.1 hx
    obtain ⟨b, hb, rfl⟩ := hq r hr
    exact hb
  · intro j x hx
    simp only [fls, List.getElem?_map, Option.map_map] at hx
    obtain ⟨r, hr, hx⟩ := Option.map_eq_some_iff.1 hx
    obtain ⟨b, hb, rfl⟩ := hrow j r hr
    obtain ⟨g, off, rfl, hcell⟩ := hg j _ hr
    refine ⟨g, off, rfl, ?_⟩
    have := hcell 0 _ rfl
    simp only [Function.comp] at hx
    rw [← hx, show fwd [Value.float .f64 b] = b from rfl]
    simpa using this
end
end Bosun
