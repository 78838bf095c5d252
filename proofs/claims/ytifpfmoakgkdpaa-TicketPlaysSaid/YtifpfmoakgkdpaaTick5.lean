/- ticket: what an act's cells are. -/
import Derived.Test.YtifpfmoakgkdpaaTick4
import Derived.Test.YtifpfmoakgkdpaaLaw
import Derived.Test.YtifpfmoakgkdpaaStru
namespace Go.Proofs.Ytifpfmoakgkdpaa
open Go.RowKit Bosun
/-- The cells of a bosun/bosunlaw15.Act. -/
def ActRow (r : List Value) : Prop := ∃ (hand : Int) (free : Bool), 0 ≤ hand ∧ hand ≤ 255 ∧ r = [.int .u8 hand, .bool free]
theorem ActRow_of {H : Type} {enc : TypeId × Value → H} {W : World} (fuel : Nat) (cs : List Value) (y : DataW H × List MemPlace) (h : DataW.trod enc Try.prog W 0 (fun _ => true) true fuel 32 cs = some y) : ActRow cs ∧ cs.length = 2 := by
  obtain ⟨ys, m, _, _, hl, hl2, hf⟩ := Go.DataW.trod_struct Try.underlying32 h
  have hc_uint8 : Try.prog.cellsOf 5 = 1 := by kernel_rfl
  have hc_bool : Try.prog.cellsOf 4 = 1 := by kernel_rfl
  have hcl : cs.length = 2 := by rw [hl]; kernel_rfl
  refine ⟨?_, hcl⟩
  clear h hl
  match cs, hcl with
  | [c0, c1], _ =>
    match ys, hl2 with
    | [y0, y1], _ =>
      have h0 := hf 0 _ rfl
      have h1 := hf 1 _ rfl
      clear hf
      simp [hc_uint8, hc_bool] at h0 h1
      obtain ⟨z0, e0, _, s0⟩ := Go.DataW.trod_int Try.underlying5 h0
      have b0 := bounds_u8 s0
      obtain rfl : c0 = .int .u8 z0 := by simpa using e0
      obtain ⟨m1, e1, _⟩ := Go.DataW.trod_bool Try.underlying4 h1
      obtain rfl : c1 = .bool m1 := by simpa using e1
      exact ⟨z0, m1, b0.1, b0.2, rfl⟩
end Go.Proofs.Ytifpfmoakgkdpaa
