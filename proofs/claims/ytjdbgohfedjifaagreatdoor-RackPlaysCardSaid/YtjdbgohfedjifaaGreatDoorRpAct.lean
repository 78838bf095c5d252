/- rack, plays: the acts. -/
import Derived.Test.YtjdbgohfedjifaaGreatDoorRpW
import Derived.Test.YtjdbgohfedjifaaGreatDoorBs
namespace Go.Proofs.YtjdbgohfedjifaaGreatDoor
open Go.RowKit Bosun
/-- The cells of a bosunlaw18.Act. -/
def ActRow (W : World) (r : List Value) : Prop := ∃ (who : Nat) (name : Nat) (x : Nat) (lvl : Int) (pin : Bool) (ao : Option Addr) (n c : Nat) (bad : List Nat), who < 256 ∧ name < 256 ∧ x < 18446744073709551616 ∧ -9223372036854775808 ≤ lvl ∧ lvl ≤ 9223372036854775807 ∧ n ≤ c ∧ n ≤ maxLen ∧ (∀ z ∈ bad, z < 18446744073709551616) ∧ Reads W (.slice ao n c) (words bad) ∧
  r = [.int .u8 (who : Nat), .int .u8 (name : Nat), .int .u64 (x : Nat), .int .i64 lvl, .bool pin, .slice ao n c]
set_option maxRecDepth 100000 in
theorem ActRow_of {H : Type} {enc : TypeId × Value → H} {W : World} (fuel : Nat) (cs : List Value) (y : DataW H × List MemPlace) (h : DataW.trod enc Tryz.prog W 0 (fun _ => true) true fuel 38 cs = some y) : ActRow W cs ∧ cs.length = 6 := by
  obtain ⟨ys, m, _, _, hl, hl2, hf⟩ := Go.DataW.trod_struct Tryz.underlying38 h
  have hc_uint8 : Tryz.prog.cellsOf 5 = 1 := by kernel_rfl
  have hc_uint64 : Tryz.prog.cellsOf 35 = 1 := by kernel_rfl
  have hc_int : Tryz.prog.cellsOf 3 = 1 := by kernel_rfl
  have hc_bool : Tryz.prog.cellsOf 4 = 1 := by kernel_rfl
  have hc_sl : Tryz.prog.cellsOf 36 = 1 := by kernel_rfl
  have hcl : cs.length = 6 := by rw [hl]; kernel_rfl
  refine ⟨?_, hcl⟩
  clear h hl
  match cs, hcl with
  | [c0, c1, c2, c3, c4, c5], _ =>
    match ys, hl2 with
    | [y0, y1, y2, y3, y4, y5], _ =>
      have h0 := hf 0 _ rfl
      have h1 := hf 1 _ rfl
      have h2 := hf 2 _ rfl
      have h3 := hf 3 _ rfl
      have h4 := hf 4 _ rfl
      have h5 := hf 5 _ rfl
      clear hf
      simp [hc_uint8, hc_uint64, hc_int, hc_bool, hc_sl] at h0 h1 h2 h3 h4 h5
      obtain ⟨z0, e0, _, s0⟩ := Go.DataW.trod_int Tryz.underlying5 h0
      obtain ⟨m0, rfl, b0⟩ := nat_u8 s0
      obtain rfl : c0 = .int .u8 (m0 : Nat) := by simpa using e0
      obtain ⟨z1, e1, _, s1⟩ := Go.DataW.trod_int Tryz.underlying5 h1
      obtain ⟨m1, rfl, b1⟩ := nat_u8 s1
      obtain rfl : c1 = .int .u8 (m1 : Nat) := by simpa using e1
      obtain ⟨z2, e2, _, s2⟩ := Go.DataW.trod_int Tryz.underlying35 h2
      obtain ⟨m2, rfl, b2⟩ := nat_u64 s2
      obtain rfl : c2 = .int .u64 (m2 : Nat) := by simpa using e2
      obtain ⟨z3, e3, _, s3⟩ := Go.DataW.trod_int Tryz.underlying3 h3
      have b3 := bounds_i64 s3
      obtain rfl : c3 = .int .i64 z3 := by simpa using e3
      obtain ⟨m4, e4, _⟩ := Go.DataW.trod_bool Tryz.underlying4 h4
      obtain rfl : c4 = .bool m4 := by simpa using e4
      obtain ⟨ao, n, c, rfl, hnc, hnm⟩ : ∃ ao n c, c5 = .slice ao n c ∧ n ≤ c ∧ n ≤ maxLen := by
        rcases Go.DataW.trod_slice Tryz.underlying36 h5 with ⟨e5, _⟩ | ⟨a, n, c, _, _, _, _, e5, _, _, hl, hm, _⟩
        · exact ⟨none, 0, 0, by simpa using e5, Nat.le_refl _, Nat.zero_le _⟩
        · exact ⟨some a, n, c, by simpa using e5, hl, by omega⟩
      obtain ⟨bad, hb, hrd⟩ := open_words (d := y5.1) (p := y5.2) Tryz.underlying36 Tryz.underlying35 (by kernel_rfl) ⟨_, h5⟩
      exact ⟨m0, m1, m2, z3, m4, ao, n, c, bad, b0, b1, b2, b3.1, b3.2, hnc, hnm, hb, hrd, rfl⟩
end Go.Proofs.YtjdbgohfedjifaaGreatDoor
