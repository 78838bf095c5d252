/- rack: the law RackBest: what holds between two statements of it. -/
import Derived.Test.YtjdbgohfedjifaaDoorRkA
import Derived.Test.YtjdbgohfedjifaaDoorBs
namespace Go.Proofs.YtjdbgohfedjifaaDoor
open Go.RowKit Bosun
/-- The cells of a bosunlaw18.Put. -/
def PutRow (r : List Value) : Prop := ∃ (lvl : Int) (pin : Bool) (tk : Int), -9223372036854775808 ≤ lvl ∧ lvl ≤ 9223372036854775807 ∧ 0 ≤ tk ∧ tk ≤ 255 ∧ r = [.int .i64 lvl, .bool pin, .int .u8 tk]
set_option maxRecDepth 100000 in
theorem PutRow_of {H : Type} {enc : TypeId × Value → H} {W : World} (fuel : Nat) (cs : List Value) (y : DataW H × List MemPlace) (h : DataW.trod enc Tryd.prog W 0 (fun _ => true) true fuel 37 cs = some y) : PutRow cs ∧ cs.length = 3 := by
  obtain ⟨ys, m, _, _, hl, hl2, hf⟩ := Go.DataW.trod_struct Tryd.underlying37 h
  have hc_int : Tryd.prog.cellsOf 3 = 1 := by kernel_rfl
  have hc_bool : Tryd.prog.cellsOf 4 = 1 := by kernel_rfl
  have hc_uint8 : Tryd.prog.cellsOf 5 = 1 := by kernel_rfl
  have hcl : cs.length = 3 := by rw [hl]; kernel_rfl
  refine ⟨?_, hcl⟩
  clear h hl
  match cs, hcl with
  | [c0, c1, c2], _ =>
    match ys, hl2 with
    | [y0, y1, y2], _ =>
      have h0 := hf 0 _ rfl
      have h1 := hf 1 _ rfl
      have h2 := hf 2 _ rfl
      clear hf
      simp [hc_int, hc_bool, hc_uint8] at h0 h1 h2
      obtain ⟨z0, e0, _, s0⟩ := Go.DataW.trod_int Tryd.underlying3 h0
      have b0 := bounds_i64 s0
      obtain rfl : c0 = .int .i64 z0 := by simpa using e0
      obtain ⟨m1, e1, _⟩ := Go.DataW.trod_bool Tryd.underlying4 h1
      obtain rfl : c1 = .bool m1 := by simpa using e1
      obtain ⟨z2, e2, _, s2⟩ := Go.DataW.trod_int Tryd.underlying5 h2
      have b2 := bounds_u8 s2
      obtain rfl : c2 = .int .u8 z2 := by simpa using e2
      exact ⟨z0, m1, z2, b0.1, b0.2, b2.1, b2.2, rfl⟩
theorem own_ne {w : World} {b : Nat} {e t : TypeId} {v : Value} {xs : List Value} {g : Nat} {cs : Array Value} (h : Own w b e v xs) (hg : Blk w g cs t) (ht : e ≠ t) : v.ownBlock ≠ some g := by
  rcases h.2 with ⟨rfl, _⟩ | ⟨g', cap, cur, rfl, _, h3, _⟩
  · intro h; cases h
  · intro h
    obtain rfl : g' = g := by simpa [Value.ownBlock] using h
    exact ht (Blk.inj (w := w) h3 hg).2
/-- The law's slices: levels, kinds, gone. -/
structure LV (w0 w : World) (gb : Nat) (v5 v6 : Value) (lv : List Nat) (pn gone : List Bool) : Prop where
  o5 : Own w w0.heap.size 3 v5 (nats lv)
  o6 : Own w w0.heap.size 4 v6 (pn.map Value.bool)
  gn : Blk w gb (gone.map Value.bool).toArray 4
  gl : w0.heap.size ≤ gb
  g6 : v6.ownBlock ≠ some gb
section
variable {w0 w w' : World} {gb rb bm bw : Nat} {v5 v6 : Value} {lv : List Nat} {pn gone : List Bool} {r : RRack} {M : List Nat} {u : Nat}
theorem LV.work (h : LV w0 w gb v5 v6 lv pn gone) (hr : Rest w0 w rb bm bw r M u) (C : Chg [rb, bm, bw] w w') : LV w0 w' gb v5 v6 lv pn gone := by
  have h1 := hr.rk
  have h2 := hr.mem.head
  have h3 := hr.mem.row
  refine ⟨h.o5.chg C fun g hg => ?_, h.o6.chg C fun g hg => ?_, h.gn.chg C ?_, h.gl, h.g6⟩
  · simp at hg
    rcases hg with rfl | rfl | rfl
    · exact own_ne h.o5 h1 (by decide)
    · exact own_ne h.o5 h2 (by decide)
    · exact own_ne h.o5 h3 (by decide)
  · simp at hg
    rcases hg with rfl | rfl | rfl
    · exact own_ne h.o6 h1 (by decide)
    · exact own_ne h.o6 h2 (by decide)
    · exact own_ne h.o6 h3 (by decide)
  · simp
    exact ⟨blk_ne h.gn h1 (by decide), blk_ne h.gn h2 (by decide), blk_ne h.gn h3 (by decide)⟩
theorem LV.keep (h : LV w0 w gb v5 v6 lv pn gone) (C : Chg [] w w') : LV w0 w' gb v5 v6 lv pn gone :=
  ⟨h.o5.keep C, h.o6.keep C, h.gn.chg C (by simp), h.gl, h.g6⟩
/-- One block that is neither the rack's nor the memory's changes. -/
theorem Rest.off {S : List Nat} (h : Rest w0 w rb bm bw r M u) (C : Chg S w w') (hS : ∀ g ∈ S, w0.heap.size ≤ g ∧ g ≠ rb ∧ g ≠ bm ∧ g ≠ bw) (h0 : 0 ∉ S) : Rest w0 w' rb bm bw r M u :=
  ⟨Blk.chg h.rk C (fun hm => (hS _ hm).2.1 rfl), h.mem.chg C (fun hm => (hS _ hm).2.2.1 rfl) (fun hm => (hS _ hm).2.2.2 rfl), h.ok, tab_chg h.tab C h0, h.chg.then C (fun g hg => .inr (hS g hg).1), h.l1, h.l2, h.l3⟩
/-- A block that the law made is not the table's. -/
theorem Rest.pos (h : Rest w0 w rb bm bw r M u) (hT : TabW w0) : 0 < w0.heap.size := by
  have := World.block_lt_of_cell? _ _ (hT 0 (by decide)); exact this
end
/-- What holds between two statements of the law. -/
structure SB (w0 w : World) (rb bm bw gb : Nat) (v5 v6 : Value) (r : RRack) (M : List Nat) (u p : Nat) (lv : List Nat) (pn gone : List Bool) (Q : Nat → Nat → List Nat) : Prop where
  rest : Rest w0 w rb bm bw r M u
  rB : RB r M Q p
  cap : r.cap = 64
  lg : LG p lv pn gone Q
  lv : LV w0 w gb v5 v6 lv pn gone
end Go.Proofs.YtjdbgohfedjifaaDoor
