/- rack: what holds of a work between two steps; pushing (a push that is not refused), signing. -/
import Derived.Test.YtjdbgohfedjifaaDoorRk3
namespace Go.Proofs.YtjdbgohfedjifaaDoor
open Go.RowKit Bosun
def OpAt (W : World) : Option Nat → Option DOp → Prop
  | none, none => True
  | some g, some o => IsOp W g o ∧ OkOp o
  | _, _ => False
structure Rig (W : World) (wb rb bm bw : Nat) (gv : Value) (ob : Option Nat) (r : RRack) (w : RWork) (M : List Nat) (u : Nat) : Prop where
  wk : IsWk W wb rb gv ob w
  rk : IsRk W rb r
  mem : IsMem W bm bw M u
  op : OpAt W ob w.op
  ok : OkRack r
  kind : w.kind < 2
  level : w.done = false → w.level < 8
  steps : w.steps ≤ 1000000
/-- What a work's next function leaves. -/
def Turned (W W' : World) (wb rb bm bw : Nat) (gv : Value) (ob : Option Nat) (s : RRack × RWork × List Nat × Nat) (e : Ending) : Prop :=
  e = .returned (.tuple #[]) ∧ ∃ ob', Rig W' wb rb bm bw gv ob' s.1 s.2.1 s.2.2.1 s.2.2.2 ∧ Chg (wb :: rb :: bm :: bw :: ob.toList) W W' ∧ (ob' = ob ∨ ∃ g, ob' = some g ∧ W.heap.size ≤ g)
section
variable {W W' : World} {wb rb bm bw : Nat} {gv : Value} {ob : Option Nat} {r : RRack} {w : RWork} {M : List Nat} {u : Nat}
theorem Rig.wr (h : Rig W wb rb bm bw gv ob r w M u) : wb ≠ rb := blk_ne h.wk h.rk (by decide)
theorem Rig.wm (h : Rig W wb rb bm bw gv ob r w M u) : wb ≠ bm := blk_ne h.wk h.mem.head (by decide)
theorem Rig.ww (h : Rig W wb rb bm bw gv ob r w M u) : wb ≠ bw := blk_ne h.wk h.mem.row (by decide)
theorem Rig.rm (h : Rig W wb rb bm bw gv ob r w M u) : rb ≠ bm := blk_ne h.rk h.mem.head (by decide)
theorem Rig.rw_ (h : Rig W wb rb bm bw gv ob r w M u) : rb ≠ bw := blk_ne h.rk h.mem.row (by decide)
theorem Rig.opOf (h : Rig W wb rb bm bw gv ob r w M u) {o : DOp} (ho : w.op = some o) : ∃ g, ob = some g ∧ IsOp W g o ∧ OkOp o ∧ g ≠ wb ∧ g ≠ rb ∧ g ≠ bm ∧ g ≠ bw := by
  have h1 := h.op
  rw [ho] at h1
  cases ob with
  | none => exact h1.elim
  | some g => exact ⟨g, rfl, h1.1, h1.2, blk_ne h1.1 h.wk (by decide), blk_ne h1.1 h.rk (by decide), blk_ne h1.1 h.mem.head (by decide), blk_ne h1.1 h.mem.row (by decide)⟩
theorem Rig.opChg (h : Rig W wb rb bm bw gv ob r w M u) (C : Chg [wb, rb, bm, bw] W W') : OpAt W' ob w.op := by
  have h1 := h.op
  cases hw : w.op with
  | none => rw [hw] at h1; cases ob with
    | none => trivial
    | some g => exact h1.elim
  | some o =>
    obtain ⟨g, rfl, a1, a2, a3, a4, a5, a6⟩ := h.opOf hw
    exact ⟨a1.chg C (by simp; exact ⟨a3, a4, a5, a6⟩), a2⟩
end
theorem resD_err {o : DOp} (h : o.done = true) : (resD o).2 = o.err := by
  unfold resD
  rw [if_neg (by rw [h]; simp)]
  by_cases he : o.err ≠ 0
  · rw [if_pos he]
  · rw [if_neg he]; simp at he; exact he.symm
theorem okRack_put {r : RRack} (h : OkRack r) {k s : Nat} (hs : s < 256) : OkRack (r.put k s) := by
  unfold RRack.put
  split
  · exact ⟨h.b0, h.b1, h.cap, hs, h.z1, h.turn⟩
  · exact ⟨h.b0, h.b1, h.cap, h.z0, hs, h.turn⟩
theorem put256 {s l : Nat} (hs : s < 256) (hl : l < 8) (b : Bool) : Bosun.put s (l : Int) b < 256 := by
  have : Bosun.put s (l : Int) b < 2 ^ 8 := by
    apply Nat.lt_pow_two_of_testBit
    intro j hj
    rw [put_testBit]
    rw [if_neg (by omega)]
    rw [Nat.testBit_lt_two_pow (Nat.lt_of_lt_of_le hs (show 256 ≤ 2 ^ j from by have := Nat.pow_le_pow_right (show 0 < 2 by decide) hj; simpa using this))]
    simp
  simpa using this
theorem okRack_set256 {r : RRack} (h : OkRack r) (k : Nat) : r.set k < 256 := by unfold RRack.set; split; exact h.z0; exact h.z1
set_option maxHeartbeats 8000000 in
theorem signing_any (W : World) (wb rb bm bw : Nat) (gv : Value) (ob : Option Nat) (r : RRack) (w : RWork) (M : List Nat) (u : Nat) (h : Rig W wb rb bm bw gv ob r w M u) (hd : w.done = false) :
    Calls Tryd.prog 58 #[.pointer (some ⟨wb, 0, none⟩), .pointer (some ⟨bm, 0, none⟩)] W fun e W' => Turned W W' wb rb bm bw gv ob (r, { w with done := true, err := 0 }, setA M r.base r.s0, tick M r.base u) e := by
  have HH := Lib.hid h
  have HS := Lib.hid (sign_any wb rb gv ob w r W h.wk h.rk h.ok bm bw M u h.mem)
  clear h
  go_enter Tryd.func58, Tryd.ntmps58
  go_wp2_with fail
  refine HS.out.mono ?_
  rintro e w1 ⟨rfl, M1, C1⟩
  have W1 : IsWk w1 wb rb gv ob w := Blk.chg HH.out.wk C1 (by simp; exact ⟨HH.out.wm, HH.out.ww⟩)
  have R1 : IsRk w1 rb r := Blk.chg HH.out.rk C1 (by simp; exact ⟨HH.out.rm, HH.out.rw_⟩)
  have HE := Lib.hid (wend_any wb rb gv ob w 0 w1 W1)
  go_wp2_with fail
  refine HE.out.mono ?_
  rintro e w2 ⟨rfl, W2, C2⟩
  have C12 : Chg [wb, bm, bw] W w2 := (C1.mono (by intro g hg; left; simp at hg ⊢; omega)).then C2 (by intro g hg; left; simp at hg ⊢; omega)
  have R2 : IsRk w2 rb r := Blk.chg R1 C2 (by simp; exact Ne.symm HH.out.wr)
  have M2 := M1.chg C2 (by simp; exact Ne.symm HH.out.wm) (by simp; exact Ne.symm HH.out.ww)
  have O2 : OpAt w2 ob w.op := HH.out.opChg (C12.mono (by intro g hg; left; simp at hg ⊢; omega))
  clear HS HE W1 R1 M1
  go_wp2_with fail
  go_end0
  exact ⟨rfl, ob, ⟨W2, R2, M2, O2, HH.out.ok, HH.out.kind, fun h => by simp at h, HH.out.steps⟩, C12.mono (by intro g hg; left; simp at hg ⊢; omega), .inl rfl⟩
set_option maxHeartbeats 8000000 in
theorem emptying_any (W : World) (wb rb bm bw : Nat) (gv : Value) (ob : Option Nat) (r : RRack) (w : RWork) (M : List Nat) (u : Nat) (h : Rig W wb rb bm bw gv ob r w M u) (hd : w.done = false) :
    Calls Tryd.prog 83 #[.pointer (some ⟨wb, 0, none⟩), .pointer (some ⟨bm, 0, none⟩)] W fun e W' => Turned W W' wb rb bm bw gv ob (r, { w with done := true, err := 8 }, setA M r.base r.s0, tick M r.base u) e := by
  have HH := Lib.hid h
  have HS := Lib.hid (sign_any wb rb gv ob w r W h.wk h.rk h.ok bm bw M u h.mem)
  clear h
  go_enter Tryd.func83, Tryd.ntmps83
  go_wp2_with fail
  refine HS.out.mono ?_
  rintro e w1 ⟨rfl, M1, C1⟩
  have W1 : IsWk w1 wb rb gv ob w := Blk.chg HH.out.wk C1 (by simp; exact ⟨HH.out.wm, HH.out.ww⟩)
  have R1 : IsRk w1 rb r := Blk.chg HH.out.rk C1 (by simp; exact ⟨HH.out.rm, HH.out.rw_⟩)
  have HE := Lib.hid (wend_any wb rb gv ob w 8 w1 W1)
  go_wp2_with fail
  refine HE.out.mono ?_
  rintro e w2 ⟨rfl, W2, C2⟩
  have C12 : Chg [wb, bm, bw] W w2 := (C1.mono (by intro g hg; left; simp at hg ⊢; omega)).then C2 (by intro g hg; left; simp at hg ⊢; omega)
  have R2 : IsRk w2 rb r := Blk.chg R1 C2 (by simp; exact Ne.symm HH.out.wr)
  have M2 := M1.chg C2 (by simp; exact Ne.symm HH.out.wm) (by simp; exact Ne.symm HH.out.ww)
  have O2 : OpAt w2 ob w.op := HH.out.opChg (C12.mono (by intro g hg; left; simp at hg ⊢; omega))
  clear HS HE W1 R1 M1
  go_wp2_with fail
  go_end0
  exact ⟨rfl, ob, ⟨W2, R2, M2, O2, HH.out.ok, HH.out.kind, fun h => by simp at h, HH.out.steps⟩, C12.mono (by intro g hg; left; simp at hg ⊢; omega), .inl rfl⟩
end Go.Proofs.YtjdbgohfedjifaaDoor
