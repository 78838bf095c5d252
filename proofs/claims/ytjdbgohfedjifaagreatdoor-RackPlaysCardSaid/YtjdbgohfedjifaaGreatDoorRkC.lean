/- rack: a step of a work (of those that wait for no thief and find room). -/
import Derived.Test.YtjdbgohfedjifaaGreatDoorRk7
import Derived.Test.YtjdbgohfedjifaaGreatDoorDqC
namespace Go.Proofs.YtjdbgohfedjifaaGreatDoor
open Go.RowKit Bosun
/-- What a work must be for its next step to be one that is shown here. -/
def Can (w : RWork) (M : List Nat) (u : Nat) : Prop :=
  (w.next = .pushing ∧ ∃ o, w.op = some o ∧ ((stepD o M u).1.done = true → (stepD o M u).1.err ≠ 6)) ∨ w.next = .signing ∨ w.next = .choosing ∨ (w.next = .taking ∧ ∃ o, w.op = some o) ∨ w.next = .emptying
theorem phase_signing (good : Nat → Bool) (r : RRack) {w : RWork} (M : List Nat) (u : Nat) (h : w.next = .signing) : phaseR good r w M u = (r, { w with done := true, err := 0 }, setA M r.base r.s0, tick M r.base u) := by unfold phaseR; rw [h]
theorem phase_emptying (good : Nat → Bool) (r : RRack) {w : RWork} (M : List Nat) (u : Nat) (h : w.next = .emptying) : phaseR good r w M u = (r, { w with done := true, err := 8 }, setA M r.base r.s0, tick M r.base u) := by unfold phaseR; rw [h]
set_option maxHeartbeats 8000000 in
theorem wstep_any (W : World) (wb rb bm bw : Nat) (gv : Value) (ob : Option Nat) (r : RRack) (w : RWork) (M : List Nat) (u : Nat) (h : Rig W wb rb bm bw gv ob r w M u) (good : Nat → Bool) (hT : TabW W) (hs : w.steps < 1000000)
    (hc : w.done = false → Can w M u) :
    Calls Tryz.prog 12 #[.pointer (some ⟨wb, 0, none⟩), .pointer (some ⟨bm, 0, none⟩)] W fun e W' => e = .returned (.bool (stepR good r w M u).2.1.done) ∧ ∃ ob', Rig W' wb rb bm bw gv ob' (stepR good r w M u).1 (stepR good r w M u).2.1 (stepR good r w M u).2.2.1 (stepR good r w M u).2.2.2 ∧ Chg (wb :: rb :: bm :: bw :: ob.toList) W W' ∧ (ob' = ob ∨ ∃ g, ob' = some g ∧ W.heap.size ≤ g) := by
  cases hd : w.done with
  | true =>
    have e1 : stepR good r w M u = (r, w, M, u) := by unfold stepR; rw [if_pos hd]
    rw [e1]
    have c14 : W.cell? ⟨wb, 14, none⟩ = some (.bool true) := by rw [Blk.cell h.wk]; show some (Value.bool w.done) = _; rw [hd]
    have HH := Lib.hid h
    clear h hc
    go_enter Tryz.func12, Tryz.ntmps12
    go_wp2_with fail
    go_ret
    exact ⟨congrArg (fun b => Ending.returned (Value.bool b)) hd.symm, ob, HH.out, Chg.refl _ _, .inl rfl⟩
  | false =>
    have e1 : stepR good r w M u = phaseR good r { w with steps := w.steps + 1 } M u := by unfold stepR; rw [if_neg (by rw [hd]; simp)]
    rw [e1]
    obtain ⟨S, hS⟩ : ∃ S, S = phaseR good r { w with steps := w.steps + 1 } M u := ⟨_, rfl⟩
    rw [← hS]
    have HSS := Lib.hid hS
    have c14 : W.cell? ⟨wb, 14, none⟩ = some (.bool false) := by rw [Blk.cell h.wk]; show some (Value.bool w.done) = _; rw [hd]
    have c13 : W.cell? ⟨wb, 13, none⟩ = some (.int .i64 (w.steps : Nat)) := by rw [Blk.cell h.wk]; rfl
    have z13 : W.frozen? ⟨wb, 13, none⟩ = false := Blk.frozen h.wk _
    have HH := Lib.hid h
    have HC := Lib.hid (hc hd)
    have HT := Lib.hid hT
    clear h hc hT e1 hS
    go_enter Tryz.func12, Tryz.ntmps12
    go_upto_region 5 with (fail)
    have W1 : IsWk (W.setCell ⟨wb, 13, none⟩ (.int .i64 ((w.steps : Int) + 1))) wb rb gv ob { w with steps := w.steps + 1 } := Blk.setCell HH.out.wk 13 _
    have C1 : Chg [wb] W (W.setCell ⟨wb, 13, none⟩ (.int .i64 ((w.steps : Int) + 1))) := (Chg.refl _ _).setCell (.inl (by simp)) _
    obtain ⟨w1, hw1⟩ : ∃ w1, w1 = W.setCell ⟨wb, 13, none⟩ (.int .i64 ((w.steps : Int) + 1)) := ⟨_, rfl⟩
    rw [← hw1] at W1 C1 ⊢
    clear hw1 c13 c14 z13
    have hwz : wb ≠ 0 := by
      intro e; subst e
      have h1 := HT.out 0 (by decide)
      have h2 : W.cell? ⟨0, 0, none⟩ = some (.pointer (some ⟨rb, 0, none⟩)) := by rw [Blk.cell HH.out.wk]; rfl
      rw [h2] at h1; simp at h1
    have G1 : Rig w1 wb rb bm bw gv ob r { w with steps := w.steps + 1 } M u :=
      ⟨W1, Blk.chg HH.out.rk C1 (by simp; exact Ne.symm HH.out.wr), HH.out.mem.chg C1 (by simp; exact Ne.symm HH.out.wm) (by simp; exact Ne.symm HH.out.ww), HH.out.opChg (C1.mono (by intro g hg; left; simp at hg ⊢; left; exact hg)), HH.out.ok, HH.out.kind, HH.out.level, by show w.steps + 1 ≤ _; omega⟩
    have T1 : TabW w1 := fun j hj => (World.cell?_of_block (w := W) (C1.block 0 (World.block_lt_of_cell? W _ (HT.out j hj)) (by simp; exact Ne.symm hwz))).trans (HT.out j hj)
    have c1 : w1.cell? ⟨wb, 1, none⟩ = some (nextV w.next) := by rw [Blk.cell W1]; rfl
    have FIN : ∀ e W', Turned w1 W' wb rb bm bw gv ob S e → ∃ ob', e = .returned (.tuple #[]) ∧ W'.cell? ⟨wb, 14, none⟩ = some (.bool S.2.1.done) ∧
        Rig W' wb rb bm bw gv ob' S.1 S.2.1 S.2.2.1 S.2.2.2 ∧ Chg (wb :: rb :: bm :: bw :: ob.toList) W W' ∧ (ob' = ob ∨ ∃ g, ob' = some g ∧ W.heap.size ≤ g) := by
      rintro e W' ⟨rfl, ob', G, C, HO⟩
      exact ⟨ob', rfl, by rw [Blk.cell G.wk]; rfl, G, (C1.mono (by intro g hg; left; simp at hg ⊢; left; exact hg)).then C (fun g hg => .inl hg), HO.imp id (fun ⟨g, h1, h2⟩ => ⟨g, h1, by have := C1.size; omega⟩)⟩
    have HF := Lib.hid FIN
    have HG := Lib.hid G1
    clear FIN W1 G1
    rcases HC.out with ⟨hn, o, ho, hf⟩ | hn | hn | ⟨hn, o, ho⟩ | hn
    · have HP := Lib.hid (pushing_any w1 wb rb bm bw gv ob r _ M u HG.out hd o ho hn hf good)
      rw [hn] at c1
      have c1' : w1.cell? ⟨wb, 1, none⟩ = some (.func (.func 60) #[] #[]) := c1
      rw [← HSS.out] at HP
      clear hn c1 T1 hwz hs C1 hf ho
      go_wp2_with (go_at_call 60; refine HP.out.mono ?_; intro e w2 HTu; obtain ⟨ob', rfl, k14, G2, C2, O2⟩ := HF.out e w2 HTu; have HX := Lib.hid (And.intro G2 (And.intro C2 O2)); clear G2 C2 O2 HTu)
      go_ret
      exact ⟨rfl, ob', HX.out.1, HX.out.2.1, HX.out.2.2⟩
    · have HP := Lib.hid (show Calls Tryz.prog 98 _ w1 fun e W' => Turned w1 W' wb rb bm bw gv ob (phaseR good r { w with steps := w.steps + 1 } M u) e by rw [phase_signing good r (w := { w with steps := w.steps + 1 }) M u hn]; exact signing_any w1 wb rb bm bw gv ob r _ M u HG.out hd)
      rw [hn] at c1
      have c1' : w1.cell? ⟨wb, 1, none⟩ = some (.func (.func 98) #[] #[]) := c1
      rw [← HSS.out] at HP
      clear hn c1 T1 hwz hs C1 
      go_wp2_with (go_at_call 98; refine HP.out.mono ?_; intro e w2 HTu; obtain ⟨ob', rfl, k14, G2, C2, O2⟩ := HF.out e w2 HTu; have HX := Lib.hid (And.intro G2 (And.intro C2 O2)); clear G2 C2 O2 HTu)
      go_ret
      exact ⟨rfl, ob', HX.out.1, HX.out.2.1, HX.out.2.2⟩
    · have HP := Lib.hid (choosing_any w1 wb rb bm bw gv ob r _ M u HG.out hd hn good T1)
      rw [hn] at c1
      have c1' : w1.cell? ⟨wb, 1, none⟩ = some (.func (.func 55) #[] #[]) := c1
      rw [← HSS.out] at HP
      clear hn c1 T1 hwz hs C1 
      go_wp2_with (go_at_call 55; refine HP.out.mono ?_; intro e w2 HTu; obtain ⟨ob', rfl, k14, G2, C2, O2⟩ := HF.out e w2 HTu; have HX := Lib.hid (And.intro G2 (And.intro C2 O2)); clear G2 C2 O2 HTu)
      go_ret
      exact ⟨rfl, ob', HX.out.1, HX.out.2.1, HX.out.2.2⟩
    · have HP := Lib.hid (taking_any w1 wb rb bm bw gv ob r _ M u HG.out hd o ho hn good)
      rw [hn] at c1
      have c1' : w1.cell? ⟨wb, 1, none⟩ = some (.func (.func 86) #[] #[]) := c1
      rw [← HSS.out] at HP
      clear hn c1 T1 hwz hs C1 ho
      go_wp2_with (go_at_call 86; refine HP.out.mono ?_; intro e w2 HTu; obtain ⟨ob', rfl, k14, G2, C2, O2⟩ := HF.out e w2 HTu; have HX := Lib.hid (And.intro G2 (And.intro C2 O2)); clear G2 C2 O2 HTu)
      go_ret
      exact ⟨rfl, ob', HX.out.1, HX.out.2.1, HX.out.2.2⟩
    · have HP := Lib.hid (show Calls Tryz.prog 107 _ w1 fun e W' => Turned w1 W' wb rb bm bw gv ob (phaseR good r { w with steps := w.steps + 1 } M u) e by rw [phase_emptying good r (w := { w with steps := w.steps + 1 }) M u hn]; exact emptying_any w1 wb rb bm bw gv ob r _ M u HG.out hd)
      rw [hn] at c1
      have c1' : w1.cell? ⟨wb, 1, none⟩ = some (.func (.func 107) #[] #[]) := c1
      rw [← HSS.out] at HP
      clear hn c1 T1 hwz hs C1 
      go_wp2_with (go_at_call 107; refine HP.out.mono ?_; intro e w2 HTu; obtain ⟨ob', rfl, k14, G2, C2, O2⟩ := HF.out e w2 HTu; have HX := Lib.hid (And.intro G2 (And.intro C2 O2)); clear G2 C2 O2 HTu)
      go_ret
      exact ⟨rfl, ob', HX.out.1, HX.out.2.1, HX.out.2.2⟩
end Go.Proofs.YtjdbgohfedjifaaGreatDoor

/- rack: what a work's next function leaves, followed cell by cell; a new steal or push on the work's deque. -/
namespace Go.Proofs.YtjdbgohfedjifaaGreatDoor
open Go.RowKit Bosun
theorem ckp {w w1 : World} {a : Addr} {v : Value} (C : Chg [] w w1) (h : w.cell? a = some v) : w1.cell? a = some v :=
  (World.cell?_of_block (w := w) (C.block _ (World.block_lt_of_cell? w _ h) (by simp))).trans h
theorem fkp {w w1 : World} {a : Addr} {v : Value} (C : Chg [] w w1) (h : w.cell? a = some v) : w1.frozen? a = w.frozen? a :=
  World.frozen?_of_block (w := w) (C.block _ (World.block_lt_of_cell? w _ h) (by simp))
theorem csk {w : World} {g i j : Nat} {v u : Value} (h : w.cell? ⟨g, j, none⟩ = some u) (hij : i ≠ j) : (w.setCell ⟨g, i, none⟩ v).cell? ⟨g, j, none⟩ = some u :=
  (World.cell?_setCell_other (w := w) (v := v) (a := ⟨g, i, none⟩) (b := ⟨g, j, none⟩) (by intro h; injection h; omega)).trans h
/-- A function is stored: the walk does not run it by itself. -/
theorem storeF (w : World) {g i : Nat} (f : FuncId) {u : Value} (h : w.cell? ⟨g, i, none⟩ = some u) (z : w.frozen? ⟨g, i, none⟩ = false) :
    (store ⟨g, i, none⟩ (.func (.func f) #[] #[])).run Tryz.prog w = .ok () (w.setCell ⟨g, i, none⟩ (.func (.func f) #[] #[])) := by
  rw [run_store Tryz.prog w ⟨g, i, none⟩ (.func (.func f) #[] #[]) .plain rfl, h]
  simp [z]
theorem storeF6 (w : World) {g i : Nat} (f : FuncId) {u v : Value} (h : w.cell? ⟨g, i, none⟩ = some u) (z : w.frozen? ⟨g, i, none⟩ = false) (hi : 6 ≠ i) :
    (store ⟨g, i, none⟩ (.func (.func f) #[] #[])).run Tryz.prog (w.setCell ⟨g, 6, none⟩ v) = .ok () ((w.setCell ⟨g, 6, none⟩ v).setCell ⟨g, i, none⟩ (.func (.func f) #[] #[])) :=
  storeF _ f (csk h hi) (by rw [World.frozen?_setCell]; exact z)
/-- Where a walk through a work's next function stands. -/
structure Tr (W0 W : World) (wb rb bm bw : Nat) (gv : Value) (ob0 ob : Option Nat) (r : RRack) (w : RWork) (M : List Nat) (u : Nat) : Prop where
  rig : Rig W wb rb bm bw gv ob r w M u
  chg : Chg (wb :: rb :: bm :: bw :: ob0.toList) W0 W
  new : ob = ob0 ∨ ∃ g, ob = some g ∧ W0.heap.size ≤ g
section
variable {W0 W W1 W' : World} {wb rb bm bw : Nat} {gv : Value} {ob0 ob : Option Nat} {r r' : RRack} {w w' : RWork} {M M' : List Nat} {u u' : Nat}
theorem Tr.start (h : Rig W wb rb bm bw gv ob r w M u) : Tr W W wb rb bm bw gv ob ob r w M u := ⟨h, Chg.refl _ _, .inl rfl⟩
theorem Tr.fin (h : Tr W0 W wb rb bm bw gv ob0 ob r w M u) {s : RRack × RWork × List Nat × Nat} (hs : s = (r, w, M, u)) {e : Ending} (he : e = .returned (.tuple #[])) : Turned W0 W wb rb bm bw gv ob0 s e := by
  subst hs
  exact ⟨he, ob, h.rig, h.chg, h.new⟩
theorem Rig.keep (h : Rig W wb rb bm bw gv ob r w M u) (C : Chg [] W W') : Rig W' wb rb bm bw gv ob r w M u :=
  ⟨Blk.chg h.wk C (by simp), Blk.chg h.rk C (by simp), h.mem.chg C (by simp) (by simp), h.opChg (C.mono (by simp)), h.ok, h.kind, h.level, h.steps⟩
theorem Tr.keep (h : Tr W0 W wb rb bm bw gv ob0 ob r w M u) (C : Chg [] W W') : Tr W0 W' wb rb bm bw gv ob0 ob r w M u := ⟨h.rig.keep C, h.chg.then C (by simp), h.new⟩
/-- The work's own cells change; its op does not. -/
theorem Rig.own (h : Rig W wb rb bm bw gv ob r w M u) (B : IsWk W' wb rb gv ob w') (C : Chg [wb] W W') (ho : w'.op = w.op) (hk : w'.kind < 2) (hl : w'.done = false → w'.level < 8) (hs : w'.steps ≤ 1000000) : Rig W' wb rb bm bw gv ob r w' M u :=
  ⟨B, Blk.chg h.rk C (by simp; exact Ne.symm h.wr), h.mem.chg C (by simp; exact Ne.symm h.wm) (by simp; exact Ne.symm h.ww), by rw [ho]; exact h.opChg (C.mono (by intro g hg; left; simp at hg ⊢; left; exact hg)), h.ok, hk, hl, hs⟩
theorem Tr.own (h : Tr W0 W wb rb bm bw gv ob0 ob r w M u) (B : IsWk W' wb rb gv ob w') (C : Chg [wb] W W') (ho : w'.op = w.op) (hk : w'.kind < 2) (hl : w'.done = false → w'.level < 8) (hs : w'.steps ≤ 1000000) : Tr W0 W' wb rb bm bw gv ob0 ob r w' M u :=
  ⟨h.rig.own B C ho hk hl hs, h.chg.then C (by intro g hg; left; simp at hg ⊢; left; exact hg), h.new⟩
theorem Tr.cell (h : Tr W0 W wb rb bm bw gv ob0 ob r w M u) (j : Nat) : W.cell? ⟨wb, j, none⟩ = (wkCells rb gv ob w)[j]? := Blk.cell h.rig.wk j
theorem Tr.frozen (h : Tr W0 W wb rb bm bw gv ob0 ob r w M u) (j : Nat) : W.frozen? ⟨wb, j, none⟩ = false := Blk.frozen h.rig.wk j
/-- A new work on a deque. -/
theorem Tr.op (h : Tr W0 W wb rb bm bw gv ob0 ob r w M u) {o : DOp} {g : Nat} (O : IsOp W g o) (ok : OkOp o) (hg : W0.heap.size ≤ g) : Tr W0 (W.setCell ⟨wb, 6, none⟩ (.pointer (some ⟨g, 0, none⟩))) wb rb bm bw gv ob0 (some g) r { w with op := some o } M u := by
  have C : Chg [wb] W (W.setCell ⟨wb, 6, none⟩ (.pointer (some ⟨g, 0, none⟩))) := (Chg.refl _ _).setCell (.inl (by simp)) _
  have B : IsWk (W.setCell ⟨wb, 6, none⟩ (.pointer (some ⟨g, 0, none⟩))) wb rb gv (some g) { w with op := some o } := Blk.setCell h.rig.wk 6 _
  have hgw : g ≠ wb := blk_ne O h.rig.wk (by decide)
  exact ⟨⟨B, Blk.chg h.rig.rk C (by simp; exact Ne.symm h.rig.wr), h.rig.mem.chg C (by simp; exact Ne.symm h.rig.wm) (by simp; exact Ne.symm h.rig.ww), ⟨O.chg C (by simp; exact hgw), ok⟩, h.rig.ok, h.rig.kind, h.rig.level, h.rig.steps⟩, h.chg.then C (by intro g hg; left; simp at hg ⊢; left; exact hg), .inr ⟨g, rfl, hg⟩⟩
/-- The work on the deque made a step. -/
theorem Tr.stepped (h : Tr W0 W wb rb bm bw gv ob0 ob0 r w M u) {g : Nat} (hob : ob0 = some g) {o' : DOp} (O : IsOp W' g o') (ok : OkOp o') (Mm : IsMem W' bm bw M' u') (C : Chg [g, bm, bw] W W') (n1 : g ≠ wb) (n2 : g ≠ rb) : Tr W0 W' wb rb bm bw gv ob0 ob0 r { w with op := some o' } M' u' := by
  subst hob
  exact ⟨⟨Blk.chg h.rig.wk C (by simp; exact ⟨Ne.symm n1, h.rig.wm, h.rig.ww⟩), Blk.chg h.rig.rk C (by simp; exact ⟨Ne.symm n2, h.rig.rm, h.rig.rw_⟩), Mm, ⟨O, ok⟩, h.rig.ok, h.rig.kind, h.rig.level, h.rig.steps⟩, h.chg.then C (by intro g hg; left; simp at hg ⊢; omega), .inl rfl⟩
/-- A memory access of the work's own. -/
theorem Tr.access (h : Tr W0 W wb rb bm bw gv ob0 ob r w M u) (Mm : IsMem W' bm bw M' u') (C : Chg [bm, bw] W W') : Tr W0 W' wb rb bm bw gv ob0 ob r w M' u' :=
  ⟨⟨Blk.chg h.rig.wk C (by simp; exact ⟨h.rig.wm, h.rig.ww⟩), Blk.chg h.rig.rk C (by simp; exact ⟨h.rig.rm, h.rig.rw_⟩), Mm, h.rig.opChg (C.mono (by intro g hg; left; simp at hg ⊢; omega)), h.rig.ok, h.rig.kind, h.rig.level, h.rig.steps⟩, h.chg.then C (by intro g hg; left; simp at hg ⊢; omega), h.new⟩
theorem Tr.end_ (h : Tr W0 W wb rb bm bw gv ob0 ob r w M u) (e : Int) (B : IsWk W' wb rb gv ob { w with done := true, err := e }) (C : Chg [wb] W W') : Tr W0 W' wb rb bm bw gv ob0 ob r { w with done := true, err := e } M u :=
  h.own B C rfl h.rig.kind (fun h => by simp at h) h.rig.steps
theorem Tr.next (h : Tr W0 W wb rb bm bw gv ob0 ob r w M u) (n : RNext) (B : IsWk W' wb rb gv ob { w with next := n }) (C : Chg [wb] W W') : Tr W0 W' wb rb bm bw gv ob0 ob r { w with next := n } M u :=
  h.own B C rfl h.rig.kind h.rig.level h.rig.steps
theorem Tr.size (h : Tr W0 W wb rb bm bw gv ob0 ob r w M u) : W0.heap.size ≤ W.heap.size := h.chg.size
/-- A new op on the work's deque, and the next function. -/
theorem Tr.opAt (h : Tr W0 W wb rb bm bw gv ob0 ob r w M u) (hd : w.done = false) : -100 ≤ r.at w.kind w.level ∧ r.at w.kind w.level ≤ 1000000 := atOk h.rig.ok h.rig.kind (h.rig.level hd)
end
end Go.Proofs.YtjdbgohfedjifaaGreatDoor
