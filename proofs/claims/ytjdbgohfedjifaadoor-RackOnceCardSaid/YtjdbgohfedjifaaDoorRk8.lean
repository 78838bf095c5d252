/- rack: a step of a work (of those that wait for no thief and find room). -/
import Derived.Test.YtjdbgohfedjifaaDoorRk7
namespace Go.Proofs.YtjdbgohfedjifaaDoor
open Go.RowKit Bosun
/-- What a work must be for its next step to be one that is shown here. -/
def Can (w : RWork) (M : List Nat) (u : Nat) : Prop :=
  (w.next = .pushing ∧ ∃ o, w.op = some o ∧ ((stepD o M u).1.done = true → (stepD o M u).1.err ≠ 6)) ∨ w.next = .signing ∨ w.next = .choosing ∨ (w.next = .taking ∧ ∃ o, w.op = some o) ∨ w.next = .emptying
theorem phase_signing (good : Nat → Bool) (r : RRack) {w : RWork} (M : List Nat) (u : Nat) (h : w.next = .signing) : phaseR good r w M u = (r, { w with done := true, err := 0 }, setA M r.base r.s0, tick M r.base u) := by unfold phaseR; rw [h]
theorem phase_emptying (good : Nat → Bool) (r : RRack) {w : RWork} (M : List Nat) (u : Nat) (h : w.next = .emptying) : phaseR good r w M u = (r, { w with done := true, err := 8 }, setA M r.base r.s0, tick M r.base u) := by unfold phaseR; rw [h]
set_option maxHeartbeats 8000000 in
theorem wstep_any (W : World) (wb rb bm bw : Nat) (gv : Value) (ob : Option Nat) (r : RRack) (w : RWork) (M : List Nat) (u : Nat) (h : Rig W wb rb bm bw gv ob r w M u) (good : Nat → Bool) (hT : TabW W) (hs : w.steps < 1000000)
    (hc : w.done = false → Can w M u) :
    Calls Tryd.prog 23 #[.pointer (some ⟨wb, 0, none⟩), .pointer (some ⟨bm, 0, none⟩)] W fun e W' => e = .returned (.bool (stepR good r w M u).2.1.done) ∧ ∃ ob', Rig W' wb rb bm bw gv ob' (stepR good r w M u).1 (stepR good r w M u).2.1 (stepR good r w M u).2.2.1 (stepR good r w M u).2.2.2 ∧ Chg (wb :: rb :: bm :: bw :: ob.toList) W W' ∧ (ob' = ob ∨ ∃ g, ob' = some g ∧ W.heap.size ≤ g) := by
  cases hd : w.done with
  | true =>
    have e1 : stepR good r w M u = (r, w, M, u) := by unfold stepR; rw [if_pos hd]
    rw [e1]
    have c14 : W.cell? ⟨wb, 14, none⟩ = some (.bool true) := by rw [Blk.cell h.wk]; show some (Value.bool w.done) = _; rw [hd]
    have HH := Lib.hid h
    clear h hc
    go_enter Tryd.func23, Tryd.ntmps23
    go_wp2_with fail
    go_ret
    exact ⟨congrArg (fun b => Ending.returned (Value.bool b)) hd.symm, ob, HH.out, Chg.refl _ _, .inl rfl⟩
  | false =>
    have e1 : stepR good r w M u = phaseR good r { w with steps := w.steps + 1 } M u := by unfold stepR; rw [if_neg (by rw [hd]; simp)]
    rw [e1]
    obtain ⟨S, hS⟩ : ∃ S, S = phaseR good r { w with steps := w.steps + 1 } M u := ⟨_, rfl⟩
    rw [← hS]
    have HSS := Lib.hid hS
    have c14 : W.cell? ⟨wb, 14, none⟩ = some (.bool false) := by rw [Blk.cell h.wk]; show some (Value.bool w.done) = _; rw [hd]
    have c13 : W.cell? ⟨wb, 13, none⟩ = some (.int .i64 (w.steps : Nat)) := by rw [Blk.cell h.wk]; rfl
    have z13 : W.frozen? ⟨wb, 13, none⟩ = false := Blk.frozen h.wk _
    have HH := Lib.hid h
    have HC := Lib.hid (hc hd)
    have HT := Lib.hid hT
    clear h hc hT e1 hS
    go_enter Tryd.func23, Tryd.ntmps23
    go_upto_region 5 with (fail)
    have W1 : IsWk (W.setCell ⟨wb, 13, none⟩ (.int .i64 ((w.steps : Int) + 1))) wb rb gv ob { w with steps := w.steps + 1 } := Blk.setCell HH.out.wk 13 _
    have C1 : Chg [wb] W (W.setCell ⟨wb, 13, none⟩ (.int .i64 ((w.steps : Int) + 1))) := (Chg.refl _ _).setCell (.inl (by simp)) _
    obtain ⟨w1, hw1⟩ : ∃ w1, w1 = W.setCell ⟨wb, 13, none⟩ (.int .i64 ((w.steps : Int) + 1)) := ⟨_, rfl⟩
    rw [← hw1] at W1 C1 ⊢
    clear hw1 c13 c14 z13
    have hwz : wb ≠ 0 := by
      intro e; subst e
      have h1 := HT.out 0 (by decide)
      have h2 : W.cell? ⟨0, 0, none⟩ = some (.pointer (some ⟨rb, 0, none⟩)) := by rw [Blk.cell HH.out.wk]; rfl
      rw [h2] at h1; simp at h1
    have G1 : Rig w1 wb rb bm bw gv ob r { w with steps := w.steps + 1 } M u :=
      ⟨W1, Blk.chg HH.out.rk C1 (by simp; exact Ne.symm HH.out.wr), HH.out.mem.chg C1 (by simp; exact Ne.symm HH.out.wm) (by simp; exact Ne.symm HH.out.ww), HH.out.opChg (C1.mono (by intro g hg; left; simp at hg ⊢; left; exact hg)), HH.out.ok, HH.out.kind, HH.out.level, by show w.steps + 1 ≤ _; omega⟩
    have T1 : TabW w1 := fun j hj => (World.cell?_of_block (w := W) (C1.block 0 (World.block_lt_of_cell? W _ (HT.out j hj)) (by simp; exact Ne.symm hwz))).trans (HT.out j hj)
    have c1 : w1.cell? ⟨wb, 1, none⟩ = some (nextV w.next) := by rw [Blk.cell W1]; rfl
    have FIN : ∀ e W', Turned w1 W' wb rb bm bw gv ob S e → ∃ ob', e = .returned (.tuple #[]) ∧ W'.cell? ⟨wb, 14, none⟩ = some (.bool S.2.1.done) ∧
        Rig W' wb rb bm bw gv ob' S.1 S.2.1 S.2.2.1 S.2.2.2 ∧ Chg (wb :: rb :: bm :: bw :: ob.toList) W W' ∧ (ob' = ob ∨ ∃ g, ob' = some g ∧ W.heap.size ≤ g) := by
      rintro e W' ⟨rfl, ob', G, C, HO⟩
      exact ⟨ob', rfl, by rw [Blk.cell G.wk]; rfl, G, (C1.mono (by intro g hg; left; simp at hg ⊢; left; exact hg)).then C (fun g hg => .inl hg), HO.imp id (fun ⟨g, h1, h2⟩ => ⟨g, h1, by have := C1.size; omega⟩)⟩
    have HF := Lib.hid FIN
    have HG := Lib.hid G1
    clear FIN W1 G1
    rcases HC.out with ⟨hn, o, ho, hf⟩ | hn | hn | ⟨hn, o, ho⟩ | hn
    · have HP := Lib.hid (pushing_any w1 wb rb bm bw gv ob r _ M u HG.out hd o ho hn hf good)
      rw [hn] at c1
      have c1' : w1.cell? ⟨wb, 1, none⟩ = some (.func (.func 38) #[] #[]) := c1
      rw [← HSS.out] at HP
      clear hn c1 T1 hwz hs C1 hf ho
      go_wp2_with (go_at_call 38; refine HP.out.mono ?_; intro e w2 HTu; obtain ⟨ob', rfl, k14, G2, C2, O2⟩ := HF.out e w2 HTu; have HX := Lib.hid (And.intro G2 (And.intro C2 O2)); clear G2 C2 O2 HTu)
      go_ret
      exact ⟨rfl, ob', HX.out.1, HX.out.2.1, HX.out.2.2⟩
    · have HP := Lib.hid (show Calls Tryd.prog 58 _ w1 fun e W' => Turned w1 W' wb rb bm bw gv ob (phaseR good r { w with steps := w.steps + 1 } M u) e by rw [phase_signing good r (w := { w with steps := w.steps + 1 }) M u hn]; exact signing_any w1 wb rb bm bw gv ob r _ M u HG.out hd)
      rw [hn] at c1
      have c1' : w1.cell? ⟨wb, 1, none⟩ = some (.func (.func 58) #[] #[]) := c1
      rw [← HSS.out] at HP
      clear hn c1 T1 hwz hs C1 
      go_wp2_with (go_at_call 58; refine HP.out.mono ?_; intro e w2 HTu; obtain ⟨ob', rfl, k14, G2, C2, O2⟩ := HF.out e w2 HTu; have HX := Lib.hid (And.intro G2 (And.intro C2 O2)); clear G2 C2 O2 HTu)
      go_ret
      exact ⟨rfl, ob', HX.out.1, HX.out.2.1, HX.out.2.2⟩
    · have HP := Lib.hid (choosing_any w1 wb rb bm bw gv ob r _ M u HG.out hd hn good T1)
      rw [hn] at c1
      have c1' : w1.cell? ⟨wb, 1, none⟩ = some (.func (.func 41) #[] #[]) := c1
      rw [← HSS.out] at HP
      clear hn c1 T1 hwz hs C1 
      go_wp2_with (go_at_call 41; refine HP.out.mono ?_; intro e w2 HTu; obtain ⟨ob', rfl, k14, G2, C2, O2⟩ := HF.out e w2 HTu; have HX := Lib.hid (And.intro G2 (And.intro C2 O2)); clear G2 C2 O2 HTu)
      go_ret
      exact ⟨rfl, ob', HX.out.1, HX.out.2.1, HX.out.2.2⟩
    · have HP := Lib.hid (taking_any w1 wb rb bm bw gv ob r _ M u HG.out hd o ho hn good)
      rw [hn] at c1
      have c1' : w1.cell? ⟨wb, 1, none⟩ = some (.func (.func 60) #[] #[]) := c1
      rw [← HSS.out] at HP
      clear hn c1 T1 hwz hs C1 ho
      go_wp2_with (go_at_call 60; refine HP.out.mono ?_; intro e w2 HTu; obtain ⟨ob', rfl, k14, G2, C2, O2⟩ := HF.out e w2 HTu; have HX := Lib.hid (And.intro G2 (And.intro C2 O2)); clear G2 C2 O2 HTu)
      go_ret
      exact ⟨rfl, ob', HX.out.1, HX.out.2.1, HX.out.2.2⟩
    · have HP := Lib.hid (show Calls Tryd.prog 83 _ w1 fun e W' => Turned w1 W' wb rb bm bw gv ob (phaseR good r { w with steps := w.steps + 1 } M u) e by rw [phase_emptying good r (w := { w with steps := w.steps + 1 }) M u hn]; exact emptying_any w1 wb rb bm bw gv ob r _ M u HG.out hd)
      rw [hn] at c1
      have c1' : w1.cell? ⟨wb, 1, none⟩ = some (.func (.func 83) #[] #[]) := c1
      rw [← HSS.out] at HP
      clear hn c1 T1 hwz hs C1 
      go_wp2_with (go_at_call 83; refine HP.out.mono ?_; intro e w2 HTu; obtain ⟨ob', rfl, k14, G2, C2, O2⟩ := HF.out e w2 HTu; have HX := Lib.hid (And.intro G2 (And.intro C2 O2)); clear G2 C2 O2 HTu)
      go_ret
      exact ⟨rfl, ob', HX.out.1, HX.out.2.1, HX.out.2.2⟩
end Go.Proofs.YtjdbgohfedjifaaDoor
