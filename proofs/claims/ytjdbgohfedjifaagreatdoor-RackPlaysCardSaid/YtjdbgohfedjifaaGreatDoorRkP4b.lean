/- rack: a step of any work. Printed by gen_step.py. -/
import Derived.Test.YtjdbgohfedjifaaGreatDoorRkP3b
import Derived.Test.YtjdbgohfedjifaaGreatDoorRkE
namespace Bosun
open Go
/-- What is so of a work that is not done, between two steps. -/
def Fit (w : RWork) : Prop :=
  w.x < 18446744073709551616 ∧ w.from_ < 18446744073709551616 ∧ w.swept < 18446744073709551616 ∧
  (w.next = .pushing ∨ w.next = .again → ∃ o, w.op = some o ∧ o.kind = 0 ∧ o.done = false) ∧
  (w.next = .sweeping ∨ w.next = .taking ∨ w.next = .robbing ∨ w.next = .minding → ∃ o, w.op = some o ∧ o.kind = 2 ∧ o.done = false) ∧
  (w.next = .minding → ∃ o, w.op = some o ∧ 3 ≤ o.steps) ∧
  (w.next = .popping → ∃ o, w.op = some o ∧ o.kind = 1 ∧ o.done = false) ∧
  (w.next = .worst → w.op = none)
/-- A function that is asked. -/
def Asks (w : RWork) : Prop := w.next = .asking ∨ w.next = .minding
end Bosun
namespace Go.Proofs.YtjdbgohfedjifaaGreatDoor
open Go.RowKit Bosun
theorem GoodF.step {W W1 : World} {wb : Nat} {gv : Value} {good : Nat → Bool} (h : GoodF W wb gv good) (C : Chg [wb] W W1) : GoodF W1 wb gv good := by
  obtain ⟨cb, e, h⟩ := h
  exact ⟨cb, e, fun W2 C2 => h W2 (C.then C2 (by simp))⟩
set_option maxHeartbeats 16000000 in
theorem wstepA_any (W : World) (wb rb bm bw : Nat) (gv : Value) (ob : Option Nat) (r : RRack) (w : RWork) (M : List Nat) (u : Nat) (h : Rig W wb rb bm bw gv ob r w M u) (good : Nat → Bool) (hT : TabW W) (hs : w.steps < 1000000)
    (hF : w.done = false → Fit w) (hG : w.done = false → Asks w → GoodF W wb gv good) :
    Calls Tryz.prog 12 #[.pointer (some ⟨wb, 0, none⟩), .pointer (some ⟨bm, 0, none⟩)] W fun e W' => e = .returned (.bool (stepR good r w M u).2.1.done) ∧ ∃ ob', Rig W' wb rb bm bw gv ob' (stepR good r w M u).1 (stepR good r w M u).2.1 (stepR good r w M u).2.2.1 (stepR good r w M u).2.2.2 ∧ Chg (wb :: rb :: bm :: bw :: ob.toList) W W' ∧ (ob' = ob ∨ ∃ g, ob' = some g ∧ W.heap.size ≤ g) := by
  cases hd : w.done with
  | true =>
    have e1 : stepR good r w M u = (r, w, M, u) := by unfold stepR; rw [if_pos hd]
    rw [e1]
    have c14 : W.cell? ⟨wb, 14, none⟩ = some (.bool true) := by rw [Blk.cell h.wk]; show some (Value.bool w.done) = _; rw [hd]
    have HH := Lib.hid h
    clear h hF hG
    go_enter Tryz.func12, Tryz.ntmps12
    go_wp2_with fail
    go_ret
    exact ⟨congrArg (fun b => Ending.returned (Value.bool b)) hd.symm, ob, HH.out, Chg.refl _ _, .inl rfl⟩
  | false =>
    have e1 : stepR good r w M u = phaseR good r { w with steps := w.steps + 1 } M u := by unfold stepR; rw [if_neg (by rw [hd]; simp)]
    rw [e1]
    obtain ⟨S, hS⟩ : ∃ S, S = phaseR good r { w with steps := w.steps + 1 } M u := ⟨_, rfl⟩
    rw [← hS]
    have HSS := Lib.hid hS
    have c14 : W.cell? ⟨wb, 14, none⟩ = some (.bool false) := by rw [Blk.cell h.wk]; show some (Value.bool w.done) = _; rw [hd]
    have c13 : W.cell? ⟨wb, 13, none⟩ = some (.int .i64 (w.steps : Nat)) := by rw [Blk.cell h.wk]; rfl
    have z13 : W.frozen? ⟨wb, 13, none⟩ = false := Blk.frozen h.wk _
    have HH := Lib.hid h
    have HF := Lib.hid (hF hd)
    have HG := Lib.hid (hG hd)
    have HT := Lib.hid hT
    have HDN := Lib.hid hd
    clear h hF hG hT e1 hS hd
    go_enter Tryz.func12, Tryz.ntmps12
    go_upto_region 5 with (fail)
    have W1 : IsWk (W.setCell ⟨wb, 13, none⟩ (.int .i64 ((w.steps : Int) + 1))) wb rb gv ob { w with steps := w.steps + 1 } := Blk.setCell HH.out.wk 13 _
    have C1 : Chg [wb] W (W.setCell ⟨wb, 13, none⟩ (.int .i64 ((w.steps : Int) + 1))) := (Chg.refl _ _).setCell (.inl (by simp)) _
    obtain ⟨w1, hw1⟩ : ∃ w1, w1 = W.setCell ⟨wb, 13, none⟩ (.int .i64 ((w.steps : Int) + 1)) := ⟨_, rfl⟩
    rw [← hw1] at W1 C1 ⊢
    clear hw1 c13 c14 z13
    have hne := HH.out.ne0 HT.out
    have T1 : TabW w1 := tab_chg HT.out C1 (by simp at hne ⊢; omega)
    have G1 : Rig w1 wb rb bm bw gv ob r { w with steps := w.steps + 1 } M u := HH.out.own W1 C1 rfl HH.out.kind HH.out.level (by show w.steps + 1 ≤ _; omega)
    have c1 : w1.cell? ⟨wb, 1, none⟩ = some (nextV w.next) := by rw [Blk.cell W1]; rfl
    have FIN : ∀ e W', Turned w1 W' wb rb bm bw gv ob S e → ∃ ob', e = .returned (.tuple #[]) ∧ W'.cell? ⟨wb, 14, none⟩ = some (.bool S.2.1.done) ∧
        Rig W' wb rb bm bw gv ob' S.1 S.2.1 S.2.2.1 S.2.2.2 ∧ Chg (wb :: rb :: bm :: bw :: ob.toList) W W' ∧ (ob' = ob ∨ ∃ g, ob' = some g ∧ W.heap.size ≤ g) := by
      rintro e W' ⟨rfl, ob', G, C, HO⟩
      exact ⟨ob', rfl, by rw [Blk.cell G.wk]; rfl, G, (C1.mono (by intro g hg; left; simp at hg ⊢; left; exact hg)).then C (fun g hg => .inl hg), HO.imp id (fun ⟨g, h1, h2⟩ => ⟨g, h1, by have := C1.size; omega⟩)⟩
    have HFI := Lib.hid FIN
    have HG1 := Lib.hid G1
    have HGD := Lib.hid (fun a => (HG.out a).step C1)
    clear FIN W1 G1 hne HG
    obtain ⟨f1, f2, f3, f4, f5, f6, f7, f8⟩ := HF.out
    have HT1 := Lib.hid T1
    clear T1
    have hd2 := HDN.out
    have HPH : w.next = .pushing ∨ w.next = .signing ∨ w.next = .sweeping ∨ w.next = .asking ∨ w.next = .again ∨ w.next = .choosing ∨ w.next = .taking ∨ w.next = .emptying ∨ w.next = .reading ∨ w.next = .robbing ∨ w.next = .minding ∨ w.next = .popping ∨ w.next = .worst := by
      cases hq : w.next <;> simp_all
    rcases HPH with hn | hn | hn | hn | hn | hn | hn | hn | hn | hn | hn | hn | hn
    · have HP : Hid (Calls Tryz.prog 60 #[.pointer (some ⟨wb, 0, none⟩), .pointer (some ⟨bm, 0, none⟩)] w1 fun e W' => Turned w1 W' wb rb bm bw gv ob (phaseR good r { w with steps := w.steps + 1 } M u) e) := Lib.hid (by
        obtain ⟨o, q1, q2, q3⟩ := f4 (.inl hn)
        by_cases hf : (stepD o M u).1.done = true ∧ (stepD o M u).1.err = 6
        · exact pushfull_any w1 wb rb bm bw gv ob r _ M u HG1.out hd2 o q1 hn good hf.1 hf.2 q2 q3
        · exact pushing_any w1 wb rb bm bw gv ob r _ M u HG1.out hd2 o q1 hn (fun a b => hf ⟨a, b⟩) good)
      rw [hn] at c1
      have c1' : w1.cell? ⟨wb, 1, none⟩ = some (.func (.func 60) #[] #[]) := c1
      rw [← HSS.out] at HP
      clear hn c1 hs C1 hd2 f1 f2 f3 f4 f5 f6 f7 f8
      go_wp2_with (go_at_call 60; refine HP.out.mono ?_; intro e w2 HTu; obtain ⟨ob', rfl, k14, G2, C2, O2⟩ := HFI.out e w2 HTu; have HX := Lib.hid (And.intro G2 (And.intro C2 O2)); clear G2 C2 O2 HTu)
      go_ret
      exact ⟨rfl, ob', HX.out.1, HX.out.2.1, HX.out.2.2⟩
    · have HP : Hid (Calls Tryz.prog 98 #[.pointer (some ⟨wb, 0, none⟩), .pointer (some ⟨bm, 0, none⟩)] w1 fun e W' => Turned w1 W' wb rb bm bw gv ob (phaseR good r { w with steps := w.steps + 1 } M u) e) := Lib.hid (show Calls Tryz.prog 98 _ w1 fun e W' => Turned w1 W' wb rb bm bw gv ob (phaseR good r { w with steps := w.steps + 1 } M u) e by rw [phase_signing good r (w := { w with steps := w.steps + 1 }) M u hn]; exact signing_any w1 wb rb bm bw gv ob r _ M u HG1.out hd2)
      rw [hn] at c1
      have c1' : w1.cell? ⟨wb, 1, none⟩ = some (.func (.func 98) #[] #[]) := c1
      rw [← HSS.out] at HP
      clear hn c1 hs C1 hd2 f1 f2 f3 f4 f5 f6 f7 f8
      go_wp2_with (go_at_call 98; refine HP.out.mono ?_; intro e w2 HTu; obtain ⟨ob', rfl, k14, G2, C2, O2⟩ := HFI.out e w2 HTu; have HX := Lib.hid (And.intro G2 (And.intro C2 O2)); clear G2 C2 O2 HTu)
      go_ret
      exact ⟨rfl, ob', HX.out.1, HX.out.2.1, HX.out.2.2⟩
    · have HP : Hid (Calls Tryz.prog 96 #[.pointer (some ⟨wb, 0, none⟩), .pointer (some ⟨bm, 0, none⟩)] w1 fun e W' => Turned w1 W' wb rb bm bw gv ob (phaseR good r { w with steps := w.steps + 1 } M u) e) := Lib.hid (by obtain ⟨o, q1, q2, q3⟩ := f5 (.inl hn); exact sweeping_any w1 wb rb bm bw gv ob r _ M u HG1.out hd2 o q1 hn good q2 q3 f1)
      rw [hn] at c1
      have c1' : w1.cell? ⟨wb, 1, none⟩ = some (.func (.func 96) #[] #[]) := c1
      rw [← HSS.out] at HP
      clear hn c1 hs C1 hd2 f1 f2 f3 f4 f5 f6 f7 f8
      go_wp2_with (go_at_call 96; refine HP.out.mono ?_; intro e w2 HTu; obtain ⟨ob', rfl, k14, G2, C2, O2⟩ := HFI.out e w2 HTu; have HX := Lib.hid (And.intro G2 (And.intro C2 O2)); clear G2 C2 O2 HTu)
      go_ret
      exact ⟨rfl, ob', HX.out.1, HX.out.2.1, HX.out.2.2⟩
    · have HP : Hid (Calls Tryz.prog 119 #[.pointer (some ⟨wb, 0, none⟩), .pointer (some ⟨bm, 0, none⟩)] w1 fun e W' => Turned w1 W' wb rb bm bw gv ob (phaseR good r { w with steps := w.steps + 1 } M u) e) := Lib.hid (asking_any w1 wb rb bm bw gv ob r _ M u HG1.out hd2 hn good (HGD.out (.inl hn)) f3)
      rw [hn] at c1
      have c1' : w1.cell? ⟨wb, 1, none⟩ = some (.func (.func 119) #[] #[]) := c1
      rw [← HSS.out] at HP
      clear hn c1 hs C1 hd2 f1 f2 f3 f4 f5 f6 f7 f8
      go_wp2_with (go_at_call 119; refine HP.out.mono ?_; intro e w2 HTu; obtain ⟨ob', rfl, k14, G2, C2, O2⟩ := HFI.out e w2 HTu; have HX := Lib.hid (And.intro G2 (And.intro C2 O2)); clear G2 C2 O2 HTu)
      go_ret
      exact ⟨rfl, ob', HX.out.1, HX.out.2.1, HX.out.2.2⟩
    · have HP : Hid (Calls Tryz.prog 130 #[.pointer (some ⟨wb, 0, none⟩), .pointer (some ⟨bm, 0, none⟩)] w1 fun e W' => Turned w1 W' wb rb bm bw gv ob (phaseR good r { w with steps := w.steps + 1 } M u) e) := Lib.hid (by obtain ⟨o, q1, q2, q3⟩ := f4 (.inr hn); exact again_any w1 wb rb bm bw gv ob r _ M u HG1.out hd2 o q1 hn good)
      rw [hn] at c1
      have c1' : w1.cell? ⟨wb, 1, none⟩ = some (.func (.func 130) #[] #[]) := c1
      rw [← HSS.out] at HP
      clear hn c1 hs C1 hd2 f1 f2 f3 f4 f5 f6 f7 f8
      go_wp2_with (go_at_call 130; refine HP.out.mono ?_; intro e w2 HTu; obtain ⟨ob', rfl, k14, G2, C2, O2⟩ := HFI.out e w2 HTu; have HX := Lib.hid (And.intro G2 (And.intro C2 O2)); clear G2 C2 O2 HTu)
      go_ret
      exact ⟨rfl, ob', HX.out.1, HX.out.2.1, HX.out.2.2⟩
    · have HP : Hid (Calls Tryz.prog 55 #[.pointer (some ⟨wb, 0, none⟩), .pointer (some ⟨bm, 0, none⟩)] w1 fun e W' => Turned w1 W' wb rb bm bw gv ob (phaseR good r { w with steps := w.steps + 1 } M u) e) := Lib.hid (choosing_any w1 wb rb bm bw gv ob r _ M u HG1.out hd2 hn good HT1.out)
      rw [hn] at c1
      have c1' : w1.cell? ⟨wb, 1, none⟩ = some (.func (.func 55) #[] #[]) := c1
      rw [← HSS.out] at HP
      clear hn c1 hs C1 hd2 f1 f2 f3 f4 f5 f6 f7 f8
      go_wp2_with (go_at_call 55; refine HP.out.mono ?_; intro e w2 HTu; obtain ⟨ob', rfl, k14, G2, C2, O2⟩ := HFI.out e w2 HTu; have HX := Lib.hid (And.intro G2 (And.intro C2 O2)); clear G2 C2 O2 HTu)
      go_ret
      exact ⟨rfl, ob', HX.out.1, HX.out.2.1, HX.out.2.2⟩
    · have HP : Hid (Calls Tryz.prog 86 #[.pointer (some ⟨wb, 0, none⟩), .pointer (some ⟨bm, 0, none⟩)] w1 fun e W' => Turned w1 W' wb rb bm bw gv ob (phaseR good r { w with steps := w.steps + 1 } M u) e) := Lib.hid (by obtain ⟨o, q1, q2, q3⟩ := f5 (.inr (.inl hn)); exact taking_any w1 wb rb bm bw gv ob r _ M u HG1.out hd2 o q1 hn good)
      rw [hn] at c1
      have c1' : w1.cell? ⟨wb, 1, none⟩ = some (.func (.func 86) #[] #[]) := c1
      rw [← HSS.out] at HP
      clear hn c1 hs C1 hd2 f1 f2 f3 f4 f5 f6 f7 f8
      go_wp2_with (go_at_call 86; refine HP.out.mono ?_; intro e w2 HTu; obtain ⟨ob', rfl, k14, G2, C2, O2⟩ := HFI.out e w2 HTu; have HX := Lib.hid (And.intro G2 (And.intro C2 O2)); clear G2 C2 O2 HTu)
      go_ret
      exact ⟨rfl, ob', HX.out.1, HX.out.2.1, HX.out.2.2⟩
    · have HP : Hid (Calls Tryz.prog 107 #[.pointer (some ⟨wb, 0, none⟩), .pointer (some ⟨bm, 0, none⟩)] w1 fun e W' => Turned w1 W' wb rb bm bw gv ob (phaseR good r { w with steps := w.steps + 1 } M u) e) := Lib.hid (show Calls Tryz.prog 107 _ w1 fun e W' => Turned w1 W' wb rb bm bw gv ob (phaseR good r { w with steps := w.steps + 1 } M u) e by rw [phase_emptying good r (w := { w with steps := w.steps + 1 }) M u hn]; exact emptying_any w1 wb rb bm bw gv ob r _ M u HG1.out hd2)
      rw [hn] at c1
      have c1' : w1.cell? ⟨wb, 1, none⟩ = some (.func (.func 107) #[] #[]) := c1
      rw [← HSS.out] at HP
      clear hn c1 hs C1 hd2 f1 f2 f3 f4 f5 f6 f7 f8
      go_wp2_with (go_at_call 107; refine HP.out.mono ?_; intro e w2 HTu; obtain ⟨ob', rfl, k14, G2, C2, O2⟩ := HFI.out e w2 HTu; have HX := Lib.hid (And.intro G2 (And.intro C2 O2)); clear G2 C2 O2 HTu)
      go_ret
      exact ⟨rfl, ob', HX.out.1, HX.out.2.1, HX.out.2.2⟩
    · have HP : Hid (Calls Tryz.prog 57 #[.pointer (some ⟨wb, 0, none⟩), .pointer (some ⟨bm, 0, none⟩)] w1 fun e W' => Turned w1 W' wb rb bm bw gv ob (phaseR good r { w with steps := w.steps + 1 } M u) e) := Lib.hid (reading_any w1 wb rb bm bw gv ob r _ M u HG1.out hd2 hn good HT1.out)
      rw [hn] at c1
      have c1' : w1.cell? ⟨wb, 1, none⟩ = some (.func (.func 57) #[] #[]) := c1
      rw [← HSS.out] at HP
      clear hn c1 hs C1 hd2 f1 f2 f3 f4 f5 f6 f7 f8
      go_wp2_with (go_at_call 57; refine HP.out.mono ?_; intro e w2 HTu; obtain ⟨ob', rfl, k14, G2, C2, O2⟩ := HFI.out e w2 HTu; have HX := Lib.hid (And.intro G2 (And.intro C2 O2)); clear G2 C2 O2 HTu)
      go_ret
      exact ⟨rfl, ob', HX.out.1, HX.out.2.1, HX.out.2.2⟩
    · have HP : Hid (Calls Tryz.prog 91 #[.pointer (some ⟨wb, 0, none⟩), .pointer (some ⟨bm, 0, none⟩)] w1 fun e W' => Turned w1 W' wb rb bm bw gv ob (phaseR good r { w with steps := w.steps + 1 } M u) e) := Lib.hid (by obtain ⟨o, q1, q2, q3⟩ := f5 (.inr (.inr (.inl hn))); exact robbing_any w1 wb rb bm bw gv ob r _ M u HG1.out hd2 o q1 hn good q2)
      rw [hn] at c1
      have c1' : w1.cell? ⟨wb, 1, none⟩ = some (.func (.func 91) #[] #[]) := c1
      rw [← HSS.out] at HP
      clear hn c1 hs C1 hd2 f1 f2 f3 f4 f5 f6 f7 f8
      go_wp2_with (go_at_call 91; refine HP.out.mono ?_; intro e w2 HTu; obtain ⟨ob', rfl, k14, G2, C2, O2⟩ := HFI.out e w2 HTu; have HX := Lib.hid (And.intro G2 (And.intro C2 O2)); clear G2 C2 O2 HTu)
      go_ret
      exact ⟨rfl, ob', HX.out.1, HX.out.2.1, HX.out.2.2⟩
    · have HP : Hid (Calls Tryz.prog 112 #[.pointer (some ⟨wb, 0, none⟩), .pointer (some ⟨bm, 0, none⟩)] w1 fun e W' => Turned w1 W' wb rb bm bw gv ob (phaseR good r { w with steps := w.steps + 1 } M u) e) := Lib.hid (by obtain ⟨o, q1, q2, q3⟩ := f5 (.inr (.inr (.inr hn))); obtain ⟨o', q4, q5⟩ := f6 hn; obtain rfl : o = o' := Option.some.inj (q1.symm.trans q4); have q6 := (HG1.out.opOf q1); obtain ⟨g, _, _, q7, _⟩ := q6; exact minding_any w1 wb rb bm bw gv ob r _ M u HG1.out hd2 o q1 hn good (HGD.out (.inr hn)) q2 q5 q7.x)
      rw [hn] at c1
      have c1' : w1.cell? ⟨wb, 1, none⟩ = some (.func (.func 112) #[] #[]) := c1
      rw [← HSS.out] at HP
      clear hn c1 hs C1 hd2 f1 f2 f3 f4 f5 f6 f7 f8
      go_wp2_with (go_at_call 112; refine HP.out.mono ?_; intro e w2 HTu; obtain ⟨ob', rfl, k14, G2, C2, O2⟩ := HFI.out e w2 HTu; have HX := Lib.hid (And.intro G2 (And.intro C2 O2)); clear G2 C2 O2 HTu)
      go_ret
      exact ⟨rfl, ob', HX.out.1, HX.out.2.1, HX.out.2.2⟩
    · have HP : Hid (Calls Tryz.prog 89 #[.pointer (some ⟨wb, 0, none⟩), .pointer (some ⟨bm, 0, none⟩)] w1 fun e W' => Turned w1 W' wb rb bm bw gv ob (phaseR good r { w with steps := w.steps + 1 } M u) e) := Lib.hid (by obtain ⟨o, q1, q2, q3⟩ := f7 hn; exact popping_any w1 wb rb bm bw gv ob r _ M u HG1.out hd2 o q1 hn good)
      rw [hn] at c1
      have c1' : w1.cell? ⟨wb, 1, none⟩ = some (.func (.func 89) #[] #[]) := c1
      rw [← HSS.out] at HP
      clear hn c1 hs C1 hd2 f1 f2 f3 f4 f5 f6 f7 f8
      go_wp2_with (go_at_call 89; refine HP.out.mono ?_; intro e w2 HTu; obtain ⟨ob', rfl, k14, G2, C2, O2⟩ := HFI.out e w2 HTu; have HX := Lib.hid (And.intro G2 (And.intro C2 O2)); clear G2 C2 O2 HTu)
      go_ret
      exact ⟨rfl, ob', HX.out.1, HX.out.2.1, HX.out.2.2⟩
    · have HP : Hid (Calls Tryz.prog 56 #[.pointer (some ⟨wb, 0, none⟩), .pointer (some ⟨bm, 0, none⟩)] w1 fun e W' => Turned w1 W' wb rb bm bw gv ob (phaseR good r { w with steps := w.steps + 1 } M u) e) := Lib.hid (by have q1 := f8 hn; have q2 := HG1.out.op; cases ob with | none => exact worst_any w1 wb rb bm bw gv r _ M u HG1.out hd2 hn q1 good HT1.out | some g => rw [show ({ w with steps := w.steps + 1 } : RWork).op = none from q1] at q2; exact q2.elim)
      rw [hn] at c1
      have c1' : w1.cell? ⟨wb, 1, none⟩ = some (.func (.func 56) #[] #[]) := c1
      rw [← HSS.out] at HP
      clear hn c1 hs C1 hd2 f1 f2 f3 f4 f5 f6 f7 f8
      go_wp2_with (go_at_call 56; refine HP.out.mono ?_; intro e w2 HTu; obtain ⟨ob', rfl, k14, G2, C2, O2⟩ := HFI.out e w2 HTu; have HX := Lib.hid (And.intro G2 (And.intro C2 O2)); clear G2 C2 O2 HTu)
      go_ret
      exact ⟨rfl, ob', HX.out.1, HX.out.2.1, HX.out.2.2⟩
end Go.Proofs.YtjdbgohfedjifaaGreatDoor
