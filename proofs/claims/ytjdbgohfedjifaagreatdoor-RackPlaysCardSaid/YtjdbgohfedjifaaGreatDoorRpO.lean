/- rack, the document's: put, take, rob, shed, whole; Step. -/
import Derived.Test.YtjdbgohfedjifaaGreatDoorRpN
import Derived.Test.YtjdbgohfedjifaaGreatDoorRpS
import Derived.Test.YtjdbgohfedjifaaGreatDoorRpP
namespace Go.Proofs.YtjdbgohfedjifaaGreatDoor
open Go.RowKit Bosun
section
variable {W : World} {qb sb nm nw xq : Nat} {bad : Value} {at_ : Nat} {ob : Option Nat} {oo : Option DOp} {r : RRack} {w : RWork} {M : List Nat} {u : Nat}
theorem qput_any {name : Nat} (h : Qig W qb sb nm nw name xq bad at_ ob oo r w M u) (h0 : name = 0) (hp : Pln r w) (hD : Doc r w xq at_ ob oo) (hd : w.done = false) (hn : nameR w.next = 0) (good : Nat → Bool) (l0 : List Nat) (hrd : ∀ W1, Chg (qb :: sb :: nm :: nw :: ob.toList) W W1 → Reads W1 bad (words l0)) (hgood : ∀ x, good x = !decide (x ∈ l0)) :
    Calls Tryz.prog 43 #[.pointer (some ⟨qb, 0, none⟩), .pointer (some ⟨nm, 0, none⟩)] W fun e W' => QTurned W W' qb sb nm nw name bad ob (phaseR good r w M u) e := by
  obtain ⟨f1, f2, f3, f4, f5, f6, f7, f8⟩ := hp.fit hd
  cases hq : w.next with
  | pushing =>
    obtain ⟨o, q1, q2, q3⟩ := f4 (.inl hq)
    refine qput_push W qb sb nm nw name xq bad at_ ob oo r w M u h hd (hD.x hd) h0 o q1 hq f1 ?_ good
    rcases hD.st with ⟨a, b⟩ | ⟨_, _, b, c, d, _, e⟩
    · right
      have ho := h.op
      rw [a, q1] at ho
      exact ⟨by rw [(b hd).1, atQ_of hq]; rfl, by rw [a, q1], ho.some_of⟩
    · left
      rw [q1] at e
      exact ⟨b, c, d, Option.some.inj e⟩
  | signing =>
    obtain ⟨rfl, rfl, hx⟩ := hD.is hd (by rw [hq]; decide)
    have h' := h
    rw [show atQ w = 5 by rw [atQ_of hq]; rfl] at h'
    exact qput_sign W qb sb nm nw name xq bad ob r w M u h' hd hx hq good
  | sweeping =>
    obtain ⟨rfl, rfl, hx⟩ := hD.is hd (by rw [hq]; decide)
    have h' := h
    rw [show atQ w = 2 by rw [atQ_of hq]; rfl] at h'
    obtain ⟨o, q1, q2, q3⟩ := f5 (.inl hq)
    exact qput_sweep W qb sb nm nw name xq bad ob r w M u h' hd hx o q1 hq q2 q3 f1 good
  | asking =>
    obtain ⟨rfl, rfl, hx⟩ := hD.is hd (by rw [hq]; decide)
    have h' := h
    rw [show atQ w = 3 by rw [atQ_of hq]; rfl] at h'
    exact qput_ask W qb sb nm nw name xq bad ob r w M u h' hd hx good l0 hrd hq f3 (hgood _)
  | again =>
    obtain ⟨rfl, rfl, hx⟩ := hD.is hd (by rw [hq]; decide)
    have h' := h
    rw [show atQ w = 4 by rw [atQ_of hq]; rfl] at h'
    obtain ⟨o, q1, q2, q3⟩ := f4 (.inr hq)
    exact qput_again W qb sb nm nw name xq bad ob r w M u h' hd hx o q1 hq good
  | choosing => rw [hq] at hn; simp [nameR] at hn
  | taking => rw [hq] at hn; simp [nameR] at hn
  | emptying => rw [hq] at hn; simp [nameR] at hn
  | reading => rw [hq] at hn; simp [nameR] at hn
  | robbing => rw [hq] at hn; simp [nameR] at hn
  | minding => rw [hq] at hn; simp [nameR] at hn
  | worst => rw [hq] at hn; simp [nameR] at hn
  | popping => rw [hq] at hn; simp [nameR] at hn
theorem qtake_any {name : Nat} (h : Qig W qb sb nm nw name xq bad at_ ob oo r w M u) (hp : Pln r w) (hD : Doc r w xq at_ ob oo) (hd : w.done = false) (hn : nameR w.next = 1) (good : Nat → Bool) :
    Calls Tryz.prog 44 #[.pointer (some ⟨qb, 0, none⟩), .pointer (some ⟨nm, 0, none⟩)] W fun e W' => QTurned W W' qb sb nm nw name bad ob (phaseR good r w M u) e := by
  obtain ⟨f1, f2, f3, f4, f5, f6, f7, f8⟩ := hp.fit hd
  cases hq : w.next with
  | choosing =>
    obtain ⟨rfl, rfl, hx⟩ := hD.is hd (by rw [hq]; decide)
    obtain ⟨z1, z2⟩ := hp.none_ hd (.inl hq)
    have h' := h
    rw [show atQ w = 0 by rw [atQ_of hq]; rfl, z1] at h'
    obtain rfl := h'.op.none_of
    rw [choose_phase good r w M u hq z2]
    exact qtake_choose W qb sb nm nw name xq bad r w M u h' z1 hx hd
  | taking =>
    obtain ⟨rfl, rfl, hx⟩ := hD.is hd (by rw [hq]; decide)
    have h' := h
    rw [show atQ w = 6 by rw [atQ_of hq]; rfl] at h'
    obtain ⟨o, q1, q2, q3⟩ := f5 (.inr (.inl hq))
    exact qtake_steal W qb sb nm nw name xq bad ob r w M u h' hd hx o q1 hq q2 q3 (hp.bit hd hq) good
  | emptying =>
    obtain ⟨rfl, rfl, hx⟩ := hD.is hd (by rw [hq]; decide)
    rw [show phaseR good r w M u = (r, { w with done := true, err := 8 }, setA M r.base r.s0, tick M r.base u) from by unfold phaseR; rw [hq]]
    exact qtake_sign W qb sb nm nw name xq bad _ ob r w M u h (by rw [atQ_of hq]; rfl) hd
  | pushing => rw [hq] at hn; simp [nameR] at hn
  | signing => rw [hq] at hn; simp [nameR] at hn
  | sweeping => rw [hq] at hn; simp [nameR] at hn
  | asking => rw [hq] at hn; simp [nameR] at hn
  | again => rw [hq] at hn; simp [nameR] at hn
  | reading => rw [hq] at hn; simp [nameR] at hn
  | robbing => rw [hq] at hn; simp [nameR] at hn
  | minding => rw [hq] at hn; simp [nameR] at hn
  | worst => rw [hq] at hn; simp [nameR] at hn
  | popping => rw [hq] at hn; simp [nameR] at hn
theorem qrob_any {name : Nat} (h : Qig W qb sb nm nw name xq bad at_ ob oo r w M u) (hp : Pln r w) (hD : Doc r w xq at_ ob oo) (hd : w.done = false) (hn : nameR w.next = 2) (good : Nat → Bool) (l0 : List Nat) (hrd : ∀ W1, Chg (qb :: sb :: nm :: nw :: ob.toList) W W1 → Reads W1 bad (words l0)) (hgood : ∀ x, good x = !decide (x ∈ l0)) :
    Calls Tryz.prog 45 #[.pointer (some ⟨qb, 0, none⟩), .pointer (some ⟨nm, 0, none⟩)] W fun e W' => QTurned W W' qb sb nm nw name bad ob (phaseR good r w M u) e := by
  obtain ⟨f1, f2, f3, f4, f5, f6, f7, f8⟩ := hp.fit hd
  cases hq : w.next with
  | reading =>
    obtain ⟨rfl, rfl, hx⟩ := hD.is hd (by rw [hq]; decide)
    obtain ⟨z1, z2⟩ := hp.none_ hd (.inr (.inl hq))
    have h' := h
    rw [show atQ w = 0 by rw [atQ_of hq]; rfl, z1] at h'
    obtain rfl := h'.op.none_of
    exact qrob_read W qb sb nm nw name xq bad r w M u h' hd hx z1 z2 hq good
  | robbing =>
    obtain ⟨rfl, rfl, hx⟩ := hD.is hd (by rw [hq]; decide)
    have h' := h
    rw [show atQ w = 6 by rw [atQ_of hq]; rfl] at h'
    obtain ⟨o, q1, q2, q3⟩ := f5 (.inr (.inr (.inl hq)))
    exact qrob_step W qb sb nm nw name xq bad ob r w M u h' hd hx o q1 hq q2 q3 good
  | minding =>
    obtain ⟨rfl, rfl, hx⟩ := hD.is hd (by rw [hq]; decide)
    have h' := h
    rw [show atQ w = 3 by rw [atQ_of hq]; rfl] at h'
    obtain ⟨o, q1, q2, q3⟩ := f5 (.inr (.inr (.inr hq)))
    exact qrob_ask W qb sb nm nw name xq bad ob r w M u h' hd hx o q1 hq l0 hrd good (hgood _)
  | pushing => rw [hq] at hn; simp [nameR] at hn
  | signing => rw [hq] at hn; simp [nameR] at hn
  | sweeping => rw [hq] at hn; simp [nameR] at hn
  | asking => rw [hq] at hn; simp [nameR] at hn
  | again => rw [hq] at hn; simp [nameR] at hn
  | choosing => rw [hq] at hn; simp [nameR] at hn
  | taking => rw [hq] at hn; simp [nameR] at hn
  | emptying => rw [hq] at hn; simp [nameR] at hn
  | worst => rw [hq] at hn; simp [nameR] at hn
  | popping => rw [hq] at hn; simp [nameR] at hn
theorem qshed_any {name : Nat} (h : Qig W qb sb nm nw name xq bad at_ ob oo r w M u) (hp : Pln r w) (hD : Doc r w xq at_ ob oo) (hd : w.done = false) (hn : nameR w.next = 3) (good : Nat → Bool) :
    Calls Tryz.prog 46 #[.pointer (some ⟨qb, 0, none⟩), .pointer (some ⟨nm, 0, none⟩)] W fun e W' => QTurned W W' qb sb nm nw name bad ob (phaseR good r w M u) e := by
  obtain ⟨f1, f2, f3, f4, f5, f6, f7, f8⟩ := hp.fit hd
  cases hq : w.next with
  | worst =>
    obtain ⟨rfl, rfl, hx⟩ := hD.is hd (by rw [hq]; decide)
    obtain ⟨z1, z2⟩ := hp.none_ hd (.inr (.inr hq))
    have h' := h
    rw [show atQ w = 0 by rw [atQ_of hq]; rfl, z1] at h'
    obtain rfl := h'.op.none_of
    exact qshed_worst W qb sb nm nw name xq bad r w M u h' hd hx z1 z2 hq good
  | popping =>
    obtain ⟨rfl, rfl, hx⟩ := hD.is hd (by rw [hq]; decide)
    have h' := h
    rw [show atQ w = 7 by rw [atQ_of hq]; rfl] at h'
    obtain ⟨o, q1, q2, q3⟩ := f7 hq
    exact qshed_pop W qb sb nm nw name xq bad ob r w M u h' hd hx o q1 hq good
  | pushing => rw [hq] at hn; simp [nameR] at hn
  | signing => rw [hq] at hn; simp [nameR] at hn
  | sweeping => rw [hq] at hn; simp [nameR] at hn
  | asking => rw [hq] at hn; simp [nameR] at hn
  | again => rw [hq] at hn; simp [nameR] at hn
  | choosing => rw [hq] at hn; simp [nameR] at hn
  | taking => rw [hq] at hn; simp [nameR] at hn
  | emptying => rw [hq] at hn; simp [nameR] at hn
  | reading => rw [hq] at hn; simp [nameR] at hn
  | robbing => rw [hq] at hn; simp [nameR] at hn
  | minding => rw [hq] at hn; simp [nameR] at hn
end
theorem Qig.counted {W : World} {qb sb nm nw name xq : Nat} {bad : Value} {at_ : Nat} {ob : Option Nat} {oo : Option DOp} {r : RRack} {w : RWork} {M : List Nat} {u : Nat} (h : Qig W qb sb nm nw name xq bad at_ ob oo r w M u) (hs : w.steps < 1000000) :
    Qig (W.setCell ⟨qb, 13, none⟩ (.int .i64 ((w.steps : Int) + 1))) qb sb nm nw name xq bad at_ ob oo r { w with steps := w.steps + 1 } M u :=
  h.own (Blk.setCell h.wk 13 _) ((Chg.refl _ _).setCell (.inl (by simp)) _) h.kind h.level (by show w.steps + 1 ≤ 1000000; omega)
set_option maxHeartbeats 16000000 in
theorem qstep_any (W : World) (qb sb nm nw name xq : Nat) (bad : Value) (at_ : Nat) (ob : Option Nat) (oo : Option DOp) (r : RRack) (w : RWork) (M : List Nat) (u : Nat) (h : Qig W qb sb nm nw name xq bad at_ ob oo r w M u) (hp : Pln r w) (hname : name = nameR w.next) (hD : Doc r w xq at_ ob oo) (hs : w.steps < 1000000) (good : Nat → Bool) (l0 : List Nat)
    (hrd : ∀ W1, Chg (qb :: sb :: nm :: nw :: ob.toList) W W1 → Reads W1 bad (words l0)) (hgood : name = 0 ∨ name = 2 → ∀ x, good x = !decide (x ∈ l0)) :
    Calls Tryz.prog 13 #[.pointer (some ⟨qb, 0, none⟩), .pointer (some ⟨nm, 0, none⟩)] W fun e W' => e = .returned (.bool (stepR good r w M u).2.1.done) ∧ QStepped W W' qb sb nm nw name bad ob (stepR good r w M u) := by
  cases hd : w.done with
  | true =>
    have e1 : stepR good r w M u = (r, w, M, u) := by unfold stepR; rw [if_pos hd]
    rw [e1]
    have c14 : W.cell? ⟨qb, 14, none⟩ = some (.bool true) := by rw [Blk.cell h.wk]; show some (Value.bool w.done) = _; rw [hd]
    have HH := Lib.hid (And.intro h hD)
    clear h hD hp hrd hgood
    go_enter Tryz.func13, Tryz.ntmps13
    go_wp2_with fail
    go_ret
    exact ⟨congrArg (fun b => Ending.returned (Value.bool b)) hd.symm, xq, at_, ob, oo, HH.out.1, HH.out.2, Chg.refl _ _, .inl rfl⟩
  | false =>
    have e1 : stepR good r w M u = phaseR good r { w with steps := w.steps + 1 } M u := by unfold stepR; rw [if_neg (by rw [hd]; simp)]
    rw [e1]
    have c14 : W.cell? ⟨qb, 14, none⟩ = some (.bool false) := by rw [Blk.cell h.wk]; show some (Value.bool w.done) = _; rw [hd]
    have c13 : W.cell? ⟨qb, 13, none⟩ = some (.int .i64 (w.steps : Nat)) := by rw [Blk.cell h.wk]; rfl
    have z13 : W.frozen? ⟨qb, 13, none⟩ = false := Blk.frozen h.wk _
    have C1 : Chg [qb] W (W.setCell ⟨qb, 13, none⟩ (.int .i64 ((w.steps : Int) + 1))) := (Chg.refl _ _).setCell (.inl (by simp)) _
    have G1 := h.counted hs
    have hp1 := hp.count (w.steps + 1)
    have hD1 := hD.count (w.steps + 1)
    have hn1 : name = nameR ({ w with steps := w.steps + 1 } : RWork).next := hname
    have hd1 : ({ w with steps := w.steps + 1 } : RWork).done = false := hd
    obtain ⟨wn, hwn⟩ : ∃ wn, wn = { w with steps := w.steps + 1 } := ⟨_, rfl⟩
    rw [← hwn] at G1 hp1 hD1 hn1 hd1 ⊢
    obtain ⟨w1, hw1⟩ : ∃ w1, w1 = W.setCell ⟨qb, 13, none⟩ (.int .i64 ((w.steps : Int) + 1)) := ⟨_, rfl⟩
    have HW1 := Lib.hid hw1
    rw [← hw1] at G1 C1
    have hrd1 : ∀ W1, Chg (qb :: sb :: nm :: nw :: ob.toList) w1 W1 → Reads W1 bad (words l0) := fun W1 C => hrd W1 ((C1.mono (by intro g hg; left; simp at hg ⊢; left; exact hg)).then C (fun g hg => .inl hg))
    have HPUT := Lib.hid (fun (q : name = 0) => qput_any G1 q hp1 hD1 hd1 (by rw [← hn1, q]) good l0 hrd1 (hgood (.inl q)))
    have HTAKE := Lib.hid (fun (q : name = 1) => qtake_any G1 hp1 hD1 hd1 (by rw [← hn1, q]) good)
    have HROB := Lib.hid (fun (q : name = 2) => qrob_any G1 hp1 hD1 hd1 (by rw [← hn1, q]) good l0 hrd1 (hgood (.inr q)))
    have HSHED := Lib.hid (fun (q : name = 3) => qshed_any G1 hp1 hD1 hd1 (by rw [← hn1, q]) good)
    have hn4 : name < 4 := by rw [hname]; exact nameR_lt _
    have c1 : w1.cell? ⟨qb, 1, none⟩ = some (.int .i64 (name : Nat)) := by rw [Blk.cell G1.wk]; rfl
    obtain ⟨S, hS⟩ : ∃ S, S = phaseR good r wn M u := ⟨_, rfl⟩
    rw [← hS] at HPUT HTAKE HROB HSHED ⊢
    have HFI := Lib.hid (show ∀ e W', QTurned w1 W' qb sb nm nw name bad ob S e → e = .returned (.tuple #[]) ∧ W'.cell? ⟨qb, 14, none⟩ = some (.bool S.2.1.done) ∧ QStepped W W' qb sb nm nw name bad ob S from by
      rintro e W' ⟨rfl, xq', at', ob', G, C, HO, k1, k2⟩
      exact ⟨rfl, by rw [Blk.cell G.wk]; rfl, xq', at', ob', _, G, ⟨k2, .inl ⟨rfl, k1⟩⟩, (C1.mono (by intro g hg; left; simp at hg ⊢; left; exact hg)).then C (fun g hg => .inl hg), HO.imp id (fun ⟨g, h1, h2⟩ => ⟨g, h1, by have := C1.size; omega⟩)⟩)
    clear h hp hD hrd hgood e1 hd hname G1 hp1 hD1 hn1 hd1 hrd1 C1 hS hwn hw1
    go_enter Tryz.func13, Tryz.ntmps13
    go_upto_region 4 with (fail)
    rw [← HW1.out]
    clear c13 z13 c14 hs HW1
    rcases (show name = 0 ∨ name = 1 ∨ name = 2 ∨ name = 3 by omega) with rfl | rfl | rfl | rfl
    · have c1' : w1.cell? ⟨qb, 1, none⟩ = some (.int .i64 0) := c1
      have HP := Lib.hid (HPUT.out rfl)
      clear c1 HPUT HTAKE HROB HSHED hn4
      go_wp2_with (go_at_call 43; refine HP.out.mono ?_; intro e w2 HTu; obtain ⟨rfl, k14, HX0⟩ := HFI.out e w2 HTu; have HX := Lib.hid HX0; clear HX0 HTu)
      go_ret
      exact ⟨rfl, HX.out⟩
    · have c1' : w1.cell? ⟨qb, 1, none⟩ = some (.int .i64 1) := c1
      have HP := Lib.hid (HTAKE.out rfl)
      clear c1 HPUT HTAKE HROB HSHED hn4
      go_wp2_with (go_at_call 44; refine HP.out.mono ?_; intro e w2 HTu; obtain ⟨rfl, k14, HX0⟩ := HFI.out e w2 HTu; have HX := Lib.hid HX0; clear HX0 HTu)
      go_ret
      exact ⟨rfl, HX.out⟩
    · have c1' : w1.cell? ⟨qb, 1, none⟩ = some (.int .i64 2) := c1
      have HP := Lib.hid (HROB.out rfl)
      clear c1 HPUT HTAKE HROB HSHED hn4
      go_wp2_with (go_at_call 45; refine HP.out.mono ?_; intro e w2 HTu; obtain ⟨rfl, k14, HX0⟩ := HFI.out e w2 HTu; have HX := Lib.hid HX0; clear HX0 HTu)
      go_ret
      exact ⟨rfl, HX.out⟩
    · have c1' : w1.cell? ⟨qb, 1, none⟩ = some (.int .i64 3) := c1
      have HP := Lib.hid (HSHED.out rfl)
      clear c1 HPUT HTAKE HROB HSHED hn4
      go_wp2_with (go_at_call 46; refine HP.out.mono ?_; intro e w2 HTu; obtain ⟨rfl, k14, HX0⟩ := HFI.out e w2 HTu; have HX := Lib.hid HX0; clear HX0 HTu)
      go_ret
      exact ⟨rfl, HX.out⟩
end Go.Proofs.YtjdbgohfedjifaaGreatDoor
