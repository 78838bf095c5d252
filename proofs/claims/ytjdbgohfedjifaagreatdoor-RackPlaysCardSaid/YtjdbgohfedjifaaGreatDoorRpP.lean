/- rack, plays: what is so of a work, plainly; a step keeps it. -/
import Derived.Test.YtjdbgohfedjifaaGreatDoorRpV
namespace Bosun
open Go
/-- The document's name of a work. -/
def nameR : RNext → Nat
  | .pushing => 0
  | .signing => 0
  | .sweeping => 0
  | .asking => 0
  | .again => 0
  | .choosing => 1
  | .taking => 1
  | .emptying => 1
  | .reading => 2
  | .robbing => 2
  | .minding => 2
  | .worst => 3
  | .popping => 3
theorem nameR_lt (n : RNext) : nameR n < 4 := by cases n <;> decide
end Bosun
namespace Go.Proofs.YtjdbgohfedjifaaGreatDoor
open Go.RowKit Bosun
structure Pln (r : RRack) (w : RWork) : Prop where
  fit : w.done = false → Fit w
  ok : ∀ o, w.op = some o → OkOp o
  sheds : w.sheds = decide (nameR w.next = 3)
  there : nameR w.next ≠ 0 → w.there = true
  hold : nameR w.next = 0 → w.holds = true → w.next = .asking ∨ w.next = .again
  thr : nameR w.next = 0 → w.there = true → w.next = .signing ∨ (w.next = .pushing ∧ w.done = true)
  bit : w.done = false → w.next = .taking → (r.set w.kind).testBit w.level = true
  none_ : w.done = false → w.next = .choosing ∨ w.next = .reading ∨ w.next = .worst → w.op = none ∧ w.kind = 0
theorem Pln.rack {r r' : RRack} {w : RWork} (h : Pln r w) (hn : nameR w.next ≠ 1) : Pln r' w :=
  { h with bit := fun _ hq => absurd (by rw [hq]; rfl) hn }
/-- The best level's bit is set. -/
theorem leastTo_bit (s : Nat) : ∀ n l, leastTo s n l < l + n → s.testBit (leastTo s n l) = true
  | 0, l, h => by rw [leastTo] at h; omega
  | n + 1, l, h => by
    rw [leastTo] at h ⊢
    by_cases hb : s.testBit l = true
    · rw [if_pos hb]; exact hb
    · rw [if_neg hb] at h ⊢
      exact leastTo_bit s n (l + 1) (by omega)
theorem choose_bit {r : RRack} (ok : OkRack r) (h : bestR r ≠ 8) : (r.set (chK2 r (bestR r))).testBit (bestR r) = true := by
  have hl := bestR_lt ok h
  have hb : (r.s0 ||| r.s1).testBit (bestR r) = true := leastTo_bit _ 8 0 (by unfold bestR at hl; omega)
  rw [Nat.testBit_or] at hb
  unfold chK2
  cases h0 : r.s0.testBit (bestR r) <;> cases h1 : r.s1.testBit (bestR r)
  · rw [h0, h1] at hb; simp at hb
  · simp; exact h1
  · simp; exact h0
  · simp
    unfold RRack.set
    split
    · exact h0
    · exact h1
theorem chR2_set (r : RRack) (l k : Nat) : (chR2 r l).set k = r.set k := by unfold chR2; split <;> rfl
theorem choose_phase (good : Nat → Bool) (r : RRack) (w : RWork) (M : List Nat) (u : Nat) (hn : w.next = .choosing) (hk : w.kind = 0) :
    phaseR good r w M u = if bestR r = 8 then (r, { w with level := 8, done := true, err := 7 }, M, u) else (chR2 r (bestR r), { w with level := bestR r, kind := chK2 r (bestR r), op := some (newD (r.at (chK2 r (bestR r)) (bestR r)) r.cap 2 0), next := .taking }, M, u) := by
  unfold phaseR
  rw [hn]
  by_cases h8 : bestR r = 8
  · simp [h8]
  · simp only [h8, if_false]
    unfold chR2 chK2 opR
    rw [hk]
theorem Pln.phase (good : Nat → Bool) {r : RRack} {w : RWork} {M : List Nat} (u : Nat) (h : Pln r w) (hd : w.done = false) (hs : Small M) (okr : OkRack r) (hk : w.kind < 2) (hl : w.level < 8) :
    Pln (phaseR good r w M u).1 (phaseR good r w M u).2.1 ∧ nameR (phaseR good r w M u).2.1.next = nameR w.next ∧ (nameR w.next = 2 → (phaseR good r w M u).1 = r) := by
  obtain ⟨f1, f2, f3, f4, f5, f6, f7, f8⟩ := h.fit hd
  have hat := atOk okr hk hl
  have hnew : ∀ kind x, kind ≤ 2 → x < 18446744073709551616 → OkOp (opR r w kind x) := fun kind x a b => OkOp.new hat.1 hat.2 okr.cap a b
  have h1 := h.ok
  have h2 := h.sheds
  have h3 := h.there
  have h4 := h.hold
  have h5 := h.thr
  have h6 := h.none_ hd
  cases hn : w.next with
  | pushing =>
    obtain ⟨o, q1, q2, q3⟩ := f4 (.inl hn)
    have oo := okStep (u := u) (h1 o q1) hs
    have ok' := stepD_kind o M u
    have HP : phaseR good r w M u = (if (stepD o M u).1.done = false then (r, { w with op := some (stepD o M u).1 }, (stepD o M u).2.1, (stepD o M u).2.2)
    else if (stepD o M u).1.err = 6 then
      (if w.full = true then (r, { w with op := some (stepD o M u).1, done := true, err := 6 }, (stepD o M u).2.1, (stepD o M u).2.2)
       else (r, { w with full := true, from_ := (stepD o M u).1.b, op := some (opR r w 2 0), next := .sweeping }, (stepD o M u).2.1, (stepD o M u).2.2))
    else
      (if put (r.set w.kind) w.level true ≠ r.set w.kind ∧ w.kind = 0 then (r.put w.kind (put (r.set w.kind) w.level true), { w with op := some (stepD o M u).1, there := true, next := .signing }, (stepD o M u).2.1, (stepD o M u).2.2)
       else (r.put w.kind (put (r.set w.kind) w.level true), { w with op := some (stepD o M u).1, there := true, done := true, err := 0 }, (stepD o M u).2.1, (stepD o M u).2.2))) := by
      unfold phaseR
      rw [hn, q1]
      rfl
    rw [HP]
    clear HP
    generalize stepD o M u = s at oo ok' ⊢
    rw [hn] at h2 h3 h4 h5
    have hh : w.holds = false := by cases e : w.holds with
      | false => rfl
      | true => have := h4 rfl e; simp at this
    have ht : w.there = false := by cases e : w.there with
      | false => rfl
      | true => have := h5 rfl e; simp [hd] at this
    split
    · rename_i hs'
      exact ⟨⟨fun _ => ⟨f1, f2, f3, fun _ => ⟨s.1, rfl, by rw [ok', q2], hs'⟩, fun q => by simp [hn] at q, fun q => by simp [hn] at q, fun q => by simp [hn] at q, fun q => by simp [hn] at q⟩, fun o' e => by cases e; exact oo, by simpa [hn] using h2, fun q => by simp [hn, nameR] at q, fun _ q => by simp [hh] at q, fun _ q => by simp [ht] at q, fun _ q => by simp [hn] at q, fun _ q => by simp [hn] at q⟩, by simp [hn], fun q => by simp [nameR] at q⟩
    · split
      · split
        · exact ⟨⟨fun q => by simp at q, fun o' e => by cases e; exact oo, by simpa [hn] using h2, fun q => by simp [hn, nameR] at q, fun _ q => by simp [hh] at q, fun _ q => by simp [ht] at q, fun q => by simp at q, fun q => by simp at q⟩, by simp [hn], fun q => by simp [nameR] at q⟩
        · exact ⟨⟨fun _ => ⟨f1, oo.b, f3, fun q => by simp at q, fun _ => ⟨opR r w 2 0, rfl, rfl, rfl⟩, fun q => by simp at q, fun q => by simp at q, fun q => by simp at q⟩, fun o' e => by cases e; exact hnew 2 0 (by omega) (by omega), by simpa [nameR] using h2, fun q => by simp [nameR] at q, fun _ q => by simp [hh] at q, fun _ q => by simp [ht] at q, fun _ q => by simp at q, fun _ q => by simp at q⟩, by simp [nameR], fun q => by simp [nameR] at q⟩
      · split
        · exact ⟨⟨fun _ => ⟨f1, f2, f3, fun q => by simp at q, fun q => by simp at q, fun q => by simp at q, fun q => by simp at q, fun q => by simp at q⟩, fun o' e => by cases e; exact oo, by simpa [nameR] using h2, fun q => by simp [nameR] at q, fun _ q => by simp [hh] at q, fun _ q => .inl rfl, fun _ q => by simp at q, fun _ q => by simp at q⟩, by simp [nameR], fun q => by simp [nameR] at q⟩
        · exact ⟨⟨fun q => by simp at q, fun o' e => by cases e; exact oo, by simpa [hn] using h2, fun q => by simp [hn, nameR] at q, fun _ q => by simp [hh] at q, fun _ q => .inr ⟨hn, rfl⟩, fun q => by simp at q, fun q => by simp at q⟩, by simp [hn], fun q => by simp [nameR] at q⟩
  | signing =>
    rw [show phaseR good r w M u = (r, { w with done := true, err := 0 }, setA M r.base r.s0, tick M r.base u) from by unfold phaseR; rw [hn]]
    exact ⟨⟨fun q => by simp at q, h1, h2, h3, h4, fun a b => (h5 a b).imp id (fun q => by rw [hn] at q; simp at q), fun q => by simp at q, fun q => by simp at q⟩, by simp [hn], fun q => by simp [nameR] at q⟩
  | sweeping =>
    obtain ⟨o, q1, q2, q3⟩ := f5 (.inl hn)
    have oo := okStep (u := u) (h1 o q1) hs
    have ok' := stepD_kind o M u
    have hse := steal_err M u q2 q3
    have HP : phaseR good r w M u = (if ((stepD o M u).1.steps = 1 ∧ ahd w.from_ (stepD o M u).1.t ≤ 0) ∨ (resD (stepD o M u).1).2 = 7 then (r, { w with op := some (opR r w 0 w.x), next := .pushing }, (stepD o M u).2.1, (stepD o M u).2.2)
    else if (resD (stepD o M u).1).2 = 8 then (r, { w with op := some (opR r w 2 0) }, (stepD o M u).2.1, (stepD o M u).2.2)
    else if (resD (stepD o M u).1).2 = 0 then (r, { w with op := some (stepD o M u).1, swept := (resD (stepD o M u).1).1, holds := true, next := .asking }, (stepD o M u).2.1, (stepD o M u).2.2)
    else (r, { w with op := some (stepD o M u).1 }, (stepD o M u).2.1, (stepD o M u).2.2)) := by
      unfold phaseR
      rw [hn, q1]
      rfl
    rw [HP]
    clear HP
    generalize stepD o M u = s at oo ok' hse ⊢
    rw [hn] at h2 h3 h4 h5
    have hh : w.holds = false := by cases e : w.holds with
      | false => rfl
      | true => have := h4 rfl e; simp at this
    have ht : w.there = false := by cases e : w.there with
      | false => rfl
      | true => have := h5 rfl e; simp at this
    split
    · exact ⟨⟨fun _ => ⟨f1, f2, f3, fun _ => ⟨opR r w 0 w.x, rfl, rfl, rfl⟩, fun q => by simp at q, fun q => by simp at q, fun q => by simp at q, fun q => by simp at q⟩, fun o' e => by cases e; exact hnew 0 w.x (by omega) f1, by simpa [nameR] using h2, fun q => by simp [nameR] at q, fun _ q => by simp [hh] at q, fun _ q => by simp [ht] at q, fun _ q => by simp at q, fun _ q => by simp at q⟩, by simp [nameR], fun q => by simp [nameR] at q⟩
    · rename_i n7
      split
      · exact ⟨⟨fun _ => ⟨f1, f2, f3, fun q => by simp [hn] at q, fun _ => ⟨opR r w 2 0, rfl, rfl, rfl⟩, fun q => by simp [hn] at q, fun q => by simp [hn] at q, fun q => by simp [hn] at q⟩, fun o' e => by cases e; exact hnew 2 0 (by omega) (by omega), by simpa [hn] using h2, fun q => by simp [hn, nameR] at q, fun _ q => by simp [hh] at q, fun _ q => by simp [ht] at q, fun _ q => by simp [hn] at q, fun _ q => by simp [hn] at q⟩, by simp [hn], fun q => by simp [nameR] at q⟩
      · rename_i n8
        have hx' : (resD s.1).1 < 18446744073709551616 := by unfold resD; split; exact Nat.zero_lt_succ _; split; exact Nat.zero_lt_succ _; exact oo.x
        split
        · exact ⟨⟨fun _ => ⟨f1, f2, hx', fun q => by simp at q, fun q => by simp at q, fun q => by simp at q, fun q => by simp at q, fun q => by simp at q⟩, fun o' e => by cases e; exact oo, by simpa [nameR] using h2, fun q => by simp [nameR] at q, fun _ _ => .inl rfl, fun _ q => by simp [ht] at q, fun _ q => by simp at q, fun _ q => by simp at q⟩, by simp [nameR], fun q => by simp [nameR] at q⟩
        · rename_i n0
          have hnd : s.1.done = false := by
            cases e : s.1.done with
            | false => rfl
            | true =>
              have he : (resD s.1).2 = s.1.err := resD_err e
              rw [he] at n7 n8 n0
              rcases hse e with q | q | q
              · exact absurd q n0
              · exact absurd (.inr q) n7
              · exact absurd q n8
          exact ⟨⟨fun _ => ⟨f1, f2, f3, fun q => by simp [hn] at q, fun _ => ⟨s.1, rfl, by rw [ok', q2], hnd⟩, fun q => by simp [hn] at q, fun q => by simp [hn] at q, fun q => by simp [hn] at q⟩, fun o' e => by cases e; exact oo, by simpa [hn] using h2, fun q => by simp [hn, nameR] at q, fun _ q => by simp [hh] at q, fun _ q => by simp [ht] at q, fun _ q => by simp [hn] at q, fun _ q => by simp [hn] at q⟩, by simp [hn], fun q => by simp [nameR] at q⟩
  | asking =>
    rw [show phaseR good r w M u = (if good w.swept = true then (r, { w with op := some (opR r w 0 w.swept), next := .again }, M, u) else (r, { w with holds := false, op := some (opR r w 2 0), next := .sweeping }, M, u)) from by unfold phaseR; rw [hn]]
    rw [hn] at h2 h3 h4 h5
    have ht : w.there = false := by cases e : w.there with
      | false => rfl
      | true => have := h5 rfl e; simp at this
    split
    · exact ⟨⟨fun _ => ⟨f1, f2, f3, fun _ => ⟨_, rfl, rfl, rfl⟩, fun q => by simp at q, fun q => by simp at q, fun q => by simp at q, fun q => by simp at q⟩, fun o' e => by cases e; exact hnew 0 w.swept (by omega) f3, by simpa [nameR] using h2, fun q => by simp [nameR] at q, fun _ _ => .inr rfl, fun _ q => by simp [ht] at q, fun _ q => by simp at q, fun _ q => by simp at q⟩, by simp [nameR], fun q => by simp [nameR] at q⟩
    · exact ⟨⟨fun _ => ⟨f1, f2, f3, fun q => by simp at q, fun _ => ⟨_, rfl, rfl, rfl⟩, fun q => by simp at q, fun q => by simp at q, fun q => by simp at q⟩, fun o' e => by cases e; exact hnew 2 0 (by omega) (by omega), by simpa [nameR] using h2, fun q => by simp [nameR] at q, fun _ q => by simp at q, fun _ q => by simp [ht] at q, fun _ q => by simp at q, fun _ q => by simp at q⟩, by simp [nameR], fun q => by simp [nameR] at q⟩
  | again =>
    obtain ⟨o, q1, q2, q3⟩ := f4 (.inr hn)
    have oo := okStep (u := u) (h1 o q1) hs
    have ok' := stepD_kind o M u
    have HP : phaseR good r w M u = (if (stepD o M u).1.done = true then (r, { w with holds := false, op := some (opR r w 2 0), next := .sweeping }, (stepD o M u).2.1, (stepD o M u).2.2)
      else (r, { w with op := some (stepD o M u).1 }, (stepD o M u).2.1, (stepD o M u).2.2)) := by
      unfold phaseR
      rw [hn, q1]
      rfl
    rw [HP]
    clear HP
    generalize stepD o M u = s at oo ok' ⊢
    rw [hn] at h2 h3 h4 h5
    have ht : w.there = false := by cases e : w.there with
      | false => rfl
      | true => have := h5 rfl e; simp at this
    split
    · exact ⟨⟨fun _ => ⟨f1, f2, f3, fun q => by simp at q, fun _ => ⟨_, rfl, rfl, rfl⟩, fun q => by simp at q, fun q => by simp at q, fun q => by simp at q⟩, fun o' e => by cases e; exact hnew 2 0 (by omega) (by omega), by simpa [nameR] using h2, fun q => by simp [nameR] at q, fun _ q => by simp at q, fun _ q => by simp [ht] at q, fun _ q => by simp at q, fun _ q => by simp at q⟩, by simp [nameR], fun q => by simp [nameR] at q⟩
    · rename_i hs'
      have hs' : s.1.done = false := by simpa using hs'
      exact ⟨⟨fun _ => ⟨f1, f2, f3, fun _ => ⟨s.1, rfl, by rw [ok', q2], hs'⟩, fun q => by simp [hn] at q, fun q => by simp [hn] at q, fun q => by simp [hn] at q, fun q => by simp [hn] at q⟩, fun o' e => by cases e; exact oo, by simpa [hn] using h2, fun q => by simp [hn, nameR] at q, fun _ _ => .inr hn, fun _ q => by simp [ht] at q, fun _ q => by simp [hn] at q, fun _ q => by simp [hn] at q⟩, by simp [hn], fun q => by simp [nameR] at q⟩
  | choosing =>
    obtain ⟨z1, z2⟩ := h6 (.inl hn)
    rw [choose_phase good r w M u hn z2]
    have hb := choose_bit okr
    have hbl := bestR_lt okr
    rw [hn] at h2 h3 h4 h5
    split
    · exact ⟨⟨fun q => by simp at q, h1, by simpa [hn] using h2, fun _ => h3 (by decide), fun q => by simp [hn, nameR] at q, fun q => by simp [hn, nameR] at q, fun q => by simp at q, fun q => by simp at q⟩, by simp [hn], fun q => by simp [nameR] at q⟩
    · rename_i n8
      have a8 := atOk okr (chK2_lt okr (bestR r)) (hbl n8)
      exact ⟨⟨fun _ => ⟨f1, f2, f3, fun q => by simp at q, fun _ => ⟨_, rfl, rfl, rfl⟩, fun q => by simp at q, fun q => by simp at q, fun q => by simp at q⟩, fun o' e => by cases e; exact OkOp.new a8.1 a8.2 okr.cap (by omega) (by omega), by simpa [nameR] using h2, fun _ => h3 (by decide), fun q => by simp [nameR] at q, fun q => by simp [nameR] at q, fun _ _ => by rw [chR2_set]; exact hb n8, fun _ q => by simp at q⟩, by simp [nameR], fun q => by simp [nameR] at q⟩
  | taking =>
    obtain ⟨o, q1, q2, q3⟩ := f5 (.inr (.inl hn))
    have oo := okStep (u := u) (h1 o q1) hs
    have ok' := stepD_kind o M u
    have HP : phaseR good r w M u = (if (stepD o M u).1.done = false then (r, { w with op := some (stepD o M u).1 }, (stepD o M u).2.1, (stepD o M u).2.2)
      else if (resD (stepD o M u).1).2 ≠ 7 then (r, { w with op := some (stepD o M u).1, x := (resD (stepD o M u).1).1, done := true, err := (resD (stepD o M u).1).2 }, (stepD o M u).2.1, (stepD o M u).2.2)
      else (if put (r.set w.kind) w.level false ≠ r.set w.kind ∧ w.kind = 0 then (r.put w.kind (put (r.set w.kind) w.level false), { w with op := some (stepD o M u).1, next := .emptying }, (stepD o M u).2.1, (stepD o M u).2.2)
       else (r.put w.kind (put (r.set w.kind) w.level false), { w with op := some (stepD o M u).1, done := true, err := 8 }, (stepD o M u).2.1, (stepD o M u).2.2))) := by
      unfold phaseR
      rw [hn, q1]
      rfl
    rw [HP]
    clear HP
    have hb := h.bit hd hn
    generalize stepD o M u = s at oo ok' ⊢
    rw [hn] at h2 h3 h4 h5
    split
    · rename_i hs'
      exact ⟨⟨fun _ => ⟨f1, f2, f3, fun q => by simp [hn] at q, fun _ => ⟨s.1, rfl, by rw [ok', q2], hs'⟩, fun q => by simp [hn] at q, fun q => by simp [hn] at q, fun q => by simp [hn] at q⟩, fun o' e => by cases e; exact oo, by simpa [hn] using h2, fun _ => h3 (by decide), fun q => by simp [hn, nameR] at q, fun q => by simp [hn, nameR] at q, fun _ _ => hb, fun _ q => by simp [hn] at q⟩, by simp [hn], fun q => by simp [nameR] at q⟩
    · split
      · exact ⟨⟨fun q => by simp at q, fun o' e => by cases e; exact oo, by simpa [hn] using h2, fun _ => h3 (by decide), fun q => by simp [hn, nameR] at q, fun q => by simp [hn, nameR] at q, fun q => by simp at q, fun q => by simp at q⟩, by simp [hn], fun q => by simp [nameR] at q⟩
      · split
        · exact ⟨⟨fun _ => ⟨f1, f2, f3, fun q => by simp at q, fun q => by simp at q, fun q => by simp at q, fun q => by simp at q, fun q => by simp at q⟩, fun o' e => by cases e; exact oo, by simpa [nameR] using h2, fun _ => h3 (by decide), fun q => by simp [nameR] at q, fun q => by simp [nameR] at q, fun _ q => by simp at q, fun _ q => by simp at q⟩, by simp [nameR], fun q => by simp [nameR] at q⟩
        · exact ⟨⟨fun q => by simp at q, fun o' e => by cases e; exact oo, by simpa [hn] using h2, fun _ => h3 (by decide), fun q => by simp [hn, nameR] at q, fun q => by simp [hn, nameR] at q, fun q => by simp at q, fun q => by simp at q⟩, by simp [hn], fun q => by simp [nameR] at q⟩
  | emptying =>
    rw [show phaseR good r w M u = (r, { w with done := true, err := 8 }, setA M r.base r.s0, tick M r.base u) from by unfold phaseR; rw [hn]]
    exact ⟨⟨fun q => by simp at q, h1, h2, h3, h4, fun a b => by simp [hn, nameR] at a, fun q => by simp at q, fun q => by simp at q⟩, by simp [hn], fun q => by simp [nameR] at q⟩
  | reading =>
    obtain ⟨z1, z2⟩ := h6 (.inr (.inl hn))
    have HP : phaseR good r w M u = (if getA M r.base % 256 = 0 then (r, { w with done := true, err := 7 }, M, tick M r.base u)
    else (r, { w with level := leastTo (getA M r.base % 256) 8 0, op := some (opR r { w with level := leastTo (getA M r.base % 256) 8 0 } 2 0), next := .robbing }, M, tick M r.base u)) := by
      unfold phaseR
      rw [hn]
    rw [HP]
    clear HP
    rw [hn] at h2 h3 h4 h5
    have hs256 : getA M r.base % 256 < 256 := by omega
    generalize getA M r.base % 256 = s at hs256 ⊢
    split
    · exact ⟨⟨fun q => by simp at q, h1, by simpa [hn] using h2, fun _ => h3 (by decide), fun q => by simp [hn, nameR] at q, fun q => by simp [hn, nameR] at q, fun q => by simp at q, fun q => by simp at q⟩, by simp [hn], fun _ => rfl⟩
    · rename_i n0
      have l8 : leastTo s 8 0 < 8 := (by decide +kernel : ∀ x : Fin 256, x.val ≠ 0 → leastTo x.val 8 0 < 8) ⟨s, hs256⟩ n0
      have a8 := atOk okr hk l8
      exact ⟨⟨fun _ => ⟨f1, f2, f3, fun q => by simp at q, fun _ => ⟨_, rfl, rfl, rfl⟩, fun q => by simp at q, fun q => by simp at q, fun q => by simp at q⟩, fun o' e => by cases e; exact OkOp.new a8.1 a8.2 okr.cap (by omega) (by omega), by simpa [nameR] using h2, fun _ => h3 (by decide), fun q => by simp [nameR] at q, fun q => by simp [nameR] at q, fun _ q => by simp at q, fun _ q => by simp at q⟩, by simp [nameR], fun _ => rfl⟩
  | robbing =>
    obtain ⟨o, q1, q2, q3⟩ := f5 (.inr (.inr (.inl hn)))
    have oo := okStep (u := u) (h1 o q1) hs
    have ok' := stepD_kind o M u
    have HP : phaseR good r w M u = (if (stepD o M u).1.done = true then (r, { w with op := some (stepD o M u).1, x := (resD (stepD o M u).1).1, done := true, err := (resD (stepD o M u).1).2 }, (stepD o M u).2.1, (stepD o M u).2.2)
      else if 3 ≤ (stepD o M u).1.steps then (r, { w with op := some (stepD o M u).1, next := .minding }, (stepD o M u).2.1, (stepD o M u).2.2)
      else (r, { w with op := some (stepD o M u).1 }, (stepD o M u).2.1, (stepD o M u).2.2)) := by
      unfold phaseR
      rw [hn, q1]
      rfl
    rw [HP]
    clear HP
    generalize stepD o M u = s at oo ok' ⊢
    rw [hn] at h2 h3 h4 h5
    split
    · exact ⟨⟨fun q => by simp at q, fun o' e => by cases e; exact oo, by simpa [hn] using h2, fun _ => h3 (by decide), fun q => by simp [hn, nameR] at q, fun q => by simp [hn, nameR] at q, fun q => by simp at q, fun q => by simp at q⟩, by simp [hn], fun _ => rfl⟩
    · rename_i hs'
      have hs' : s.1.done = false := by simpa using hs'
      split
      · rename_i h3s
        exact ⟨⟨fun _ => ⟨f1, f2, f3, fun q => by simp at q, fun _ => ⟨s.1, rfl, by rw [ok', q2], hs'⟩, fun _ => ⟨s.1, rfl, h3s⟩, fun q => by simp at q, fun q => by simp at q⟩, fun o' e => by cases e; exact oo, by simpa [nameR] using h2, fun _ => h3 (by decide), fun q => by simp [nameR] at q, fun q => by simp [nameR] at q, fun _ q => by simp at q, fun _ q => by simp at q⟩, by simp [nameR], fun _ => rfl⟩
      · exact ⟨⟨fun _ => ⟨f1, f2, f3, fun q => by simp [hn] at q, fun _ => ⟨s.1, rfl, by rw [ok', q2], hs'⟩, fun q => by simp [hn] at q, fun q => by simp [hn] at q, fun q => by simp [hn] at q⟩, fun o' e => by cases e; exact oo, by simpa [hn] using h2, fun _ => h3 (by decide), fun q => by simp [hn, nameR] at q, fun q => by simp [hn, nameR] at q, fun _ q => by simp [hn] at q, fun _ q => by simp [hn] at q⟩, by simp [hn], fun _ => rfl⟩
  | minding =>
    obtain ⟨o, q1, q2, q3⟩ := f5 (.inr (.inr (.inr hn)))
    have HP : phaseR good r w M u = (if good o.x = true then (r, { w with next := .robbing }, M, u) else (r, { w with next := .robbing, done := true, err := 10 }, M, u)) := by
      unfold phaseR
      rw [hn, q1]
      rfl
    rw [HP]
    clear HP
    rw [hn] at h2 h3 h4 h5
    split
    · exact ⟨⟨fun _ => ⟨f1, f2, f3, fun q => by simp at q, fun _ => ⟨o, q1, q2, q3⟩, fun q => by simp at q, fun q => by simp at q, fun q => by simp at q⟩, h1, by simpa [nameR] using h2, fun _ => h3 (by decide), fun q => by simp [nameR] at q, fun q => by simp [nameR] at q, fun _ q => by simp at q, fun _ q => by simp at q⟩, by simp [nameR], fun _ => rfl⟩
    · exact ⟨⟨fun q => by simp at q, h1, by simpa [nameR] using h2, fun _ => h3 (by decide), fun q => by simp [nameR] at q, fun q => by simp [nameR] at q, fun q => by simp at q, fun q => by simp at q⟩, by simp [nameR], fun _ => rfl⟩
  | worst =>
    obtain ⟨z1, z2⟩ := h6 (.inr (.inr hn))
    have hml : ∀ l, worstOf r.s0 = some l → l < 8 := by
      intro l hw
      unfold worstOf at hw
      have := List.mem_of_getLast? hw
      exact List.mem_range.1 (List.mem_filter.1 this).1
    have HP : phaseR good r w M u = (match worstOf r.s0 with
    | none => (r, { w with done := true, err := 7 }, M, u)
    | some l => (r, { w with level := l, op := some (opR r { w with level := l } 1 0), next := .popping }, M, u)) := by
      unfold phaseR
      rw [hn]
      cases worstOf r.s0 <;> rfl
    rw [HP]
    clear HP
    rw [hn] at h2 h3 h4 h5
    cases hw : worstOf r.s0 with
    | none => exact ⟨⟨fun q => by simp at q, h1, by simpa [hn] using h2, fun _ => h3 (by decide), fun q => by simp [hn, nameR] at q, fun q => by simp [hn, nameR] at q, fun q => by simp at q, fun q => by simp at q⟩, by simp [hn], fun _ => rfl⟩
    | some l =>
      have a8 := atOk okr hk (hml l hw)
      exact ⟨⟨fun _ => ⟨f1, f2, f3, fun q => by simp at q, fun q => by simp at q, fun q => by simp at q, fun _ => ⟨_, rfl, rfl, rfl⟩, fun q => by simp at q⟩, fun o' e => by cases e; exact OkOp.new a8.1 a8.2 okr.cap (by omega) (by omega), by simpa [nameR] using h2, fun _ => h3 (by decide), fun q => by simp [nameR] at q, fun q => by simp [nameR] at q, fun _ q => by simp at q, fun _ q => by simp at q⟩, by simp [nameR], fun q => by simp [nameR] at q⟩
  | popping =>
    obtain ⟨o, q1, q2, q3⟩ := f7 hn
    have oo := okStep (u := u) (h1 o q1) hs
    have ok' := stepD_kind o M u
    have HP : phaseR good r w M u = (if (stepD o M u).1.done = true then (r, { w with op := some (stepD o M u).1, x := (resD (stepD o M u).1).1, done := true, err := (resD (stepD o M u).1).2 }, (stepD o M u).2.1, (stepD o M u).2.2)
      else (r, { w with op := some (stepD o M u).1 }, (stepD o M u).2.1, (stepD o M u).2.2)) := by
      unfold phaseR
      rw [hn, q1]
      rfl
    rw [HP]
    clear HP
    generalize stepD o M u = s at oo ok' ⊢
    rw [hn] at h2 h3 h4 h5
    split
    · exact ⟨⟨fun q => by simp at q, fun o' e => by cases e; exact oo, by simpa [hn] using h2, fun _ => h3 (by decide), fun q => by simp [hn, nameR] at q, fun q => by simp [hn, nameR] at q, fun q => by simp at q, fun q => by simp at q⟩, by simp [hn], fun q => by simp [nameR] at q⟩
    · rename_i hs'
      have hs' : s.1.done = false := by simpa using hs'
      exact ⟨⟨fun _ => ⟨f1, f2, f3, fun q => by simp [hn] at q, fun q => by simp [hn] at q, fun q => by simp [hn] at q, fun _ => ⟨s.1, rfl, by rw [ok', q2], hs'⟩, fun q => by simp [hn] at q⟩, fun o' e => by cases e; exact oo, by simpa [hn] using h2, fun _ => h3 (by decide), fun q => by simp [hn, nameR] at q, fun q => by simp [hn, nameR] at q, fun _ q => by simp [hn] at q, fun _ q => by simp [hn] at q⟩, by simp [hn], fun q => by simp [nameR] at q⟩
/-- How a document's work stands beside the page's: its word, where it stands, its deque's work. -/
structure Doc (r : RRack) (w : RWork) (xq at_ : Nat) (ob : Option Nat) (oo : Option DOp) : Prop where
  xe : w.err = 0 → xq = w.x
  st : (oo = w.op ∧ (w.done = false → at_ = atQ w ∧ xq = w.x)) ∨ (w.done = false ∧ w.next = .pushing ∧ at_ = 0 ∧ ob = none ∧ oo = none ∧ xq = w.x ∧ w.op = some (newD (r.at w.kind w.level) r.cap 0 w.x))
theorem Doc.is {r : RRack} {w : RWork} {xq at_ : Nat} {ob : Option Nat} {oo : Option DOp} (h : Doc r w xq at_ ob oo) (hd : w.done = false) (hn : w.next ≠ .pushing) : oo = w.op ∧ at_ = atQ w ∧ xq = w.x := by
  rcases h.st with ⟨a, b⟩ | ⟨_, b, _⟩
  · exact ⟨a, b hd⟩
  · exact absurd b hn
theorem Doc.x {r : RRack} {w : RWork} {xq at_ : Nat} {ob : Option Nat} {oo : Option DOp} (h : Doc r w xq at_ ob oo) (hd : w.done = false) : xq = w.x := by
  rcases h.st with ⟨_, b⟩ | ⟨_, _, _, _, _, b, _⟩
  · exact (b hd).2
  · exact b
theorem Doc.op {r : RRack} {w : RWork} {xq at_ : Nat} {ob : Option Nat} {oo : Option DOp} (h : Doc r w xq at_ ob oo) (hn : w.next ≠ .pushing) : oo = w.op := by
  rcases h.st with ⟨a, _⟩ | ⟨_, b, _⟩
  · exact a
  · exact absurd b hn
theorem atQ_of {w : RWork} {n : RNext} (h : w.next = n) : atQ w = atQ { w with next := n } := by cases w; cases h; rfl
theorem ROpAt.none_of {W : World} {ob : Option Nat} (h : ROpAt W ob none) : ob = none := by cases ob with
  | none => rfl
  | some g => exact h.elim
theorem ROpAt.some_of {W : World} {ob : Option Nat} {o : DOp} (h : ROpAt W ob (some o)) : ∃ g, ob = some g := by cases ob with
  | none => exact h.elim
  | some g => exact ⟨g, rfl⟩
theorem atQ_steps (w : RWork) (n : Nat) : atQ { w with steps := n } = atQ w := rfl
theorem Pln.count {r : RRack} {w : RWork} (h : Pln r w) (n : Nat) : Pln r { w with steps := n } := ⟨h.fit, h.ok, h.sheds, h.there, h.hold, h.thr, h.bit, h.none_⟩
theorem Doc.count {r : RRack} {w : RWork} {xq at_ : Nat} {ob : Option Nat} {oo : Option DOp} (h : Doc r w xq at_ ob oo) (n : Nat) : Doc r { w with steps := n } xq at_ ob oo := ⟨h.xe, h.st⟩
/-- What a step of a document's work leaves. -/
def QStepped (W W' : World) (qb sb nm nw name : Nat) (bad : Value) (ob : Option Nat) (s : RRack × RWork × List Nat × Nat) : Prop :=
  ∃ xq' at' ob' oo', Qig W' qb sb nm nw name xq' bad at' ob' oo' s.1 s.2.1 s.2.2.1 s.2.2.2 ∧ Doc s.1 s.2.1 xq' at' ob' oo' ∧ Chg (qb :: sb :: nm :: nw :: ob.toList) W W' ∧ (ob' = ob ∨ ∃ g, ob' = some g ∧ W.heap.size ≤ g)
end Go.Proofs.YtjdbgohfedjifaaGreatDoor
