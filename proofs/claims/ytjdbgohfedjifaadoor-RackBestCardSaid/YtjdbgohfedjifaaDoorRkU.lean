/- rack: the queues of a rack that its owner works on alone, plainly. -/
import Derived.Test.YtjdbgohfedjifaaDoorRkT
namespace Bosun
open Go
theorem ptb_ne (s : Nat) (b : Bool) {j l : Nat} (hj : j < 64) (h : j ≠ l) : (put s (l : Int) b).testBit j = s.testBit j := by
  rw [put_testBit, if_neg (by omega)]; simp [hj]
theorem ptb_eq (s : Nat) (b : Bool) {l : Nat} (hl : l < 64) : (put s (l : Int) b).testBit l = b := by
  rw [put_testBit, if_pos rfl]; simp [hl]
/-- Where a deque begins. -/
def bas (cap k l : Nat) : Nat := 1 + (8 * k + l) * (2 + cap)
theorem bas_at {r : RRack} (h : r.base = 0) (k l : Nat) : r.at k l = ((bas r.cap k l : Nat) : Int) := by unfold RRack.at bas; rw [h]; push_cast; omega
theorem bas_pos (cap k l : Nat) : 0 < bas cap k l := by unfold bas; omega
theorem bas_end {cap k l : Nat} (hk : k < 2) (hl : l < 8) : bas cap k l + 2 + cap ≤ 1 + 16 * (2 + cap) := by
  have : (8 * k + l + 1) * (2 + cap) ≤ 16 * (2 + cap) := Nat.mul_le_mul_right _ (by omega)
  rw [Nat.add_mul] at this
  unfold bas; omega
theorem bas_apart {cap k l k' l' : Nat} (hl : l < 8) (hl' : l' < 8) (h : ¬ (k' = k ∧ l' = l)) : bas cap k l + 2 + cap ≤ bas cap k' l' ∨ bas cap k' l' + 2 + cap ≤ bas cap k l := by
  unfold bas
  rcases Nat.lt_or_ge (8 * k + l) (8 * k' + l') with c | c
  · left
    have : (8 * k + l + 1) * (2 + cap) ≤ (8 * k' + l') * (2 + cap) := Nat.mul_le_mul_right _ (by omega)
    rw [Nat.add_mul] at this; omega
  · right
    have : (8 * k' + l' + 1) * (2 + cap) ≤ (8 * k + l) * (2 + cap) := Nat.mul_le_mul_right _ (by omega)
    rw [Nat.add_mul] at this; omega
def updQ (Q : Nat → Nat → List Nat) (k l : Nat) (L : List Nat) : Nat → Nat → List Nat := fun k' l' => if k' = k ∧ l' = l then L else Q k' l'
theorem updQ_same (Q : Nat → Nat → List Nat) (k l : Nat) (L : List Nat) : updQ Q k l L k l = L := if_pos ⟨rfl, rfl⟩
theorem updQ_other (Q : Nat → Nat → List Nat) {k l k' l' : Nat} (L : List Nat) (h : ¬ (k' = k ∧ l' = l)) : updQ Q k l L k' l' = Q k' l' := if_neg h
theorem put_set (r : RRack) {k k' : Nat} (s : Nat) (hk : k < 2) (hk' : k' < 2) : (r.put k s).set k' = if k' = k then s else r.set k' := by
  unfold RRack.put RRack.set
  by_cases h : k = 0
  · rw [if_pos h]; subst h; by_cases h' : k' = 0
    · subst h'; simp
    · simp [h']
  · obtain rfl : k = 1 := by omega
    by_cases h' : k' = 0
    · subst h'; simp
    · obtain rfl : k' = 1 := by omega
      simp
theorem put_rest (r : RRack) (k s : Nat) : (r.put k s).base = r.base ∧ (r.put k s).cap = r.cap ∧ (r.put k s).turn = r.turn := by unfold RRack.put; split <;> exact ⟨rfl, rfl, rfl⟩
def sumTo (f : Nat → Nat) : Nat → Nat
  | 0 => 0
  | n + 1 => sumTo f n + f n
theorem sumTo_le {f g : Nat → Nat} {c0 d : Nat} : ∀ {n : Nat}, (∀ c, c < n → c ≠ c0 → f c ≤ g c) → (c0 < n → f c0 ≤ g c0 + d) → sumTo f n ≤ sumTo g n + d
  | 0, _, _ => by simp [sumTo]
  | n + 1, h, h0 => by
    unfold sumTo
    by_cases e : c0 = n
    · have := sumTo_le (n := n) (c0 := n) (d := 0) (f := f) (g := g) (fun c hc _ => h c (by omega) (by omega)) (fun h => absurd h (by omega))
      have := h0 (by omega); subst e; omega
    · have := sumTo_le (n := n) (c0 := c0) (d := d) (f := f) (g := g) (fun c hc hn => h c (by omega) hn) (fun hc => h0 (by omega))
      have := h n (by omega) (Ne.symm e); omega
theorem sumTo_lt {f g : Nat → Nat} {c0 n : Nat} (h : ∀ c, c < n → c ≠ c0 → f c ≤ g c) (hc : c0 < n) (h0 : f c0 + 1 ≤ g c0) : sumTo f n + 1 ≤ sumTo g n := by
  induction n with
  | zero => omega
  | succ n ih =>
    unfold sumTo
    by_cases e : c0 = n
    · have := sumTo_le (n := n) (c0 := n) (d := 0) (f := f) (g := g) (fun c hc _ => h c (by omega) (by omega)) (fun h => absurd h (by omega))
      subst e; omega
    · have := ih (fun c hc hn => h c (by omega) hn) (by omega)
      have := h n (by omega) (Ne.symm e); omega
/-- How much is in a rack: its words, and its bits. -/
def cel (r : RRack) (Q : Nat → Nat → List Nat) (c : Nat) : Nat := (Q (c / 8) (c % 8)).length + (if (r.set (c / 8)).testBit (c % 8) = true then 1 else 0)
def msr (r : RRack) (Q : Nat → Nat → List Nat) : Nat := sumTo (cel r Q) 16
theorem leastTo_spec (s : Nat) : ∀ (n l : Nat), l ≤ leastTo s n l ∧ leastTo s n l ≤ l + n ∧ (∀ j, l ≤ j → j < leastTo s n l → s.testBit j = false) ∧ (leastTo s n l < l + n → s.testBit (leastTo s n l) = true)
  | 0, l => ⟨Nat.le_refl _, Nat.le_refl _, fun j h1 h2 => absurd h2 (by simp [leastTo]; omega), fun h => absurd h (by simp [leastTo])⟩
  | n + 1, l => by
    unfold leastTo
    by_cases hb : s.testBit l = true
    · rw [if_pos hb]; exact ⟨Nat.le_refl _, by omega, fun j h1 h2 => by omega, fun _ => hb⟩
    · rw [if_neg hb]
      obtain ⟨h1, h2, h3, h4⟩ := leastTo_spec s n (l + 1)
      refine ⟨by omega, by omega, fun j a1 a2 => ?_, fun h => h4 (by omega)⟩
      by_cases e : j = l
      · subst e; simpa using hb
      · exact h3 j (by omega) a2
theorem bestR_spec (r : RRack) : bestR r ≤ 8 ∧ (∀ k j, k < 2 → j < bestR r → (r.set k).testBit j = false) ∧ (bestR r < 8 → r.turn < 2 → (r.set (chK r (bestR r))).testBit (bestR r) = true) := by
  obtain ⟨h1, h2, h3, h4⟩ := leastTo_spec (r.s0 ||| r.s1) 8 0
  refine ⟨by unfold bestR; omega, fun k j hk hj => ?_, fun hl ht => ?_⟩
  · have := h3 j (by omega) hj
    rw [Nat.testBit_or, Bool.or_eq_false_iff] at this
    unfold RRack.set; split; exact this.1; exact this.2
  · have hb := h4 (by unfold bestR at hl; omega)
    change (r.s0 ||| r.s1).testBit (bestR r) = true at hb
    rw [Nat.testBit_or] at hb
    unfold chK
    by_cases hab : (r.s0.testBit (bestR r) && r.s1.testBit (bestR r)) = true
    · rw [if_pos hab]
      rw [Bool.and_eq_true] at hab
      unfold RRack.set; split; exact hab.1; exact hab.2
    · rw [if_neg hab]
      by_cases hb1 : r.s1.testBit (bestR r) = true
      · rw [if_pos hb1]; exact hb1
      · rw [if_neg hb1]; show r.s0.testBit _ = true; simpa [hb1] using hb
/-- A rack's queues. N: how many words were put. -/
structure RB (r : RRack) (M : List Nat) (Q : Nat → Nat → List Nat) (N : Nat) : Prop where
  base : r.base = 0
  turn : r.turn < 2
  q : ∀ k l, k < 2 → l < 8 → ∃ t, SQ M (bas r.cap k l) r.cap t (Q k l) ∧ t + (Q k l).length ≤ N
  s : ∀ k l, k < 2 → l < 8 → Q k l ≠ [] → (r.set k).testBit l = true
  m : msr r Q ≤ 2 * N
theorem SQ.away {M M' : List Nat} {B cap t : Nat} {L : List Nat} {b : Int} {B' : Nat} (h : SQ M B cap t L) (e : M'.length = M.length ∧ ∀ a : Int, a ≠ b → (a < B' ∨ (B' + 2 + cap : Nat) ≤ a) → getA M' a = getA M a) (hb : b < B) (ha : B + 2 + cap ≤ B' ∨ B' + 2 + cap ≤ B) : SQ M' B cap t L :=
  h.keep e.1 fun a h1 h2 => e.2 a (by omega) (by rcases ha with h | h; left; omega; right; omega)
end Bosun
namespace Go.Proofs.YtjdbgohfedjifaaDoor
open Go.RowKit Bosun
theorem rb_put {r : RRack} {M : List Nat} {Q : Nat → Nat → List Nat} {N : Nat} (h : RB r M Q N) (good : Nat → Bool) (u : Nat) {k l : Nat} (x : Nat) (hk : k < 2) (hl : l < 8) (hN : N < r.cap) (hc : r.cap ≤ 256) :
    ∃ n, n ≤ 5 ∧ Run good n (r, ⟨.pushing, x, l, k, some (newD (r.at k l) r.cap 0 x), 0, 0, false, false, false, false, 0, false, 0⟩, M, u) fun s =>
      s.1 = r.put k (put (r.set k) l true) ∧ s.2.1.done = true ∧ resR s.2.1 = (x, (l : Int), 0) ∧ RB s.1 s.2.2.1 (updQ Q k l (Q k l ++ [x])) (N + 1) := by
  obtain ⟨t, hq, ht⟩ := h.q k l hk hl
  have hb0 := bas_pos r.cap k l
  obtain ⟨n, a1, a2⟩ := put_run good (r := r) (k := k) (l := l) (x := x) u hq (by omega) (by omega) (by rw [h.base]; omega)
  rw [bas_at h.base]
  refine ⟨n, a1, a2.mono ?_⟩
  rintro ⟨r', w', M', u'⟩ ⟨hr, a3, a4, a5, a6⟩
  simp only at hr a3 a4 a5 a6
  subst hr
  refine ⟨rfl, a3, a4, ?_, ?_, ?_, ?_, ?_⟩
  · rw [(put_rest _ _ _).1]; exact h.base
  · rw [(put_rest _ _ _).2.2]; exact h.turn
  · intro k' l' hk' hl'
    rw [(put_rest _ _ _).2.1]
    by_cases e : k' = k ∧ l' = l
    · obtain ⟨rfl, rfl⟩ := e
      rw [updQ_same]
      exact ⟨t, a5, by simp; omega⟩
    · rw [updQ_other _ _ e]
      obtain ⟨t', hq', ht'⟩ := h.q k' l' hk' hl'
      have := bas_pos r.cap k' l'
      exact ⟨t', hq'.away a6 (by rw [h.base]; omega) (by rcases bas_apart (cap := r.cap) hl hl' e with c | c; right; exact c; left; exact c), by omega⟩
  · intro k' l' hk' hl' hne
    rw [put_set r _ hk hk']
    by_cases e : k' = k ∧ l' = l
    · obtain ⟨rfl, rfl⟩ := e
      rw [if_pos rfl, put_testBit]; simp; omega
    · rw [updQ_other _ _ e] at hne
      have := h.s k' l' hk' hl' hne
      by_cases e1 : k' = k
      · subst e1
        rw [if_pos rfl, put_testBit, if_neg (by omega), this]; simp; omega
      · rw [if_neg e1]; exact this
  · refine Nat.le_trans (sumTo_le (c0 := 8 * k + l) (d := 2) (g := cel r Q) (fun c hc hn => ?_) (fun _ => ?_)) (by have := h.m; unfold msr at this; omega)
    · have e : ¬ (c / 8 = k ∧ c % 8 = l) := by omega
      unfold cel
      rw [updQ_other _ _ e, put_set r _ hk (by omega)]
      by_cases e1 : c / 8 = k
      · have e2 : c % 8 ≠ l := fun x => e ⟨e1, x⟩
        have e3 : c % 8 < 64 := by omega
        rw [if_pos e1, ptb_ne _ _ e3 e2, ← e1]; exact Nat.le_refl _
      · rw [if_neg e1]; exact Nat.le_refl _
    · unfold cel
      rw [show (8 * k + l) / 8 = k by omega, show (8 * k + l) % 8 = l by omega, updQ_same]
      simp only [List.length_append, List.length_cons, List.length_nil]
      split <;> split <;> omega
/-- A take of a rack: none, one, or a miss. -/
theorem rb_take {r : RRack} {M : List Nat} {Q : Nat → Nat → List Nat} {N : Nat} (h : RB r M Q N) (good : Nat → Bool) (u : Nat) :
    (bestR r = 8 ∧ (∀ k l, k < 2 → l < 8 → Q k l = []) ∧ Run good 1 (r, takeW, M, u) fun s => s.1 = r ∧ s.2.1.done = true ∧ resR s.2.1 = (0, 8, 7) ∧ s.2.2.1 = M) ∨
    (bestR r < 8 ∧ chK r (bestR r) < 2 ∧ (∀ k l, k < 2 → l < 8 → Q k l ≠ [] → bestR r ≤ l) ∧ ∃ x L, Q (chK r (bestR r)) (bestR r) = x :: L ∧ Run good 5 (r, takeW, M, u) fun s => s.2.1.done = true ∧ resR s.2.1 = (x, (bestR r : Int), 0) ∧
      RB s.1 s.2.2.1 (updQ Q (chK r (bestR r)) (bestR r) L) N ∧ s.1.cap = r.cap ∧ msr s.1 (updQ Q (chK r (bestR r)) (bestR r) L) + 1 ≤ msr r Q) ∨
    (bestR r < 8 ∧ ∃ n, n ≤ 4 ∧ Run good n (r, takeW, M, u) fun s => s.2.1.done = true ∧ resR s.2.1 = (0, 8, 8) ∧ RB s.1 s.2.2.1 Q N ∧ s.1.cap = r.cap ∧ msr s.1 Q + 1 ≤ msr r Q) := by
  obtain ⟨h8, hlow, hbit⟩ := bestR_spec r
  by_cases hb : bestR r = 8
  · refine .inl ⟨hb, fun k l hk hl => ?_, take_none good M u hb⟩
    by_cases e : Q k l = []
    · exact e
    · have := h.s k l hk hl e
      rw [hlow k l hk (by omega)] at this; cases this
  · right
    obtain ⟨l, hl⟩ : ∃ l, l = bestR r := ⟨_, rfl⟩
    rw [← hl] at h8 hlow hbit hb ⊢
    have hl8 : l < 8 := by omega
    have hk := chK_lt h.turn l
    have hbt := hbit hl8 h.turn
    obtain ⟨t, hq, ht⟩ := h.q _ l hk hl8
    have hb0 := bas_pos r.cap (chK r l) l
    obtain ⟨c1, c2, c3, c4⟩ := chR_same r l
    rcases hQ : Q (chK r l) l with _ | ⟨x, L⟩
    · right
      rw [hQ] at hq
      obtain ⟨n, a1, a2⟩ := take_miss good u hl.symm hl8 (bas_at h.base _ _) hq (by rw [h.base]; omega)
      refine ⟨hl8, n, a1, a2.mono ?_⟩
      rintro ⟨r', w', M', u'⟩ ⟨hr, a3, a4, a5, a6⟩
      simp only at hr a3 a4 a5 a6
      subst hr
      obtain ⟨p1, p2, p3⟩ := put_rest (chR r l) (chK r l) (put (r.set (chK r l)) l false)
      refine ⟨a3, a4, ⟨?_, ?_, ?_, ?_, ?_⟩, ?_, ?_⟩
      · rw [p1, c1]; exact h.base
      · rw [p3]; exact chR_turn h.turn l
      · intro k' l' hk' hl'
        rw [p2, c2]
        by_cases e : k' = chK r l ∧ l' = l
        · obtain ⟨rfl, rfl⟩ := e
          rw [hQ] at ht ⊢
          exact ⟨t, a5, ht⟩
        · obtain ⟨t', hq', ht'⟩ := h.q k' l' hk' hl'
          have := bas_pos r.cap k' l'
          exact ⟨t', hq'.away a6 (by rw [h.base]; omega) (by rcases bas_apart (cap := r.cap) hl8 hl' e with c | c; right; exact c; left; exact c), ht'⟩
      · intro k' l' hk' hl' hne
        rw [put_set _ _ hk hk', chR_set]
        have e : ¬ (k' = chK r l ∧ l' = l) := by rintro ⟨rfl, rfl⟩; exact hne hQ
        have := h.s k' l' hk' hl' hne
        by_cases e1 : k' = chK r l
        · subst e1
          rw [if_pos rfl, put_testBit, if_neg (by omega), this]; simp; omega
        · rw [if_neg e1]; exact this
      · have : sumTo (cel ((chR r l).put (chK r l) (put (r.set (chK r l)) l false)) Q) 16 + 1 ≤ sumTo (cel r Q) 16 := by
          refine sumTo_lt (c0 := 8 * chK r l + l) (fun c hc hn => ?_) (by omega) ?_
          · have e : ¬ (c / 8 = chK r l ∧ c % 8 = l) := by omega
            unfold cel
            rw [put_set _ _ hk (by omega), chR_set]
            by_cases e1 : c / 8 = chK r l
            · have e2 : c % 8 ≠ l := fun x => e ⟨e1, x⟩
              have e3 : c % 8 < 64 := by omega
              rw [if_pos e1, ptb_ne _ _ e3 e2, ← e1]; exact Nat.le_refl _
            · rw [if_neg e1]; exact Nat.le_refl _
          · unfold cel
            rw [show (8 * chK r l + l) / 8 = chK r l by omega, show (8 * chK r l + l) % 8 = l by omega, put_set _ _ hk hk, if_pos rfl, ptb_eq _ _ (by omega), hbt]
            simp
        have := h.m; unfold msr at this ⊢; (try dsimp only); omega
      · rw [p2, c2]
      · refine sumTo_lt (c0 := 8 * chK r l + l) (fun c hc hn => ?_) (by omega) ?_
        · have e : ¬ (c / 8 = chK r l ∧ c % 8 = l) := by omega
          unfold cel
          rw [put_set _ _ hk (by omega), chR_set]
          by_cases e1 : c / 8 = chK r l
          · have e2 : c % 8 ≠ l := fun x => e ⟨e1, x⟩
            have e3 : c % 8 < 64 := by omega
            rw [if_pos e1, ptb_ne _ _ e3 e2, ← e1]; exact Nat.le_refl _
          · rw [if_neg e1]; exact Nat.le_refl _
        · unfold cel
          rw [show (8 * chK r l + l) / 8 = chK r l by omega, show (8 * chK r l + l) % 8 = l by omega, put_set _ _ hk hk, if_pos rfl, ptb_eq _ _ (by omega), hbt]
          simp
    · left
      rw [hQ] at hq ht
      refine ⟨hl8, hk, fun k' l' hk' hl' hne => ?_, x, L, rfl, (take_some good u hl.symm hl8 (bas_at h.base _ _) hq).mono ?_⟩
      · rcases Nat.lt_or_ge l' l with c | c
        · have := h.s k' l' hk' hl' hne
          rw [hlow k' l' hk' c] at this; cases this
        · exact c
      rintro ⟨r', w', M', u'⟩ ⟨hr, a3, a4, a5, a6⟩
      simp only at hr a3 a4 a5 a6
      subst hr
      have hm : sumTo (cel (chR r l) (updQ Q (chK r l) l L)) 16 + 1 ≤ sumTo (cel r Q) 16 := by
        refine sumTo_lt (c0 := 8 * chK r l + l) (fun c hc hn => ?_) (by omega) ?_
        · have e : ¬ (c / 8 = chK r l ∧ c % 8 = l) := by omega
          unfold cel
          rw [updQ_other _ _ e, chR_set]; exact Nat.le_refl _
        · unfold cel
          rw [show (8 * chK r l + l) / 8 = chK r l by omega, show (8 * chK r l + l) % 8 = l by omega, updQ_same, chR_set, hQ]
          simp only [List.length_cons]; omega
      refine ⟨a3, a4, ⟨?_, ?_, ?_, ?_, ?_⟩, c2, hm⟩
      · rw [c1]; exact h.base
      · exact chR_turn h.turn l
      · intro k' l' hk' hl'
        rw [c2]
        by_cases e : k' = chK r l ∧ l' = l
        · obtain ⟨rfl, rfl⟩ := e
          rw [updQ_same]
          simp at ht
          exact ⟨t + 1, a5, by omega⟩
        · rw [updQ_other _ _ e]
          obtain ⟨t', hq', ht'⟩ := h.q k' l' hk' hl'
          have := bas_pos r.cap k' l'
          exact ⟨t', hq'.away a6 (by rw [h.base]; omega) (by rcases bas_apart (cap := r.cap) hl8 hl' e with c | c; right; exact c; left; exact c), ht'⟩
      · intro k' l' hk' hl' hne
        rw [chR_set]
        by_cases e : k' = chK r l ∧ l' = l
        · obtain ⟨rfl, rfl⟩ := e; exact hbt
        · rw [updQ_other _ _ e] at hne
          exact h.s k' l' hk' hl' hne
      · have := h.m; unfold msr at this ⊢; (try dsimp only); omega
end Go.Proofs.YtjdbgohfedjifaaDoor
