/- plan: how wide windows must be (Gap, Beat), plainly. -/
import Derived.Test.YtjohbnfeijhcmaaDoorPl0
namespace Bosun
/-- A processor's number stands between two places. -/
def HasC (l : List Ent) (c : Int) (a b : Nat) : Prop := ∃ k e, a ≤ k ∧ k < b ∧ l[k]? = some e ∧ e.cpu = c
/-- Some window of so many lacks a processor. -/
def MissC (l : List Ent) (n w : Nat) : Prop := ∃ (at_ c : Nat), at_ + w ≤ l.length ∧ c < n ∧ ¬ HasC l c at_ (at_ + w)
def IsGap (l : List Ent) (n g : Nat) : Prop := 1 ≤ g ∧ g ≤ l.length + 1 ∧ ∀ w, 1 ≤ w → w ≤ l.length → (MissC l n w ↔ w < g)
theorem IsGap.uniq {l : List Ent} {n g h : Nat} (a : IsGap l n g) (b : IsGap l n h) : g = h := by
  obtain ⟨a1, a2, a3⟩ := a; obtain ⟨b1, b2, b3⟩ := b
  rcases Nat.lt_trichotomy g h with hlt | rfl | hlt
  · have x := a3 g a1 (by omega); have y := b3 g a1 (by omega)
    have := x.1 (y.2 hlt); omega
  · rfl
  · have x := a3 h b1 (by omega); have y := b3 h b1 (by omega)
    have := y.1 (x.2 hlt); omega
theorem MissC.less {l : List Ent} {n w v : Nat} (h : MissC l n w) (hv : v ≤ w) : MissC l n v := by
  obtain ⟨a, c, h1, h2, h3⟩ := h
  exact ⟨a, c, by omega, h2, fun ⟨k, e, h4, h5, h6⟩ => h3 ⟨k, e, h4, by omega, h6⟩⟩
theorem isGap_of {l : List Ent} {n g : Nat} (h1 : 1 ≤ g) (h2 : g ≤ l.length + 1) (h3 : ∀ w, 1 ≤ w → w < g → MissC l n w) (h4 : g ≤ l.length → ¬ MissC l n g) : IsGap l n g :=
  ⟨h1, h2, fun w hw hwl => ⟨fun hm => Nat.lt_of_not_le fun hg => h4 (by omega) (hm.less hg), fun hlt => h3 w hw hlt⟩⟩
/-- Where a number stood last. -/
def LastOK (l : List Ent) (i : Nat) (c v : Int) : Prop := -1 ≤ v ∧ v < i ∧ ∀ w : Nat, w ≤ i → ((w : Int) < (i : Int) - v ↔ ¬ HasC l c (i - w) i)
theorem lastOK_zero (l : List Ent) (c : Int) : LastOK l 0 c (-1) := by
  refine ⟨by omega, by omega, fun w hw => ⟨fun _ ⟨k, e, h1, h2, _⟩ => by omega, fun _ => by omega⟩⟩
theorem lastOK_same {l : List Ent} {i : Nat} {e : Ent} (h : l[i]? = some e) : LastOK l (i + 1) e.cpu i := by
  refine ⟨by omega, by omega, fun w hw => ⟨fun h1 ⟨k, _, h2, h3, _⟩ => by omega, fun h1 => ?_⟩⟩
  rcases Nat.eq_zero_or_pos w with rfl | hw0
  · omega
  · exact absurd ⟨i, e, by omega, by omega, h, rfl⟩ h1
theorem lastOK_other {l : List Ent} {i : Nat} {e : Ent} {c v : Int} (h : l[i]? = some e) (hc : e.cpu ≠ c) (H : LastOK l i c v) : LastOK l (i + 1) c v := by
  obtain ⟨h1, h2, h3⟩ := H
  refine ⟨h1, by omega, fun w hw => ?_⟩
  cases w with
  | zero => exact ⟨fun _ ⟨k, _, h4, h5, _⟩ => by omega, fun _ => by omega⟩
  | succ w =>
    have h4 := h3 w (by omega)
    have h5 : HasC l c (i + 1 - (w + 1)) (i + 1) ↔ HasC l c (i - w) i := by
      constructor
      · rintro ⟨k, f, a, b, d, rfl⟩
        have : k ≠ i := fun hk => by subst hk; rw [h] at d; simp at d; subst d; exact hc rfl
        exact ⟨k, f, by omega, by omega, d, rfl⟩
      · rintro ⟨k, f, a, b, d⟩
        exact ⟨k, f, by omega, by omega, d⟩
    rw [h5, ← h4]
    omega
/-- A stretch that has ended. -/
def ShutC (l : List Ent) (i w : Nat) : Prop := ∃ j e, j < i ∧ w ≤ j ∧ l[j]? = some e ∧ ¬ HasC l e.cpu (j - w) j
def GapTo (l : List Ent) (i : Nat) (g : Int) : Prop := 1 ≤ g ∧ g ≤ i + 1 ∧ ∀ w : Nat, 1 ≤ w → (ShutC l i w ↔ (w : Int) < g)
theorem gapTo_zero (l : List Ent) : GapTo l 0 1 := ⟨by omega, by omega, fun w hw => ⟨fun ⟨j, e, h, _⟩ => by omega, fun h => by omega⟩⟩
theorem gapTo_succ {l : List Ent} {i : Nat} {e : Ent} {g v : Int} (he : l[i]? = some e) (H : GapTo l i g) (L : LastOK l i e.cpu v) : GapTo l (i + 1) (if g < (i : Int) - v then (i : Int) - v else g) := by
  obtain ⟨h1, h2, h3⟩ := H
  obtain ⟨l1, l2, l3⟩ := L
  refine ⟨by split <;> omega, by split <;> omega, fun w hw => ?_⟩
  have key : ShutC l (i + 1) w ↔ ShutC l i w ∨ (w ≤ i ∧ ¬ HasC l e.cpu (i - w) i) := by
    constructor
    · rintro ⟨j, f, a, b, c, d⟩
      rcases Nat.lt_or_ge j i with hj | hj
      · exact .inl ⟨j, f, hj, b, c, d⟩
      · obtain rfl : j = i := by omega
        rw [he] at c; simp at c; subst c
        exact .inr ⟨b, d⟩
    · rintro (⟨j, f, a, b, c, d⟩ | ⟨b, d⟩)
      · exact ⟨j, f, by omega, b, c, d⟩
      · exact ⟨i, e, by omega, b, he, d⟩
  rw [key, h3 w hw]
  constructor
  · rintro (h | ⟨h, h4⟩)
    · split <;> omega
    · have := (l3 w h).2 h4
      split <;> omega
  · intro h
    rcases Int.lt_or_le (w : Int) g with hg | hg
    · exact .inl hg
    · have hwi : (w : Int) < (i : Int) - v := by split at h <;> omega
      exact .inr ⟨by omega, (l3 w (by omega)).1 hwi⟩
def EndTo (l : List Ent) (m : Nat) (g : Int) : Prop := 1 ≤ g ∧ g ≤ (l.length : Int) + 1 ∧ ∀ w : Nat, 1 ≤ w → ((w : Int) < g ↔ ShutC l l.length w ∨ ∃ c : Nat, c < m ∧ w ≤ l.length ∧ ¬ HasC l c (l.length - w) l.length)
theorem endTo_zero {l : List Ent} {g : Int} (H : GapTo l l.length g) : EndTo l 0 g := by
  obtain ⟨h1, h2, h3⟩ := H
  exact ⟨h1, h2, fun w hw => ⟨fun h => .inl ((h3 w hw).2 h), fun h => by rcases h with h | ⟨c, hc, _⟩; exact (h3 w hw).1 h; omega⟩⟩
theorem endTo_succ {l : List Ent} {m : Nat} {g v : Int} (H : EndTo l m g) (L : LastOK l l.length m v) : EndTo l (m + 1) (if g < (l.length : Int) - v then (l.length : Int) - v else g) := by
  obtain ⟨h1, h2, h3⟩ := H
  obtain ⟨l1, l2, l3⟩ := L
  refine ⟨by split <;> omega, by split <;> omega, fun w hw => ?_⟩
  constructor
  · intro h
    rcases Int.lt_or_le (w : Int) g with hg | hg
    · rcases (h3 w hw).1 hg with h | ⟨c, a, b⟩
      · exact .inl h
      · exact .inr ⟨c, by omega, b⟩
    · have hwi : (w : Int) < (l.length : Int) - v := by split at h <;> omega
      exact .inr ⟨m, by omega, by omega, (l3 w (by omega)).1 hwi⟩
  · rintro (h | ⟨c, a, b, d⟩)
    · have := (h3 w hw).2 (.inl h)
      split <;> omega
    · rcases Nat.lt_or_ge c m with hc | hc
      · have := (h3 w hw).2 (.inr ⟨c, hc, b, d⟩)
        split <;> omega
      · obtain rfl : c = m := by omega
        have := (l3 w b).2 d
        split <;> omega
theorem least_of (P : Nat → Prop) (n : Nat) (h : P n) : ∃ k, P k ∧ ∀ j, j < k → ¬ P j := by
  induction n using Nat.strongRecOn with
  | _ n ih =>
    by_cases hx : ∃ j, j < n ∧ P j
    · obtain ⟨j, hj, hp⟩ := hx; exact ih j hj hp
    · exact ⟨n, h, fun j hj hp => hx ⟨j, hj, hp⟩⟩
theorem endTo_gap {l : List Ent} {n : Nat} {g : Int} (H : EndTo l n g) (hg : ∀ e ∈ l, 0 ≤ e.cpu ∧ e.cpu < n) : ∃ k : Nat, g = k ∧ IsGap l n k := by
  obtain ⟨h1, h2, h3⟩ := H
  refine ⟨g.toNat, by omega, by omega, by omega, fun w hw hwl => ?_⟩
  rw [show w < g.toNat ↔ (w : Int) < g by omega, h3 w hw]
  constructor
  · rintro ⟨a, c, a1, a2, a3⟩
    by_cases hx : ∃ k e, a + w ≤ k ∧ l[k]? = some e ∧ e.cpu = (c : Int)
    · obtain ⟨k0, hk0⟩ := hx
      obtain ⟨k, ⟨e, b1, b2, b3⟩, hmin⟩ := least_of (fun k => ∃ e, a + w ≤ k ∧ l[k]? = some e ∧ e.cpu = (c : Int)) k0 hk0
      refine .inl ⟨k, e, (List.getElem?_eq_some_iff.1 b2).1, by omega, b2, ?_⟩
      rintro ⟨k', e', d1, d2, d3, d4⟩
      rcases Nat.lt_or_ge k' (a + w) with hk | hk
      · exact a3 ⟨k', e', by omega, hk, d3, by rw [d4, b3]⟩
      · exact hmin k' d2 ⟨e', hk, d3, by rw [d4, b3]⟩
    · refine .inr ⟨c, a2, hwl, ?_⟩
      rintro ⟨k', e', d1, d2, d3, d4⟩
      rcases Nat.lt_or_ge k' (a + w) with hk | hk
      · exact a3 ⟨k', e', by omega, hk, d3, d4⟩
      · exact hx ⟨k', e', hk, d3, d4⟩
  · rintro (⟨j, e, b1, b2, b3, b4⟩ | ⟨c, a, b, d⟩)
    · obtain ⟨x1, x2⟩ := hg e (List.mem_of_getElem? b3)
      refine ⟨j - w, e.cpu.toNat, by omega, by omega, ?_⟩
      rw [show ((e.cpu.toNat : Nat) : Int) = e.cpu by omega, show j - w + w = j by omega]
      exact b4
    · exact ⟨l.length - w, c, by omega, a, by rw [show l.length - w + w = l.length by omega]; exact d⟩

/-- A processor's own entries. -/
def ownC (l : List Ent) (c : Nat) : List Ent := l.filter fun e => decide (e.cpu = (c : Int))
def HasT (o : List Ent) (a b : Nat) : Prop := ∃ k e, a ≤ k ∧ k < b ∧ o[k]? = some e ∧ e.tick = true
def MissT (l : List Ent) (n p : Nat) : Prop := ∃ c, c < n ∧ ∃ at_, at_ + p ≤ (ownC l c).length ∧ ¬ HasT (ownC l c) at_ (at_ + p)
def IsBeat (l : List Ent) (n b : Nat) : Prop := 1 ≤ b ∧ ∀ p, 1 ≤ p → (MissT l n p ↔ p < b)
theorem IsBeat.uniq {l : List Ent} {n g h : Nat} (a : IsBeat l n g) (b : IsBeat l n h) : g = h := by
  obtain ⟨a1, a3⟩ := a; obtain ⟨b1, b3⟩ := b
  rcases Nat.lt_trichotomy g h with hlt | rfl | hlt
  · have := (a3 g a1).1 ((b3 g a1).2 hlt); omega
  · rfl
  · have := (b3 h b1).1 ((a3 h b1).2 hlt); omega
theorem MissT.less {l : List Ent} {n w v : Nat} (h : MissT l n w) (hv : v ≤ w) : MissT l n v := by
  obtain ⟨c, h1, a, h2, h3⟩ := h
  exact ⟨c, h1, a, by omega, fun ⟨k, e, h4, h5, h6⟩ => h3 ⟨k, e, h4, by omega, h6⟩⟩
theorem isBeat_of {l : List Ent} {n g : Nat} (h1 : 1 ≤ g) (h3 : ∀ w, 1 ≤ w → w < g → MissT l n w) (h4 : ¬ MissT l n g) : IsBeat l n g :=
  ⟨h1, fun w hw => ⟨fun hm => Nat.lt_of_not_le fun hg => h4 (hm.less hg), fun hlt => h3 w hw hlt⟩⟩
theorem ownC_len (l : List Ent) (c : Nat) : (ownC l c).length ≤ l.length := List.length_filter_le _ _
theorem MissT.len {l : List Ent} {n w : Nat} (h : MissT l n w) : w ≤ l.length := by
  obtain ⟨c, _, a, h2, _⟩ := h
  have := ownC_len l c; omega
/-- How many own entries have been without a tick. -/
def SinceOK (l : List Ent) (i c : Nat) (s : Int) : Prop := 0 ≤ s ∧ s ≤ (ownC (l.take i) c).length ∧ ∀ p : Nat, p ≤ (ownC (l.take i) c).length → ((p : Int) ≤ s ↔ ¬ HasT (ownC (l.take i) c) ((ownC (l.take i) c).length - p) (ownC (l.take i) c).length)
theorem sinceOK_zero (l : List Ent) (c : Nat) : SinceOK l 0 c 0 := by
  refine ⟨by omega, by simp [ownC], fun p hp => ?_⟩
  simp [ownC] at hp
  subst hp
  exact ⟨fun _ ⟨k, e, h1, h2, _⟩ => by omega, fun _ => by omega⟩
theorem ownC_same {l : List Ent} {i c : Nat} {e : Ent} (h : l[i]? = some e) (hc : e.cpu = (c : Int)) : ownC (l.take (i + 1)) c = ownC (l.take i) c ++ [e] := by
  unfold ownC
  rw [List.take_add_one, List.filter_append, h]
  simp [hc]
theorem ownC_other {l : List Ent} {i c : Nat} {e : Ent} (h : l[i]? = some e) (hc : e.cpu ≠ (c : Int)) : ownC (l.take (i + 1)) c = ownC (l.take i) c := by
  unfold ownC
  rw [List.take_add_one, List.filter_append, h]
  simp [hc]
theorem sinceOK_same {l : List Ent} {i c : Nat} {e : Ent} {s : Int} (h : l[i]? = some e) (hc : e.cpu = (c : Int)) (H : SinceOK l i c s) : SinceOK l (i + 1) c (if e.tick then 0 else s + 1) := by
  obtain ⟨h1, h2, h3⟩ := H
  unfold SinceOK
  rw [ownC_same h hc]
  obtain ⟨o, ho⟩ : ∃ o, o = ownC (l.take i) c := ⟨_, rfl⟩
  rw [← ho] at h2 h3 ⊢
  rw [List.length_append, List.length_singleton]
  refine ⟨by split <;> omega, by split <;> omega, fun p hp => ?_⟩
  by_cases ht : e.tick = true
  · rw [if_pos ht]
    constructor
    · rintro h4 ⟨k, _, h5, h6, _⟩; omega
    · intro h4
      rcases Nat.eq_zero_or_pos p with rfl | hp0
      · omega
      · exact absurd ⟨o.length, e, by omega, by omega, by simp, ht⟩ h4
  · rw [if_neg ht]
    cases p with
    | zero => exact ⟨fun _ ⟨k, _, h5, h6, _⟩ => by omega, fun _ => by omega⟩
    | succ p =>
      have h4 := h3 p (by omega)
      have h5 : HasT (o ++ [e]) (o.length + 1 - (p + 1)) (o.length + 1) ↔ HasT o (o.length - p) o.length := by
        constructor
        · rintro ⟨k, f, a, b, d, d2⟩
          rcases Nat.lt_or_ge k o.length with hk | hk
          · rw [List.getElem?_append_left hk] at d
            exact ⟨k, f, by omega, hk, d, d2⟩
          · obtain rfl : k = o.length := by omega
            simp at d; subst d; exact absurd d2 ht
        · rintro ⟨k, f, a, b, d⟩
          exact ⟨k, f, by omega, by omega, by rw [List.getElem?_append_left b]; exact d⟩
      rw [h5, ← h4]
      omega
theorem sinceOK_other {l : List Ent} {i c : Nat} {e : Ent} {s : Int} (h : l[i]? = some e) (hc : e.cpu ≠ (c : Int)) (H : SinceOK l i c s) : SinceOK l (i + 1) c s := by
  unfold SinceOK at *
  rw [ownC_other h hc]
  exact H
def TailT (o : List Ent) (p : Nat) : Prop := p ≤ o.length ∧ ¬ HasT o (o.length - p) o.length
def BeatTo (l : List Ent) (n i : Nat) (b : Int) : Prop := 1 ≤ b ∧ b ≤ i + 1 ∧ ∀ p : Nat, 1 ≤ p → ((p : Int) < b ↔ ∃ j c, j ≤ i ∧ c < n ∧ TailT (ownC (l.take j) c) p)
theorem beatTo_zero (l : List Ent) (n : Nat) : BeatTo l n 0 1 := by
  refine ⟨by omega, by omega, fun p hp => ⟨fun h => by omega, ?_⟩⟩
  rintro ⟨j, c, hj, _, ht, _⟩
  obtain rfl : j = 0 := by omega
  simp [ownC] at ht
  omega
theorem beatTo_succ {l : List Ent} {n i c : Nat} {e : Ent} {b s : Int} (he : l[i]? = some e) (hc : e.cpu = (c : Int)) (hcn : c < n) (H : BeatTo l n i b) (S : SinceOK l (i + 1) c s) : BeatTo l n (i + 1) (if b < s + 1 then s + 1 else b) := by
  obtain ⟨h1, h2, h3⟩ := H
  obtain ⟨s1, s2, s3⟩ := S
  have hol := ownC_len (l.take (i + 1)) c
  rw [List.length_take] at hol
  refine ⟨by split <;> omega, by split <;> omega, fun p hp => ?_⟩
  have key : (∃ j c, j ≤ i + 1 ∧ c < n ∧ TailT (ownC (l.take j) c) p) ↔ (∃ j c, j ≤ i ∧ c < n ∧ TailT (ownC (l.take j) c) p) ∨ TailT (ownC (l.take (i + 1)) c) p := by
    constructor
    · rintro ⟨j, d, a1, a2, a3⟩
      rcases Nat.lt_or_ge i j with hj | hj
      · obtain rfl : j = i + 1 := by omega
        by_cases hd : e.cpu = (d : Int)
        · obtain rfl : d = c := by rw [hc] at hd; omega
          exact .inr a3
        · rw [ownC_other he hd] at a3
          exact .inl ⟨i, d, by omega, a2, a3⟩
      · exact .inl ⟨j, d, hj, a2, a3⟩
    · rintro (⟨j, d, a1, a2, a3⟩ | a3)
      · exact ⟨j, d, by omega, a2, a3⟩
      · exact ⟨i + 1, c, by omega, hcn, a3⟩
  rw [key, ← h3 p hp]
  constructor
  · intro h
    rcases Int.lt_or_le (p : Int) b with hb | hb
    · exact .inl hb
    · have hps : (p : Int) ≤ s := by split at h <;> omega
      exact .inr ⟨by omega, (s3 p (by omega)).1 hps⟩
  · rintro (h | ⟨a1, a2⟩)
    · split <;> omega
    · have := (s3 p a1).2 a2
      split <;> omega
theorem ownC_take (c : Nat) : ∀ (l : List Ent) (m : Nat), m ≤ (ownC l c).length → ∃ j, j ≤ l.length ∧ ownC (l.take j) c = (ownC l c).take m
  | [], m, h => ⟨0, by simp, by simp [ownC]⟩
  | e :: l, 0, h => ⟨0, by simp, by simp [ownC]⟩
  | e :: l, m + 1, h => by
    by_cases hc : e.cpu = (c : Int)
    · have e1 : ownC (e :: l) c = e :: ownC l c := by simp [ownC, hc]
      rw [e1] at h ⊢
      obtain ⟨j, hj, hj2⟩ := ownC_take c l m (by simpa using h)
      exact ⟨j + 1, by simpa using hj, by rw [List.take_succ_cons, List.take_succ_cons, ← hj2]; simp [ownC, hc]⟩
    · have e1 : ownC (e :: l) c = ownC l c := by simp [ownC, hc]
      rw [e1] at h ⊢
      obtain ⟨j, hj, hj2⟩ := ownC_take c l (m + 1) h
      exact ⟨j + 1, by simpa using hj, by rw [List.take_succ_cons, ← hj2]; simp [ownC, hc]⟩
theorem ownC_prefix (l : List Ent) (c j : Nat) : ∃ r, ownC l c = ownC (l.take j) c ++ r := by
  refine ⟨ownC (l.drop j) c, ?_⟩
  unfold ownC
  rw [← List.filter_append, List.take_append_drop]
theorem beatTo_beat {l : List Ent} {n : Nat} {b : Int} (H : BeatTo l n l.length b) : ∃ k : Nat, b = k ∧ IsBeat l n k := by
  obtain ⟨h1, h2, h3⟩ := H
  refine ⟨b.toNat, by omega, by omega, fun p hp => ?_⟩
  rw [show p < b.toNat ↔ (p : Int) < b by omega, h3 p hp]
  constructor
  · rintro ⟨c, hc, a, h4, h5⟩
    obtain ⟨j, hj, hj2⟩ := ownC_take c l (a + p) h4
    refine ⟨j, c, hj, hc, ?_⟩
    rw [hj2]
    have hl : ((ownC l c).take (a + p)).length = a + p := by rw [List.length_take]; omega
    unfold TailT
    rw [hl]
    refine ⟨by omega, ?_⟩
    rintro ⟨k, e, d1, d2, d3, d4⟩
    rw [List.getElem?_take, if_pos d2] at d3
    exact h5 ⟨k, e, by omega, d2, d3, d4⟩
  · rintro ⟨j, c, hj, hc, t1, t2⟩
    obtain ⟨r, hr⟩ := ownC_prefix l c j
    refine ⟨c, hc, (ownC (l.take j) c).length - p, ?_, ?_⟩
    · rw [hr, List.length_append]; omega
    · rintro ⟨k, e, d1, d2, d3, d4⟩
      rw [hr, List.getElem?_append_left (by omega)] at d3
      exact t2 ⟨k, e, by omega, by omega, d3, d4⟩
end Bosun
