/- rack: a put to a full deque, of an owner alone, plainly; all of a work by the steps that are shown. -/
import Derived.Test.YtjdbgohfedjifaaDoorRkSw
namespace Go.Proofs.YtjdbgohfedjifaaDoor
open Go.RowKit Bosun
section
variable {good : Nat → Bool} {r : RRack} {M M' : List Nat} {u u' : Nat} {o o' : DOp} {w : RWork}
theorem st_full1 (hn : w.next = .pushing) (hd : w.done = false) (ho : w.op = some o) (hs : stepD o M u = (o', M', u')) (hd' : o'.done = true) (he : o'.err = 6) (hf : w.full = false) :
    stepR good r w M u = (r, { w with steps := w.steps + 1, full := true, from_ := o'.b, op := some (newD (r.at w.kind w.level) r.cap 2 0), next := .sweeping }, M', u') := by
  unfold stepR
  rw [if_neg (by rw [hd]; simp)]
  unfold phaseR
  simp only [hn, ho, Option.getD_some, hs]
  rw [if_neg (by rw [hd']; simp), if_pos he, if_neg (by rw [hf]; simp)]
  rfl
theorem st_full2 (hn : w.next = .pushing) (hd : w.done = false) (ho : w.op = some o) (hs : stepD o M u = (o', M', u')) (hd' : o'.done = true) (he : o'.err = 6) (hf : w.full = true) :
    stepR good r w M u = (r, { w with steps := w.steps + 1, op := some o', done := true, err := 6 }, M', u') := by
  unfold stepR
  rw [if_neg (by rw [hd]; simp)]
  unfold phaseR
  simp only [hn, ho, Option.getD_some, hs]
  rw [if_neg (by rw [hd']; simp), if_pos he, if_pos hf]
end
/-- The push behind the sweep. -/
theorem push_end (good : Nat → Bool) {r : RRack} {M : List Nat} {B t : Nat} {L : List Nat} {x l k F sw n : Nat} (u : Nat) (hat : r.at k l = (B : Int)) (h : SQ M B r.cap t L) (hs : t + L.length < 9000) (hx : x < 18446744073709551616) (hF : F < 1000) (hsw : sw < 18446744073709551616) (hn : n < 950000) (hbit : (r.set k).testBit l = true) (hsl : r.set k < 18446744073709551616) (hl : l < 64) (hk : k < 2) :
    (L.length < r.cap → RunF good 4 (r, SwW .pushing x l k (newD (B : Int) r.cap 0 x) F sw false n, M, u) fun s => s.1 = r ∧ s.2.1.done = true ∧ resR s.2.1 = (x, (l : Int), 0) ∧ SQ s.2.2.1 B r.cap t (L ++ [x]) ∧ Else M s.2.2.1 r.base B r.cap) ∧
    (¬ L.length < r.cap → RunF good 2 (r, SwW .pushing x l k (newD (B : Int) r.cap 0 x) F sw false n, M, u) fun s => s.1 = r ∧ s.2.1.done = true ∧ resR s.2.1 = (0, 8, 6) ∧ SQ s.2.2.1 B r.cap t L ∧ Else M s.2.2.1 r.base B r.cap) := by
  have b1 : getA M ((B : Int) + 1) = t + L.length := h.bot
  have b2 : getA M (B : Int) = t := h.top
  have hlen := h.len
  have hft := h.fits
  have hc0 := h.cap0
  have p1 : stepD (newD (B : Int) r.cap 0 x) M u = (⟨B, r.cap, 0, 1, t + L.length, 0, x, false, false, 0⟩, M, tick M ((B : Int) + 1) u) := by rw [pu0, b1]
  constructor
  · intro hq
    have ec : ¬ ((r.cap : Int) ≤ ahd (t + L.length) t) := by rw [ahd_diff (by omega) (by omega)]; omega
    have ed : add1 (t + L.length) = t + L.length + 1 := by unfold add1; omega
    have p2 : ∀ u, stepD ⟨B, r.cap, 0, 1, t + L.length, 0, x, false, false, 0⟩ M u = (⟨B, r.cap, 0, 2, t + L.length, t, x, false, false, 0⟩, M, tick M (B : Int) u) := fun u => by rw [pu1, b2, if_neg ec]
    have qp := h.push hq x (by omega)
    obtain ⟨M6, hM6⟩ : ∃ M6, M6 = setA M (plc (B : Int) r.cap (t + L.length)) x := ⟨_, rfl⟩
    have p3 : ∀ u, stepD ⟨B, r.cap, 0, 2, t + L.length, t, x, false, false, 0⟩ M u = (⟨B, r.cap, 0, 3, t + L.length, t, x, false, false, 0⟩, M6, tick M (plc (B : Int) r.cap (t + L.length)) u) := fun u => by rw [pu2, hM6]
    obtain ⟨M7, hM7⟩ : ∃ M7, M7 = setA M6 ((B : Int) + 1) (t + L.length + 1) := ⟨_, rfl⟩
    have p4 : ∀ u, stepD ⟨B, r.cap, 0, 3, t + L.length, t, x, false, false, 0⟩ M6 u = (⟨B, r.cap, 0, 4, t + L.length, t, x, false, true, 0⟩, M7, tick M6 ((B : Int) + 1) u) := fun u => by rw [pu3, ed, hM7]
    have hm := Nat.mod_lt (t + L.length) hc0
    have l7 : Else M M7 r.base B r.cap := by rw [hM7, hM6]; exact ((Else.refl _ _ _ _).set _ (by rw [plcN]; omega) (by rw [plcN]; omega)).set _ (by omega) (by omega)
    have q7 : SQ M7 B r.cap t (L ++ [x]) := by rw [hM7, hM6]; exact qp
    have hput : put (r.set k) l true = r.set k := by
      apply Nat.eq_of_testBit_eq
      intro j
      by_cases e : j = l
      · subst e; rw [ptb_eq _ _ hl, hbit]
      · by_cases hj : j < 64
        · rw [ptb_ne _ _ hj e]
        · rw [put_testBit, if_neg (by omega), bits_above hsl (by omega)]; simp
    have hc : ¬ (put (r.set k) l true ≠ r.set k ∧ k = 0) := fun h => h.1 hput
    have hpp : r.put k (put (r.set k) l true) = r := by
      rw [hput]
      unfold RRack.put RRack.set
      split <;> rfl
    unfold SwW
    refine ⟨⟨rfl, by show n < 1000000; omega, sw_fit (o := newD (B : Int) r.cap 0 x) .pushing hx (F := F) (by omega) hsw (.inl ⟨rfl, .inl rfl⟩) (fun _ => rfl), by simp⟩, ?_⟩
    rw [st_pushing rfl rfl rfl p1 rfl]
    refine ⟨⟨rfl, by show n + 1 < 1000000; omega, sw_fit (o := ⟨B, r.cap, 0, 1, t + L.length, 0, x, false, false, 0⟩) .pushing hx (F := F) (by omega) hsw (.inl ⟨rfl, .inl rfl⟩) (fun _ => rfl), by simp⟩, ?_⟩
    rw [st_pushing rfl rfl rfl (p2 _) rfl]
    refine ⟨⟨rfl, by show n + 2 < 1000000; omega, sw_fit (o := ⟨B, r.cap, 0, 2, t + L.length, t, x, false, false, 0⟩) .pushing hx (F := F) (by omega) hsw (.inl ⟨rfl, .inl rfl⟩) (fun _ => rfl), by simp⟩, ?_⟩
    rw [st_pushing rfl rfl rfl (p3 _) rfl]
    refine ⟨⟨rfl, by show n + 3 < 1000000; omega, sw_fit (o := ⟨B, r.cap, 0, 3, t + L.length, t, x, false, false, 0⟩) .pushing hx (F := F) (by omega) hsw (.inl ⟨rfl, .inl rfl⟩) (fun _ => rfl), by simp⟩, ?_⟩
    rw [st_pushed rfl rfl rfl (p4 _) rfl (by show (0 : Int) ≠ 6; decide), if_neg hc]
    exact ⟨hpp, rfl, rfl, q7, l7⟩
  · intro hq
    have ec : ((r.cap : Int) ≤ ahd (t + L.length) t) := by rw [ahd_diff (by omega) (by omega)]; omega
    have p2 : ∀ u, stepD ⟨B, r.cap, 0, 1, t + L.length, 0, x, false, false, 0⟩ M u = (⟨B, r.cap, 0, 2, t + L.length, t, x, false, true, 6⟩, M, tick M (B : Int) u) := fun u => by rw [pu1, b2, if_pos ec]
    unfold SwW
    refine ⟨⟨rfl, by show n < 1000000; omega, sw_fit (o := newD (B : Int) r.cap 0 x) .pushing hx (F := F) (by omega) hsw (.inl ⟨rfl, .inl rfl⟩) (fun _ => rfl), by simp⟩, ?_⟩
    rw [st_pushing rfl rfl rfl p1 rfl]
    refine ⟨⟨rfl, by show n + 1 < 1000000; omega, sw_fit (o := ⟨B, r.cap, 0, 1, t + L.length, 0, x, false, false, 0⟩) .pushing hx (F := F) (by omega) hsw (.inl ⟨rfl, .inl rfl⟩) (fun _ => rfl), by simp⟩, ?_⟩
    rw [st_full2 rfl rfl rfl (p2 _) rfl rfl rfl]
    exact ⟨rfl, rfl, rfl, h, Else.refl _ _ _ _⟩
/-- A put to a full deque. -/
theorem put_full (good : Nat → Bool) {r : RRack} {M : List Nat} {B t : Nat} {ws : List Nat} {x l k : Nat} (u : Nat) (hat : r.at k l = (B : Int)) (h : SQ M B r.cap t ws) (hfull : ws.length = r.cap) (hs : t + ws.length < 700) (hx : x < 18446744073709551616) (hy : ∀ y ∈ ws, y < 18446744073709551616) (hbit : (r.set k).testBit l = true) (hsl : r.set k < 18446744073709551616) (hl : l < 64) (hk : k < 2) :
    ∃ m, m ≤ 5000 ∧ RunF good m (r, ⟨.pushing, x, l, k, some (newD (B : Int) r.cap 0 x), 0, 0, false, false, false, false, 0, false, 0⟩, M, u) fun s => ∃ t', s.1 = r ∧ s.2.1.done = true ∧ Else M s.2.2.1 r.base B r.cap ∧
      ((ws.filter good).length < r.cap → resR s.2.1 = (x, (l : Int), 0) ∧ SQ s.2.2.1 B r.cap t' (ws.filter good ++ [x])) ∧
      (¬ (ws.filter good).length < r.cap → resR s.2.1 = (0, 8, 6) ∧ SQ s.2.2.1 B r.cap t' (ws.filter good)) := by
  have b1 : getA M ((B : Int) + 1) = t + ws.length := h.bot
  have b2 : getA M (B : Int) = t := h.top
  have hc1 := h.cap1
  have ec : ((r.cap : Int) ≤ ahd (t + ws.length) t) := by rw [ahd_diff (by omega) (by omega)]; omega
  have p1 : stepD (newD (B : Int) r.cap 0 x) M u = (⟨B, r.cap, 0, 1, t + ws.length, 0, x, false, false, 0⟩, M, tick M ((B : Int) + 1) u) := by rw [pu0, b1]
  have p2 : ∀ u, stepD ⟨B, r.cap, 0, 1, t + ws.length, 0, x, false, false, 0⟩ M u = (⟨B, r.cap, 0, 2, t + ws.length, t, x, false, true, 6⟩, M, tick M (B : Int) u) := fun u => by rw [pu1, b2, if_pos ec]
  have fit : ∀ (o : DOp) n, o.kind = 0 → o.done = false → Fit ⟨.pushing, x, l, k, some o, 0, 0, false, false, false, false, n, false, 0⟩ := fun o n h1 h2 =>
    ⟨hx, by show 0 < _; omega, by show 0 < _; omega, fun _ => ⟨o, rfl, h1, h2⟩, fun h => by simp at h, fun h => by simp at h, fun h => by simp at h, fun h => by simp at h⟩
  have start : ∀ (N : Nat) (P : RS → Prop), (∀ u', ∃ m, m ≤ N ∧ RunF good m (r, SwW .sweeping x l k (newD (B : Int) r.cap 2 0) (t + ws.length) 0 false 2, M, u') P) → ∃ m, m ≤ N + 2 ∧ RunF good m (r, ⟨.pushing, x, l, k, some (newD (B : Int) r.cap 0 x), 0, 0, false, false, false, false, 0, false, 0⟩, M, u) P := by
    intro N P hP
    obtain ⟨m, hm, hR⟩ := hP (tick M (B : Int) (tick M ((B : Int) + 1) u))
    refine ⟨m + 2, by omega, ⟨rfl, by show 0 < 1000000; omega, fit _ _ rfl rfl, by simp⟩, ?_⟩
    rw [st_pushing rfl rfl rfl p1 rfl]
    refine ⟨⟨rfl, by show 0 + 1 < 1000000; omega, fit _ _ rfl rfl, by simp⟩, ?_⟩
    rw [st_full1 rfl rfl rfl (p2 _) rfl rfl rfl]
    simp only [hat]
    exact hR
  have hall : ∀ u', ∃ m, m ≤ 9 * ws.length + 1 + 4 ∧ RunF good m (r, SwW .sweeping x l k (newD (B : Int) r.cap 2 0) (t + ws.length) 0 false 2, M, u') fun s => ∃ t', s.1 = r ∧ s.2.1.done = true ∧ Else M s.2.2.1 r.base B r.cap ∧
      ((ws.filter good).length < r.cap → resR s.2.1 = (x, (l : Int), 0) ∧ SQ s.2.2.1 B r.cap t' (ws.filter good ++ [x])) ∧
      (¬ (ws.filter good).length < r.cap → resR s.2.1 = (0, 8, 6) ∧ SQ s.2.2.1 B r.cap t' (ws.filter good)) := by
    intro u'
    obtain ⟨m, hm, hR⟩ := sw_all good (x := x) (l := l) (k := k) (F := t + ws.length) hat (by omega) hx ws (L := []) (sw := 0) (n := 2) u' (by simpa using h) rfl (by simp; omega) (by omega) hy (by omega)
    obtain ⟨m2, hm2, hR2⟩ := hR.bind (N := 4) (P := fun s => ∃ t', s.1 = r ∧ s.2.1.done = true ∧ Else M s.2.2.1 r.base B r.cap ∧
      ((ws.filter good).length < r.cap → resR s.2.1 = (x, (l : Int), 0) ∧ SQ s.2.2.1 B r.cap t' (ws.filter good ++ [x])) ∧
      (¬ (ws.filter good).length < r.cap → resR s.2.1 = (0, 8, 6) ∧ SQ s.2.2.1 B r.cap t' (ws.filter good))) (by
      rintro ⟨r', w', M', u2⟩ ⟨n', sw', hn', hsw', h1, h2, h3, h4⟩
      simp only at h1 h2 h3 h4
      have h1' := h1.symm
      subst h1'
      subst h2
      rw [List.nil_append] at h3
      have hfl := List.length_filter_le good ws
      obtain ⟨q1, q2⟩ := push_end good (n := n') (F := t + ws.length) u2 hat h3 (by omega) hx (by omega) hsw' (by omega) hbit hsl hl hk
      by_cases hq : (ws.filter good).length < r.cap
      · refine ⟨4, by omega, (q1 hq).mono ?_⟩
        rintro s ⟨a1, a2, a3, a4, a5⟩
        exact ⟨_, a1, a2, h4.trans a5, fun _ => ⟨a3, a4⟩, fun h => absurd hq h⟩
      · refine ⟨2, by omega, (q2 hq).mono ?_⟩
        rintro s ⟨a1, a2, a3, a4, a5⟩
        exact ⟨_, a1, a2, h4.trans a5, fun h => absurd h hq, fun _ => ⟨a3, a4⟩⟩)
    exact ⟨m2, by omega, hR2⟩
  obtain ⟨m, hm, hR⟩ := start _ _ hall
  exact ⟨m, by omega, hR⟩
end Go.Proofs.YtjdbgohfedjifaaDoor
