/- rack: sweeping, of an owner alone, plainly. -/
import Derived.Test.YtjdbgohfedjifaaDoorRkA
import Derived.Test.YtjdbgohfedjifaaDoorRkAll
import Derived.Test.YtjdbgohfedjifaaDoorRkP4s
namespace Bosun
open Go
/-- A sweeping work: what it does next, its op, the bottom behind which it does not go, the swept word, whether it holds it, its steps. -/
def SwW (nx : RNext) (x l k : Nat) (o : DOp) (F sw : Nat) (hd : Bool) (n : Nat) : RWork := ⟨nx, x, l, k, some o, F, sw, true, hd, false, false, n, false, 0⟩
theorem allD_sq {M : List Nat} {B cap t : Nat} {L : List Nat} (h : SQ M B cap t L) : allD (B : Int) cap M = L := by
  have e1 : getA M ((B : Int) + 1) = t + L.length := h.bot
  have e2 : getA M (B : Int) = t := h.top
  have hs := h.small
  have hf := h.fits
  have hl : lenD (B : Int) cap M = L.length := by unfold lenD; rw [e1, e2, ahd_diff (by omega) (by omega)]; omega
  unfold allD
  rw [hl, e1]
  apply List.ext_getElem
  · simp
  · intro i h1 h2
    simp only [List.length_map, List.length_range] at h1
    simp only [List.getElem_map, List.getElem_range]
    rw [show (t + L.length + (18446744073709551616 - L.length) + i) % 18446744073709551616 = t + i from by omega, plcN]
    exact h.at_ i h1
theorem allTo16_one {r : RRack} {M : List Nat} {c0 : Nat} {L : List Nat} (h : ∀ c, c < 16 → c ≠ c0 → allD (r.at (c / 8) (c % 8)) r.cap M = []) (h0 : allD (r.at (c0 / 8) (c0 % 8)) r.cap M = L) : ∀ n, n ≤ 16 → allTo16 r M n = if c0 < n then L else []
  | 0, _ => by simp [allTo16]
  | n + 1, hn => by
    rw [allTo16_succ, allTo16_one h h0 n (by omega)]
    by_cases e : n = c0
    · subst e
      rw [if_neg (by omega), if_pos (by omega), h0]; rfl
    · rw [h n (by omega) e, List.append_nil]
      by_cases h1 : c0 < n
      · rw [if_pos h1, if_pos (by omega)]
      · rw [if_neg h1, if_neg (by omega)]
end Bosun
namespace Go.Proofs.YtjdbgohfedjifaaDoor
open Go.RowKit Bosun
/-- So many steps, each one that is shown, then P. -/
def RunF (good : Nat → Bool) : Nat → RS → (RS → Prop) → Prop
  | 0, s, P => P s
  | n + 1, s, P => (s.2.1.done = false ∧ s.2.1.steps < 1000000 ∧ Fit s.2.1 ∧ s.2.1.next ≠ .worst) ∧ RunF good n (stepR good s.1 s.2.1 s.2.2.1 s.2.2.2) P
theorem RunF.spec {good : Nat → Bool} {P : RS → Prop} : ∀ {n : Nat} {s : RS}, RunF good n s P → P (itR good n s) ∧ ∀ k, k < n → (itR good k s).2.1.steps < 1000000 ∧ Fit (itR good k s).2.1 ∧ (itR good k s).2.1.next ≠ .worst
  | 0, s, h => ⟨h, fun k hk => absurd hk (by omega)⟩
  | n + 1, s, h => by
    obtain ⟨i1, i2⟩ := RunF.spec h.2
    refine ⟨i1, fun k hk => ?_⟩
    match k, hk with
    | 0, _ => exact h.1.2
    | k + 1, hk => exact i2 k (by omega)
theorem RunF.bind {good : Nat → Bool} {N : Nat} {P Q : RS → Prop} : ∀ {n : Nat} {s : RS}, RunF good n s Q → (∀ s', Q s' → ∃ m, m ≤ N ∧ RunF good m s' P) → ∃ m, m ≤ n + N ∧ RunF good m s P
  | 0, s, h, f => by obtain ⟨m, h1, h2⟩ := f s h; exact ⟨m, by omega, h2⟩
  | n + 1, s, h, f => by
    obtain ⟨m, h1, h2⟩ := RunF.bind h.2 f
    exact ⟨m + 1, by omega, h.1, h2⟩
theorem RunF.mono {good : Nat → Bool} {P Q : RS → Prop} (hPQ : ∀ s, P s → Q s) : ∀ {n : Nat} {s : RS}, RunF good n s P → RunF good n s Q
  | 0, _, h => hPQ _ h
  | _ + 1, _, h => ⟨h.1, RunF.mono hPQ h.2⟩
theorem Else.trans {M M1 M2 : List Nat} {b : Int} {B cap : Nat} (h : Else M M1 b B cap) (h' : Else M1 M2 b B cap) : Else M M2 b B cap :=
  ⟨h'.1.trans h.1, fun a h1 h2 => (h'.2 a h1 h2).trans (h.2 a h1 h2)⟩
theorem Else.refl (M : List Nat) (b : Int) (B cap : Nat) : Else M M b B cap := ⟨rfl, fun _ _ _ => rfl⟩
theorem Else.set {M M1 : List Nat} {b : Int} {B cap : Nat} (h : Else M M1 b B cap) {a : Int} (x : Nat) (h0 : (B : Int) ≤ a) (h1 : a < (B + 2 + cap : Nat)) : Else M (setA M1 a x) b B cap :=
  ⟨by rw [setA_length]; exact h.1, fun c hc hd => by rw [gs_other (by omega)]; exact h.2 c hc hd⟩
section
variable {good : Nat → Bool} {r : RRack} {M M' : List Nat} {u u' : Nat} {o o' : DOp} {x l k F sw n : Nat} {hd : Bool}
theorem sw_step (hs : stepD o M u = (o', M', u')) : stepR good r (SwW .sweeping x l k o F sw hd n) M u =
    (if (o'.steps = 1 ∧ ahd F o'.t ≤ 0) ∨ (resD o').2 = 7 then (r, SwW .pushing x l k (newD (r.at k l) r.cap 0 x) F sw hd (n + 1), M', u')
    else if (resD o').2 = 8 then (r, SwW .sweeping x l k (newD (r.at k l) r.cap 2 0) F sw hd (n + 1), M', u')
    else if (resD o').2 = 0 then (r, SwW .asking x l k o' F (resD o').1 true (n + 1), M', u')
    else (r, SwW .sweeping x l k o' F sw hd (n + 1), M', u')) := by
  unfold stepR SwW
  rw [if_neg (show ¬ ((false : Bool) = true) by decide)]
  unfold phaseR
  simp only [Option.getD_some, hs]
  rfl
theorem sw_ask : stepR good r (SwW .asking x l k o F sw true n) M u = (if good sw = true then (r, SwW .again x l k (newD (r.at k l) r.cap 0 sw) F sw true (n + 1), M, u) else (r, SwW .sweeping x l k (newD (r.at k l) r.cap 2 0) F sw false (n + 1), M, u)) := by
  unfold stepR SwW
  rw [if_neg (show ¬ ((false : Bool) = true) by decide)]
  unfold phaseR
  rfl
theorem sw_again (hs : stepD o M u = (o', M', u')) : stepR good r (SwW .again x l k o F sw true n) M u = (if o'.done = true then (r, SwW .sweeping x l k (newD (r.at k l) r.cap 2 0) F sw false (n + 1), M', u') else (r, SwW .again x l k o' F sw true (n + 1), M', u')) := by
  unfold stepR SwW
  rw [if_neg (show ¬ ((false : Bool) = true) by decide)]
  unfold phaseR
  simp only [Option.getD_some, hs]
  rfl
theorem sw_fit (nx : RNext) (hx : x < 18446744073709551616) (hF : F < 18446744073709551616) (hs : sw < 18446744073709551616) (h : (o.kind = 0 ∧ (nx = .pushing ∨ nx = .again)) ∨ (o.kind = 2 ∧ nx = .sweeping) ∨ nx = .asking) (hd' : nx ≠ .asking → o.done = false) : Fit (SwW nx x l k o F sw hd n) := by
  refine ⟨hx, hF, hs, fun h1 => ?_, fun h1 => ?_, fun h1 => ?_, fun h1 => ?_, fun h1 => ?_⟩ <;> simp only [SwW] at h1 ⊢
  · rcases h with ⟨a, b⟩ | ⟨a, b⟩ | b
    · exact ⟨o, rfl, a, hd' (by rcases b with b | b <;> rw [b] <;> decide)⟩
    · rw [b] at h1; simp at h1
    · rw [b] at h1; simp at h1
  · rcases h with ⟨a, b⟩ | ⟨a, b⟩ | b
    · rcases b with b | b <;> (rw [b] at h1; simp at h1)
    · exact ⟨o, rfl, a, hd' (by rw [b]; decide)⟩
    · rw [b] at h1; simp at h1
  all_goals
    rcases h with ⟨a, b⟩ | ⟨a, b⟩ | b
    · rcases b with b | b <;> (rw [b] at h1; simp at h1)
    · rw [b] at h1; simp at h1
    · rw [b] at h1; simp at h1
end
/-- One word of the sweep: it is taken, asked about, and pushed again if it lives. -/
theorem sw_word (good : Nat → Bool) {r : RRack} {M : List Nat} {B t y : Nat} {L : List Nat} {x l k F sw n : Nat} (u : Nat) (hat : r.at k l = (B : Int)) (h : SQ M B r.cap t (y :: L)) (hF : t < F) (hFb : F < 1000) (hs : t + L.length < 9000) (hx : x < 18446744073709551616) (hsw : sw < 18446744073709551616) (hy : y < 18446744073709551616) (hn : n < 900000) :
    ∃ m, m ≤ 9 ∧ RunF good m (r, SwW .sweeping x l k (newD (B : Int) r.cap 2 0) F sw false n, M, u) fun s => ∃ n', n' ≤ n + 9 ∧ s.1 = r ∧ s.2.1 = SwW .sweeping x l k (newD (B : Int) r.cap 2 0) F y false n' ∧ SQ s.2.2.1 B r.cap (t + 1) (if good y = true then L ++ [y] else L) ∧ Else M s.2.2.1 r.base B r.cap := by
  have e1 : getA M ((B : Int) + 1) = t + L.length + 1 := by have := h.bot; simpa [Nat.add_assoc] using this
  have e2 : getA M (B : Int) = t := h.top
  have hsm := h.small
  have hft := h.fits
  have hlen := h.len
  have hc0 := h.cap0
  simp at hsm hft
  have ea : ¬ (ahd (t + L.length + 1) t ≤ 0) := by rw [ahd_diff (by omega) (by omega)]; omega
  have eF : ¬ (ahd F t ≤ 0) := by rw [ahd_diff (by omega) (by omega)]; omega
  have eb : add1 t = t + 1 := by unfold add1; omega
  have d1 : stepD (newD (B : Int) r.cap 2 0) M u = (⟨B, r.cap, 2, 1, 0, t, 0, false, false, 0⟩, M, tick M (B : Int) u) := by rw [sl0, e2]
  have d2 : ∀ u, stepD ⟨B, r.cap, 2, 1, 0, t, 0, false, false, 0⟩ M u = (⟨B, r.cap, 2, 2, t + L.length + 1, t, 0, false, false, 0⟩, M, tick M ((B : Int) + 1) u) := fun u => by rw [sl1, e1, if_neg ea]
  have d3 : ∀ u, stepD ⟨B, r.cap, 2, 2, t + L.length + 1, t, 0, false, false, 0⟩ M u = (⟨B, r.cap, 2, 3, t + L.length + 1, t, y, false, false, 0⟩, M, tick M (plc (B : Int) r.cap t) u) := fun u => by rw [sl2, h.head]
  have d4 : ∀ u, stepD ⟨B, r.cap, 2, 3, t + L.length + 1, t, y, false, false, 0⟩ M u = (⟨B, r.cap, 2, 4, t + L.length + 1, t, y, false, true, 0⟩, setA M (B : Int) (t + 1), tick M (B : Int) u) := fun u => by
    rw [sl3, wins_sq h, eb]; rfl
  have q4 := h.steal
  have l4 : Else M (setA M (B : Nat) (t + 1)) r.base B r.cap := (Else.refl _ _ _ _).set _ (by omega) (by omega)
  obtain ⟨M4, hM4⟩ : ∃ M4, M4 = setA M (B : Nat) (t + 1) := ⟨_, rfl⟩
  rw [← hM4] at q4 l4 d4
  clear hM4
  have R : ∀ (P : RS → Prop), (∀ u4, ∃ m, m ≤ 5 ∧ RunF good m (r, SwW .asking x l k ⟨B, r.cap, 2, 4, t + L.length + 1, t, y, false, true, 0⟩ F y true (n + 4), M4, u4) P) → ∃ m, m ≤ 9 ∧ RunF good m (r, SwW .sweeping x l k (newD (B : Int) r.cap 2 0) F sw false n, M, u) P := by
    intro P hP
    obtain ⟨m, hm, hR⟩ := hP (tick M (B : Int) (tick M (plc (B : Int) r.cap t) (tick M ((B : Int) + 1) (tick M (B : Int) u))))
    refine ⟨m + 4, by omega, ⟨rfl, by show n < 1000000; omega, sw_fit _ hx (by omega) hsw (.inr (.inl ⟨rfl, rfl⟩)) (fun _ => rfl), by simp [SwW]⟩, ?_⟩
    rw [sw_step d1, if_neg (by rw [rdone_not rfl]; simp only [not_or, not_and]; exact ⟨fun _ => eF, by decide⟩), if_neg (by rw [rdone_not rfl]; decide), if_neg (by rw [rdone_not rfl]; decide)]
    refine ⟨⟨rfl, by show n + 1 < 1000000; omega, sw_fit _ hx (by omega) hsw (.inr (.inl ⟨rfl, rfl⟩)) (fun _ => rfl), by simp [SwW]⟩, ?_⟩
    rw [sw_step (d2 _), if_neg (by rw [rdone_not rfl]; simp), if_neg (by rw [rdone_not rfl]; decide), if_neg (by rw [rdone_not rfl]; decide)]
    refine ⟨⟨rfl, by show n + 2 < 1000000; omega, sw_fit _ hx (by omega) hsw (.inr (.inl ⟨rfl, rfl⟩)) (fun _ => rfl), by simp [SwW]⟩, ?_⟩
    rw [sw_step (d3 _), if_neg (by rw [rdone_not rfl]; simp), if_neg (by rw [rdone_not rfl]; decide), if_neg (by rw [rdone_not rfl]; decide)]
    refine ⟨⟨rfl, by show n + 3 < 1000000; omega, sw_fit _ hx (by omega) hsw (.inr (.inl ⟨rfl, rfl⟩)) (fun _ => rfl), by simp [SwW]⟩, ?_⟩
    have hres : resD (⟨B, r.cap, 2, 4, t + L.length + 1, t, y, false, true, 0⟩ : DOp) = (y, 0) := rfl
    rw [sw_step (d4 _), hres, if_neg (by simp), if_neg (show ¬ ((0 : Int) = 8) by decide), if_pos rfl]
    exact hR
  refine R _ fun u4 => ?_
  by_cases hg : good y = true
  · have hq : L.length < r.cap := by omega
    have b1 : getA M4 ((B : Int) + 1) = t + 1 + L.length := q4.bot
    have b2 : getA M4 (B : Int) = t + 1 := q4.top
    have ec : ¬ ((r.cap : Int) ≤ ahd (t + 1 + L.length) (t + 1)) := by rw [ahd_diff (by omega) (by omega)]; omega
    have ed : add1 (t + 1 + L.length) = t + 1 + L.length + 1 := by unfold add1; omega
    have p1 : ∀ u, stepD (newD (B : Int) r.cap 0 y) M4 u = (⟨B, r.cap, 0, 1, t + 1 + L.length, 0, y, false, false, 0⟩, M4, tick M4 ((B : Int) + 1) u) := fun u => by rw [pu0, b1]
    have p2 : ∀ u, stepD ⟨B, r.cap, 0, 1, t + 1 + L.length, 0, y, false, false, 0⟩ M4 u = (⟨B, r.cap, 0, 2, t + 1 + L.length, t + 1, y, false, false, 0⟩, M4, tick M4 (B : Int) u) := fun u => by rw [pu1, b2, if_neg ec]
    have qp := q4.push hq y (by omega)
    obtain ⟨M6, hM6⟩ : ∃ M6, M6 = setA M4 (plc (B : Int) r.cap (t + 1 + L.length)) y := ⟨_, rfl⟩
    have p3 : ∀ u, stepD ⟨B, r.cap, 0, 2, t + 1 + L.length, t + 1, y, false, false, 0⟩ M4 u = (⟨B, r.cap, 0, 3, t + 1 + L.length, t + 1, y, false, false, 0⟩, M6, tick M4 (plc (B : Int) r.cap (t + 1 + L.length)) u) := fun u => by rw [pu2, hM6]
    obtain ⟨M7, hM7⟩ : ∃ M7, M7 = setA M6 ((B : Int) + 1) (t + 1 + L.length + 1) := ⟨_, rfl⟩
    have p4 : ∀ u, stepD ⟨B, r.cap, 0, 3, t + 1 + L.length, t + 1, y, false, false, 0⟩ M6 u = (⟨B, r.cap, 0, 4, t + 1 + L.length, t + 1, y, false, true, 0⟩, M7, tick M6 ((B : Int) + 1) u) := fun u => by rw [pu3, ed, hM7]
    have hm := Nat.mod_lt (t + 1 + L.length) hc0
    have l7 : Else M M7 r.base B r.cap := by rw [hM7, hM6]; exact (l4.set _ (by rw [plcN]; omega) (by rw [plcN]; omega)).set _ (by omega) (by omega)
    have q7 : SQ M7 B r.cap (t + 1) (L ++ [y]) := by rw [hM7, hM6]; exact qp
    refine ⟨5, by omega, ⟨rfl, by show n + 4 < 1000000; omega, sw_fit _ hx (by omega) hy (.inr (.inr rfl)) (fun h => absurd rfl h), by simp [SwW]⟩, ?_⟩
    rw [sw_ask, if_pos hg, hat]
    refine ⟨⟨rfl, by show n + 5 < 1000000; omega, sw_fit _ hx (by omega) hy (.inl ⟨rfl, .inr rfl⟩) (fun _ => rfl), by simp [SwW]⟩, ?_⟩
    rw [sw_again (p1 _), if_neg (by simp)]
    refine ⟨⟨rfl, by show n + 6 < 1000000; omega, sw_fit _ hx (by omega) hy (.inl ⟨rfl, .inr rfl⟩) (fun _ => rfl), by simp [SwW]⟩, ?_⟩
    rw [sw_again (p2 _), if_neg (by simp)]
    refine ⟨⟨rfl, by show n + 7 < 1000000; omega, sw_fit _ hx (by omega) hy (.inl ⟨rfl, .inr rfl⟩) (fun _ => rfl), by simp [SwW]⟩, ?_⟩
    rw [sw_again (p3 _), if_neg (by simp)]
    refine ⟨⟨rfl, by show n + 8 < 1000000; omega, sw_fit _ hx (by omega) hy (.inl ⟨rfl, .inr rfl⟩) (fun _ => rfl), by simp [SwW]⟩, ?_⟩
    rw [sw_again (p4 _), if_pos rfl, hat]
    exact ⟨n + 9, by omega, rfl, rfl, by rw [if_pos hg]; exact q7, l7⟩
  · refine ⟨1, by omega, ⟨rfl, by show n + 4 < 1000000; omega, sw_fit _ hx (by omega) hy (.inr (.inr rfl)) (fun h => absurd rfl h), by simp [SwW]⟩, ?_⟩
    rw [sw_ask, if_neg hg, hat]
    exact ⟨n + 5, by omega, rfl, rfl, by rw [if_neg hg]; exact q4, l4⟩
/-- The whole sweep. -/
theorem sw_all (good : Nat → Bool) {r : RRack} {B : Nat} {x l k F : Nat} (hat : r.at k l = (B : Int)) (hFb : F < 1000) (hx : x < 18446744073709551616) :
    ∀ (ws : List Nat) {M : List Nat} {t : Nat} {L : List Nat} {sw n : Nat} (u : Nat), SQ M B r.cap t (ws ++ L) → t + ws.length = F → t + 2 * ws.length + L.length < 9000 → sw < 18446744073709551616 → (∀ y ∈ ws, y < 18446744073709551616) → n + 9 * ws.length < 900000 →
    ∃ m, m ≤ 9 * ws.length + 1 ∧ RunF good m (r, SwW .sweeping x l k (newD (B : Int) r.cap 2 0) F sw false n, M, u) fun s => ∃ n' sw', n' ≤ n + 9 * ws.length + 1 ∧ sw' < 18446744073709551616 ∧ s.1 = r ∧ s.2.1 = SwW .pushing x l k (newD (B : Int) r.cap 0 x) F sw' false n' ∧ SQ s.2.2.1 B r.cap F (L ++ ws.filter good) ∧ Else M s.2.2.1 r.base B r.cap
  | [], M, t, L, sw, n, u, h, hF, hs, hsw, _, hn => by
    have e2 : getA M (B : Int) = t := h.top
    simp at hF hs hn h
    subst hF
    have d1 : stepD (newD (B : Int) r.cap 2 0) M u = (⟨B, r.cap, 2, 1, 0, t, 0, false, false, 0⟩, M, tick M (B : Int) u) := by rw [sl0, e2]
    refine ⟨1, by omega, ⟨rfl, by show n < 1000000; omega, sw_fit _ hx (by omega) hsw (.inr (.inl ⟨rfl, rfl⟩)) (fun _ => rfl), by simp [SwW]⟩, ?_⟩
    rw [sw_step d1, if_pos (.inl ⟨rfl, by show ahd t t ≤ 0; rw [ahd_diff (by omega) (by omega)]; omega⟩), hat]
    exact ⟨n + 1, sw, by simp, hsw, rfl, rfl, by simpa using h, Else.refl _ _ _ _⟩
  | y :: ws, M, t, L, sw, n, u, h, hF, hs, hsw, hy, hn => by
    simp at hF hs hn
    have hy0 := hy y (by simp)
    obtain ⟨m, hm, hR⟩ := sw_word good (x := x) (l := l) (k := k) (F := F) (sw := sw) (n := n) u hat h (by omega) hFb (by simp; omega) hx hsw hy0 (by omega)
    obtain ⟨m2, hm2, hR2⟩ := hR.bind (N := 9 * ws.length + 1) (P := fun s => ∃ n' sw', n' ≤ n + 9 * (y :: ws).length + 1 ∧ sw' < 18446744073709551616 ∧ s.1 = r ∧ s.2.1 = SwW .pushing x l k (newD (B : Int) r.cap 0 x) F sw' false n' ∧ SQ s.2.2.1 B r.cap F (L ++ (y :: ws).filter good) ∧ Else M s.2.2.1 r.base B r.cap) (by
      rintro ⟨r', w', M', u'⟩ ⟨n', hn', h1, h2, h3, h4⟩
      simp only at h1 h2 h3 h4
      have h1' := h1.symm
      subst h1'
      subst h2
      have h3' : SQ M' B r.cap (t + 1) (ws ++ (L ++ [y].filter good)) := by
        by_cases hg : good y = true
        · rw [if_pos hg] at h3; simpa [hg] using h3
        · rw [if_neg hg] at h3; simpa [hg] using h3
      have hlen : ([y].filter good).length ≤ 1 := by have := List.length_filter_le good [y]; simpa using this
      obtain ⟨m3, hm3, hR3⟩ := sw_all good hat hFb hx ws (t := t + 1) (L := L ++ [y].filter good) (sw := y) (n := n') u' h3' (by omega) (by rw [List.length_append]; omega) hy0 (fun z hz => hy z (by simp [hz])) (by omega)
      refine ⟨m3, hm3, hR3.mono ?_⟩
      rintro s ⟨n3, sw3, a1, a2, a3, a4, a5, a6⟩
      refine ⟨n3, sw3, by simp; omega, a2, a3, a4, ?_, h4.trans a6⟩
      rw [List.append_assoc, ← List.filter_append] at a5
      exact a5)
    exact ⟨m2, by simp; omega, hR2⟩
end Go.Proofs.YtjdbgohfedjifaaDoor
