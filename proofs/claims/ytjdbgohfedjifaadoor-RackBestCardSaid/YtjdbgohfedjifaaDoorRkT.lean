/- rack: a whole Take of an owner alone, plainly. -/
import Derived.Test.YtjdbgohfedjifaaDoorRkR
namespace Bosun
open Go
/-- The deque that a Take turns to, and what it makes of the rack. -/
def chK (r : RRack) (l : Nat) : Nat := if (r.s0.testBit l && r.s1.testBit l) = true then r.turn else if r.s1.testBit l = true then 1 else 0
def chR (r : RRack) (l : Nat) : RRack := if (r.s0.testBit l && r.s1.testBit l) = true then { r with turn := 1 - r.turn } else r
theorem chR_same (r : RRack) (l : Nat) : (chR r l).base = r.base ∧ (chR r l).cap = r.cap ∧ (chR r l).s0 = r.s0 ∧ (chR r l).s1 = r.s1 := by unfold chR; split <;> exact ⟨rfl, rfl, rfl, rfl⟩
theorem chR_set (r : RRack) (l k : Nat) : (chR r l).set k = r.set k := by unfold RRack.set; rw [(chR_same r l).2.2.1, (chR_same r l).2.2.2]
theorem chR_at (r : RRack) (l k j : Nat) : (chR r l).at k j = r.at k j := by unfold RRack.at; rw [(chR_same r l).1, (chR_same r l).2.1]
theorem chR_turn {r : RRack} (h : r.turn < 2) (l : Nat) : (chR r l).turn < 2 := by unfold chR; split; show 1 - r.turn < 2; omega; exact h
theorem chK_lt {r : RRack} (h : r.turn < 2) (l : Nat) : chK r l < 2 := by unfold chK; split; exact h; split <;> omega
end Bosun
namespace Go.Proofs.YtjdbgohfedjifaaDoor
open Go.RowKit Bosun
section
variable {good : Nat → Bool} {r : RRack} {M M' : List Nat} {u u' : Nat}
theorem st_none (h8 : bestR r = 8) : stepR good r takeW M u = (r, ⟨.choosing, 0, 8, 0, none, 0, 0, false, false, true, false, 1, true, 7⟩, M, u) := by
  unfold stepR
  rw [if_neg (by decide)]
  unfold phaseR
  simp only [takeW, if_pos h8]
theorem st_choose (h8 : bestR r ≠ 8) : stepR good r takeW M u = (chR r (bestR r), ⟨.taking, 0, bestR r, chK r (bestR r), some (newD (r.at (chK r (bestR r)) (bestR r)) r.cap 2 0), 0, 0, false, false, true, false, 1, false, 0⟩, M, u) := by
  unfold stepR
  rw [if_neg (by decide)]
  unfold phaseR
  simp only [takeW, if_neg h8]
  rfl
end
theorem take_none (good : Nat → Bool) {r : RRack} (M : List Nat) (u : Nat) (h8 : bestR r = 8) : Run good 1 (r, takeW, M, u) fun s => s.1 = r ∧ s.2.1.done = true ∧ resR s.2.1 = (0, 8, 7) ∧ s.2.2.1 = M := by
  refine ⟨⟨rfl, (show 0 < 1000000 by decide), .inr (.inr (.inl rfl))⟩, ?_⟩
  rw [st_none h8]
  exact ⟨rfl, rfl, rfl, rfl⟩
theorem take_some (good : Nat → Bool) {r : RRack} {M : List Nat} {B t : Nat} {L : List Nat} {l x : Nat} (u : Nat) (hl : bestR r = l) (hl8 : l < 8) (hat : r.at (chK r l) l = (B : Int)) (h : SQ M B r.cap t (x :: L)) :
    Run good 5 (r, takeW, M, u) fun s => s.1 = chR r l ∧ s.2.1.done = true ∧ resR s.2.1 = (x, (l : Int), 0) ∧ SQ s.2.2.1 B r.cap (t + 1) L ∧ Else M s.2.2.1 r.base B r.cap := by
  have e1 : getA M ((B : Int) + 1) = t + L.length + 1 := by have := h.bot; simpa [Nat.add_assoc] using this
  have e2 : getA M (B : Int) = t := h.top
  have hsm := h.small
  have hft := h.fits
  have hlen := h.len
  simp at hsm hft
  have ea : ¬ (ahd (t + L.length + 1) t ≤ 0) := by rw [ahd_diff (by omega) (by omega)]; omega
  have eb : add1 t = t + 1 := by unfold add1; omega
  have d1 : stepD (newD (B : Int) r.cap 2 0) M u = (⟨B, r.cap, 2, 1, 0, t, 0, false, false, 0⟩, M, tick M (B : Int) u) := by rw [sl0, e2]
  have d2 : ∀ u, stepD ⟨B, r.cap, 2, 1, 0, t, 0, false, false, 0⟩ M u = (⟨B, r.cap, 2, 2, t + L.length + 1, t, 0, false, false, 0⟩, M, tick M ((B : Int) + 1) u) := fun u => by rw [sl1, e1, if_neg ea]
  have d3 : ∀ u, stepD ⟨B, r.cap, 2, 2, t + L.length + 1, t, 0, false, false, 0⟩ M u = (⟨B, r.cap, 2, 3, t + L.length + 1, t, x, false, false, 0⟩, M, tick M (plc (B : Int) r.cap t) u) := fun u => by rw [sl2, h.head]
  have d4 : ∀ u, stepD ⟨B, r.cap, 2, 3, t + L.length + 1, t, x, false, false, 0⟩ M u = (⟨B, r.cap, 2, 4, t + L.length + 1, t, x, false, true, 0⟩, setA M (B : Int) (t + 1), tick M (B : Int) u) := fun u => by
    rw [sl3, wins_sq h, eb]; rfl
  refine ⟨⟨rfl, (show 0 < 1000000 by decide), .inr (.inr (.inl rfl))⟩, ?_⟩
  rw [st_choose (r := r) (by omega), hl, hat]
  refine ⟨⟨rfl, by show 1 < 1000000; decide, .inr (.inr (.inr (.inl ⟨rfl, _, rfl⟩)))⟩, ?_⟩
  rw [st_taking rfl rfl rfl d1 rfl]
  refine ⟨⟨rfl, by show 2 < 1000000; decide, .inr (.inr (.inr (.inl ⟨rfl, _, rfl⟩)))⟩, ?_⟩
  rw [st_taking rfl rfl rfl (d2 _) rfl]
  refine ⟨⟨rfl, by show 3 < 1000000; decide, .inr (.inr (.inr (.inl ⟨rfl, _, rfl⟩)))⟩, ?_⟩
  rw [st_taking rfl rfl rfl (d3 _) rfl]
  refine ⟨⟨rfl, by show 4 < 1000000; decide, .inr (.inr (.inr (.inl ⟨rfl, _, rfl⟩)))⟩, ?_⟩
  rw [st_took rfl rfl rfl (d4 _) rfl (by show (0 : Int) ≠ 7; decide)]
  exact ⟨rfl, rfl, rfl, h.steal, by rw [setA_length], fun a _ h2 => gs_other (by omega) _⟩
theorem take_miss (good : Nat → Bool) {r : RRack} {M : List Nat} {B t : Nat} {l : Nat} (u : Nat) (hl : bestR r = l) (hl8 : l < 8) (hat : r.at (chK r l) l = (B : Int)) (h : SQ M B r.cap t []) (hb : r.base < (B : Int)) :
    ∃ n, n ≤ 4 ∧ Run good n (r, takeW, M, u) fun s => s.1 = (chR r l).put (chK r l) (put (r.set (chK r l)) l false) ∧ s.2.1.done = true ∧ resR s.2.1 = (0, 8, 8) ∧ SQ s.2.2.1 B r.cap t [] ∧ Else M s.2.2.1 r.base B r.cap := by
  have e1 : getA M ((B : Int) + 1) = t := h.bot
  have e2 : getA M (B : Int) = t := h.top
  have hsm := h.small
  have hlen := h.len
  simp at hsm
  have ea : ahd t t ≤ 0 := by rw [ahd_diff (by omega) (by omega)]; omega
  have d1 : stepD (newD (B : Int) r.cap 2 0) M u = (⟨B, r.cap, 2, 1, 0, t, 0, false, false, 0⟩, M, tick M (B : Int) u) := by rw [sl0, e2]
  have d2 : ∀ u, stepD ⟨B, r.cap, 2, 1, 0, t, 0, false, false, 0⟩ M u = (⟨B, r.cap, 2, 2, t, t, 0, false, true, 7⟩, M, tick M ((B : Int) + 1) u) := fun u => by rw [sl1, e1, if_pos ea]
  by_cases hc : put ((chR r l).set (chK r l)) l false ≠ (chR r l).set (chK r l) ∧ chK r l = 0
  · refine ⟨4, by omega, ⟨rfl, (show 0 < 1000000 by decide), .inr (.inr (.inl rfl))⟩, ?_⟩
    rw [st_choose (r := r) (by omega), hl, hat]
    refine ⟨⟨rfl, by show 1 < 1000000; decide, .inr (.inr (.inr (.inl ⟨rfl, _, rfl⟩)))⟩, ?_⟩
    rw [st_taking rfl rfl rfl d1 rfl]
    refine ⟨⟨rfl, by show 2 < 1000000; decide, .inr (.inr (.inr (.inl ⟨rfl, _, rfl⟩)))⟩, ?_⟩
    rw [st_found rfl rfl rfl (d2 _) rfl rfl, if_pos hc]
    refine ⟨⟨rfl, by show 3 < 1000000; decide, .inr (.inr (.inr (.inr rfl)))⟩, ?_⟩
    rw [st_emptying rfl rfl, chR_set]
    have hbb : ((chR r l).put (chK r l) (put (r.set (chK r l)) l false)).base = r.base := by rw [set_getA, (chR_same r l).1]
    have q5 : ∀ s, SQ (setA M ((chR r l).put (chK r l) (put (r.set (chK r l)) l false)).base s) B r.cap t [] := fun s => h.keep (setA_length _ _ _) fun a h1 h2 => gs_other (by omega) _
    have l5 : ∀ s, Else M (setA M ((chR r l).put (chK r l) (put (r.set (chK r l)) l false)).base s) r.base B r.cap := fun s => ⟨by rw [setA_length], fun a h1 h2 => gs_other (by omega) _⟩
    exact ⟨rfl, rfl, rfl, q5 _, l5 _⟩
  · refine ⟨3, by omega, ⟨rfl, (show 0 < 1000000 by decide), .inr (.inr (.inl rfl))⟩, ?_⟩
    rw [st_choose (r := r) (by omega), hl, hat]
    refine ⟨⟨rfl, by show 1 < 1000000; decide, .inr (.inr (.inr (.inl ⟨rfl, _, rfl⟩)))⟩, ?_⟩
    rw [st_taking rfl rfl rfl d1 rfl]
    refine ⟨⟨rfl, by show 2 < 1000000; decide, .inr (.inr (.inr (.inl ⟨rfl, _, rfl⟩)))⟩, ?_⟩
    rw [st_found rfl rfl rfl (d2 _) rfl rfl, if_neg hc, chR_set]
    exact ⟨rfl, rfl, rfl, h, rfl, fun _ _ _ => rfl⟩
end Go.Proofs.YtjdbgohfedjifaaDoor
