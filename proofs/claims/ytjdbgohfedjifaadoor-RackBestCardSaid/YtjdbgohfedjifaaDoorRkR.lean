/- rack: whole works of an owner alone, plainly. -/
import Derived.Test.YtjdbgohfedjifaaDoorRk12
import Derived.Test.YtjdbgohfedjifaaDoorRkQ
namespace Go.Proofs.YtjdbgohfedjifaaDoor
open Go.RowKit Bosun
abbrev RS := RRack × RWork × List Nat × Nat
/-- So many steps, each one that is shown, then P. -/
def Run (good : Nat → Bool) : Nat → RS → (RS → Prop) → Prop
  | 0, s, P => P s
  | n + 1, s, P => (s.2.1.done = false ∧ s.2.1.steps < 1000000 ∧ Can s.2.1 s.2.2.1 s.2.2.2) ∧ Run good n (stepR good s.1 s.2.1 s.2.2.1 s.2.2.2) P
theorem Run.spec {good : Nat → Bool} {P : RS → Prop} : ∀ {n : Nat} {s : RS}, Run good n s P → P (itR good n s) ∧ ∀ k, k < n → (itR good k s).2.1.steps < 1000000 ∧ Can (itR good k s).2.1 (itR good k s).2.2.1 (itR good k s).2.2.2
  | 0, s, h => ⟨h, fun k hk => absurd hk (by omega)⟩
  | n + 1, s, h => by
    obtain ⟨i1, i2⟩ := Run.spec h.2
    refine ⟨i1, fun k hk => ?_⟩
    match k, hk with
    | 0, _ => exact h.1.2
    | k + 1, hk => exact i2 k (by omega)
theorem Run.mono {good : Nat → Bool} {P Q : RS → Prop} (hPQ : ∀ s, P s → Q s) : ∀ {n : Nat} {s : RS}, Run good n s P → Run good n s Q
  | 0, _, h => hPQ _ h
  | _ + 1, _, h => ⟨h.1, Run.mono hPQ h.2⟩
section
variable {good : Nat → Bool} {r : RRack} {w : RWork} {M M' : List Nat} {u u' : Nat} {o o' : DOp}
theorem st_pushing (hn : w.next = .pushing) (hd : w.done = false) (ho : w.op = some o) (hs : stepD o M u = (o', M', u')) (hd' : o'.done = false) :
    stepR good r w M u = (r, { w with steps := w.steps + 1, op := some o' }, M', u') := by
  unfold stepR
  rw [if_neg (by rw [hd]; simp)]
  unfold phaseR
  simp only [hn, ho, Option.getD_some, hs, if_pos hd']
theorem st_pushed (hn : w.next = .pushing) (hd : w.done = false) (ho : w.op = some o) (hs : stepD o M u = (o', M', u')) (hd' : o'.done = true) (he : o'.err ≠ 6) :
    stepR good r w M u = (if put (r.set w.kind) w.level true ≠ r.set w.kind ∧ w.kind = 0 then (r.put w.kind (put (r.set w.kind) w.level true), { w with steps := w.steps + 1, op := some o', there := true, next := .signing }, M', u')
       else (r.put w.kind (put (r.set w.kind) w.level true), { w with steps := w.steps + 1, op := some o', there := true, done := true, err := 0 }, M', u')) := by
  unfold stepR
  rw [if_neg (by rw [hd]; simp)]
  unfold phaseR
  simp only [hn, ho, Option.getD_some, hs]
  rw [if_neg (by rw [hd']; simp), if_neg he]
theorem st_signing (hn : w.next = .signing) (hd : w.done = false) : stepR good r w M u = (r, { w with steps := w.steps + 1, done := true, err := 0 }, setA M r.base r.s0, tick M r.base u) := by
  unfold stepR
  rw [if_neg (by rw [hd]; simp)]
  unfold phaseR
  simp only [hn]
theorem st_emptying (hn : w.next = .emptying) (hd : w.done = false) : stepR good r w M u = (r, { w with steps := w.steps + 1, done := true, err := 8 }, setA M r.base r.s0, tick M r.base u) := by
  unfold stepR
  rw [if_neg (by rw [hd]; simp)]
  unfold phaseR
  simp only [hn]
theorem st_taking (hn : w.next = .taking) (hd : w.done = false) (ho : w.op = some o) (hs : stepD o M u = (o', M', u')) (hd' : o'.done = false) :
    stepR good r w M u = (r, { w with steps := w.steps + 1, op := some o' }, M', u') := by
  unfold stepR
  rw [if_neg (by rw [hd]; simp)]
  unfold phaseR
  simp only [hn, ho, Option.getD_some, hs, if_pos hd']
theorem st_took (hn : w.next = .taking) (hd : w.done = false) (ho : w.op = some o) (hs : stepD o M u = (o', M', u')) (hd' : o'.done = true) (he : (resD o').2 ≠ 7) :
    stepR good r w M u = (r, { w with steps := w.steps + 1, op := some o', x := (resD o').1, done := true, err := (resD o').2 }, M', u') := by
  unfold stepR
  rw [if_neg (by rw [hd]; simp)]
  unfold phaseR
  simp only [hn, ho, Option.getD_some, hs]
  rw [if_neg (by rw [hd']; simp), if_pos he]
theorem st_found (hn : w.next = .taking) (hd : w.done = false) (ho : w.op = some o) (hs : stepD o M u = (o', M', u')) (hd' : o'.done = true) (he : (resD o').2 = 7) :
    stepR good r w M u = (if put (r.set w.kind) w.level false ≠ r.set w.kind ∧ w.kind = 0 then (r.put w.kind (put (r.set w.kind) w.level false), { w with steps := w.steps + 1, op := some o', next := .emptying }, M', u')
       else (r.put w.kind (put (r.set w.kind) w.level false), { w with steps := w.steps + 1, op := some o', done := true, err := 8 }, M', u')) := by
  unfold stepR
  rw [if_neg (by rw [hd]; simp)]
  unfold phaseR
  simp only [hn, ho, Option.getD_some, hs]
  rw [if_neg (by rw [hd']; simp), if_neg (by rw [he]; simp)]
end
/-- What is elsewhere stays. -/
def Else (M M' : List Nat) (b : Int) (B cap : Nat) : Prop := M'.length = M.length ∧ ∀ a : Int, a ≠ b → (a < B ∨ (B + 2 + cap : Nat) ≤ a) → getA M' a = getA M a
theorem set_getA (r : RRack) (k s : Nat) : (r.put k s).base = r.base := by unfold RRack.put; split <;> rfl
theorem put_run (good : Nat → Bool) {r : RRack} {M : List Nat} {B cap t : Nat} {L : List Nat} {k l x : Nat} (u : Nat) (h : SQ M B cap t L) (hf : L.length < cap) (hs : t + L.length < 99999) (hb : r.base < (B : Int)) :
    ∃ n, n ≤ 5 ∧ Run good n (r, ⟨.pushing, x, l, k, some (newD (B : Int) cap 0 x), 0, 0, false, false, false, false, 0, false, 0⟩, M, u) fun s =>
      s.1 = r.put k (put (r.set k) l true) ∧ s.2.1.done = true ∧ resR s.2.1 = (x, (l : Int), 0) ∧ SQ s.2.2.1 B cap t (L ++ [x]) ∧ Else M s.2.2.1 r.base B cap := by
  have e1 : getA M ((B : Int) + 1) = t + L.length := h.bot
  have e2 : getA M (B : Int) = t := h.top
  have ea : ¬ ((cap : Int) ≤ ahd (t + L.length) t) := by rw [ahd_diff (by omega) (by omega)]; omega
  have eb : add1 (t + L.length) = t + L.length + 1 := by unfold add1; omega
  have hlen := h.len
  have d1 : stepD (newD (B : Int) cap 0 x) M u = (⟨B, cap, 0, 1, t + L.length, 0, x, false, false, 0⟩, M, tick M ((B : Int) + 1) u) := by rw [pu0, e1]
  have d2 : ∀ u, stepD ⟨B, cap, 0, 1, t + L.length, 0, x, false, false, 0⟩ M u = (⟨B, cap, 0, 2, t + L.length, t, x, false, false, 0⟩, M, tick M (B : Int) u) := fun u => by rw [pu1, e2, if_neg ea]
  obtain ⟨M3, hM3⟩ : ∃ M3, M3 = setA M (plc (B : Int) cap (t + L.length)) x := ⟨_, rfl⟩
  have d3 : ∀ u, stepD ⟨B, cap, 0, 2, t + L.length, t, x, false, false, 0⟩ M u = (⟨B, cap, 0, 3, t + L.length, t, x, false, false, 0⟩, M3, tick M (plc (B : Int) cap (t + L.length)) u) := fun u => by rw [pu2, hM3]
  obtain ⟨M4, hM4⟩ : ∃ M4, M4 = setA M3 ((B : Int) + 1) (t + L.length + 1) := ⟨_, rfl⟩
  have d4 : ∀ u, stepD ⟨B, cap, 0, 3, t + L.length, t, x, false, false, 0⟩ M3 u = (⟨B, cap, 0, 4, t + L.length, t, x, false, true, 0⟩, M4, tick M3 ((B : Int) + 1) u) := fun u => by rw [pu3, eb, hM4]
  have q4 : SQ M4 B cap t (L ++ [x]) := by rw [hM4, hM3]; exact h.push hf x hs
  have l4 : M4.length = M.length := by rw [hM4, hM3, setA_length, setA_length]
  have o4 : ∀ a : Int, (a < B ∨ (B + 2 + cap : Nat) ≤ a) → getA M4 a = getA M a := by
    intro a ha
    have hm := Nat.mod_lt (t + L.length) h.cap0
    rw [hM4, gs_other (by omega), hM3, gs_other (by rw [plcN]; omega)]
  by_cases hc : put (r.set k) l true ≠ r.set k ∧ k = 0
  · refine ⟨5, by omega, ⟨rfl, (show 0 < 1000000 by decide), .inl ⟨rfl, _, rfl, by rw [d1]; simp⟩⟩, ?_⟩
    rw [st_pushing rfl rfl rfl d1 rfl]
    refine ⟨⟨rfl, by show 1 < 1000000; decide, .inl ⟨rfl, _, rfl, by rw [d2]; simp⟩⟩, ?_⟩
    rw [st_pushing rfl rfl rfl (d2 _) rfl]
    refine ⟨⟨rfl, by show 2 < 1000000; decide, .inl ⟨rfl, _, rfl, by rw [d3]; simp⟩⟩, ?_⟩
    rw [st_pushing rfl rfl rfl (d3 _) rfl]
    refine ⟨⟨rfl, by show 3 < 1000000; decide, .inl ⟨rfl, _, rfl, by rw [d4]; simp⟩⟩, ?_⟩
    rw [st_pushed rfl rfl rfl (d4 _) rfl (by show (0 : Int) ≠ 6; decide), if_pos hc]
    refine ⟨⟨rfl, by show 4 < 1000000; decide, .inr (.inl rfl)⟩, ?_⟩
    rw [st_signing rfl rfl]
    have hbb := set_getA r k (put (r.set k) l true)
    have q5 : ∀ s, SQ (setA M4 (r.put k (put (r.set k) l true)).base s) B cap t (L ++ [x]) := fun s => q4.keep (setA_length _ _ _) fun a h1 h2 => gs_other (by omega) _
    have l5 : ∀ s, Else M (setA M4 (r.put k (put (r.set k) l true)).base s) r.base B cap := fun s => ⟨by rw [setA_length]; exact l4, fun a h1 h2 => by rw [gs_other (by omega)]; exact o4 a h2⟩
    exact ⟨rfl, rfl, rfl, q5 _, l5 _⟩
  · refine ⟨4, by omega, ⟨rfl, (show 0 < 1000000 by decide), .inl ⟨rfl, _, rfl, by rw [d1]; simp⟩⟩, ?_⟩
    rw [st_pushing rfl rfl rfl d1 rfl]
    refine ⟨⟨rfl, by show 1 < 1000000; decide, .inl ⟨rfl, _, rfl, by rw [d2]; simp⟩⟩, ?_⟩
    rw [st_pushing rfl rfl rfl (d2 _) rfl]
    refine ⟨⟨rfl, by show 2 < 1000000; decide, .inl ⟨rfl, _, rfl, by rw [d3]; simp⟩⟩, ?_⟩
    rw [st_pushing rfl rfl rfl (d3 _) rfl]
    refine ⟨⟨rfl, by show 3 < 1000000; decide, .inl ⟨rfl, _, rfl, by rw [d4]; simp⟩⟩, ?_⟩
    rw [st_pushed rfl rfl rfl (d4 _) rfl (by show (0 : Int) ≠ 6; decide), if_neg hc]
    exact ⟨rfl, rfl, rfl, q4, l4, fun a _ h2 => o4 a h2⟩
end Go.Proofs.YtjdbgohfedjifaaDoor
