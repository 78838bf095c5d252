/- rack: a deque that one works on alone, plainly: a queue. No program in sight. -/
import Derived.Test.YtjdbgohfedjifaaDoorRk0
import Derived.Test.YtjdbgohfedjifaaDoorRk12
namespace Bosun
open Go
theorem gs_same {W : List Nat} {k : Nat} (h : k < W.length) (x : Nat) : getA (setA W k x) k = x := by
  rw [setA_yes h, getA_yes (by simpa using h)]; simp
theorem gs_other {W : List Nat} {k j : Int} (h : k ≠ j) (x : Nat) : getA (setA W k x) j = getA W j := by
  by_cases hk : hasA W k = true
  · obtain ⟨k0, k1⟩ := hasA_iff.1 hk
    obtain ⟨k', rfl⟩ := Int.eq_ofNat_of_zero_le k0
    rw [setA_yes (by omega)]
    by_cases hj : hasA W j = true
    · obtain ⟨j0, j1⟩ := hasA_iff.1 hj
      obtain ⟨j', rfl⟩ := Int.eq_ofNat_of_zero_le j0
      rw [getA_yes (W := W) (k := j') (by omega), getA_yes (W := W.set k' x) (k := j') (by rw [List.length_set]; omega), List.getElem_set, if_neg (by omega)]
    · have hj' : hasA W j = false := by simpa using hj
      rw [getA_no hj', getA_no (by unfold hasA at hj' ⊢; rw [List.length_set]; exact hj')]
  · rw [setA_no (by simpa using hk)]
theorem ahd_diff {a b : Nat} (ha : a < 1000000) (hb : b < 1000000) : ahd a b = (a : Int) - (b : Int) := by unfold ahd; rw [IntKind.wrap_i64]; omega
theorem plcN (B cap k : Nat) : plc (B : Int) cap k = ((B + 2 + k % cap : Nat) : Int) := by unfold plc; push_cast; rfl
/-- A deque at B: its top is t, its words L. -/
structure SQ (W : List Nat) (B cap t : Nat) (L : List Nat) : Prop where
  top : getA W (B : Nat) = t
  bot : getA W ((B : Int) + 1) = t + L.length
  at_ : ∀ j (h : j < L.length), getA W ((B + 2 + (t + j) % cap : Nat) : Int) = L[j]
  fits : L.length ≤ cap
  len : B + 2 + cap ≤ W.length
  small : t + L.length < 100000
  cap0 : 0 < cap
  cap1 : cap ≤ 256
theorem modne {t cap i j : Nat} (hi : i < j) (hj : j - i < cap) : (t + i) % cap ≠ (t + j) % cap := by
  intro h
  have h4 := Nat.sub_mod_eq_zero_of_mod_eq h.symm
  rw [show t + j - (t + i) = j - i from by omega, Nat.mod_eq_of_lt hj] at h4
  omega
section
variable {W : List Nat} {B cap t : Nat} {L : List Nat}
/-- What stands elsewhere does not matter. -/
theorem SQ.keep {W' : List Nat} (h : SQ W B cap t L) (hl : W'.length = W.length) (hk : ∀ a : Int, (B : Int) ≤ a → a < (B + 2 + cap : Nat) → getA W' a = getA W a) : SQ W' B cap t L := by
  refine ⟨?_, ?_, fun j hj => ?_, h.fits, by rw [hl]; exact h.len, h.small, h.cap0, h.cap1⟩
  · rw [hk _ (by omega) (by omega)]; exact h.top
  · rw [hk _ (by omega) (by omega)]; exact h.bot
  · have := Nat.mod_lt (t + j) h.cap0
    rw [hk _ (by omega) (by omega)]; exact h.at_ j hj
/-- The word is laid, and the bottom behind it. -/
theorem SQ.push (h : SQ W B cap t L) (hf : L.length < cap) (x : Nat) (hs : t + L.length < 99999) :
    SQ (setA (setA W (plc (B : Int) cap (t + L.length)) x) ((B : Int) + 1) (t + L.length + 1)) B cap t (L ++ [x]) := by
  have h1 := h.len
  have hm := Nat.mod_lt (t + L.length) h.cap0
  rw [plcN]
  have e1 : ((B : Int) + 1) = ((B + 1 : Nat) : Int) := by omega
  rw [e1]
  refine ⟨?_, ?_, fun j hj => ?_, by simp; omega, by rw [setA_length, setA_length]; exact h1, by simp; omega, h.cap0, h.cap1⟩
  · rw [gs_other (by omega), gs_other (by omega)]; exact h.top
  · rw [e1, gs_same (by rw [setA_length]; omega)]; simp; omega
  · have hmj := Nat.mod_lt (t + j) h.cap0
    rw [gs_other (by omega)]
    by_cases hjl : j < L.length
    · rw [gs_other (by have := modne (t := t) (cap := cap) hjl (by omega); omega), List.getElem_append_left hjl]; exact h.at_ j hjl
    · obtain rfl : j = L.length := by simp at hj; omega
      rw [gs_same (by omega)]; simp
/-- The first word goes. -/
theorem SQ.steal {x : Nat} (h : SQ W B cap t (x :: L)) : SQ (setA W (B : Nat) (t + 1)) B cap (t + 1) L := by
  have h1 := h.len
  have h2 := h.small
  have h3 := h.fits
  simp at h2 h3
  refine ⟨?_, ?_, fun j hj => ?_, by omega, by rw [setA_length]; exact h1, by omega, h.cap0, h.cap1⟩
  · rw [gs_same (by omega)]
  · rw [gs_other (by omega)]; have := h.bot; simp at this; rw [this]; omega
  · have := Nat.mod_lt (t + 1 + j) h.cap0
    rw [gs_other (by omega)]
    have := h.at_ (j + 1) (by simp; exact hj)
    rw [show t + (j + 1) = t + 1 + j from by omega] at this
    rw [this]; simp
theorem SQ.head {x : Nat} (h : SQ W B cap t (x :: L)) : getA W (plc (B : Int) cap t) = x := by
  rw [plcN]; have := h.at_ 0 (by simp); simpa using this
theorem wins_sq (h : SQ W B cap t L) : wins W (B : Nat) t = true := by
  have h1 := h.len
  unfold wins
  rw [hasA_yes (by omega), h.top]
  simp
end
/-- The steps of a push. -/
theorem pu0 (B : Int) (cap x : Nat) (W : List Nat) (u : Nat) : stepD (newD B cap 0 x) W u = (⟨B, cap, 0, 1, getA W (B + 1), 0, x, false, false, 0⟩, W, tick W (B + 1) u) := rfl
theorem pu1 (B : Int) (cap x b t : Nat) (W : List Nat) (u : Nat) : stepD ⟨B, cap, 0, 1, b, t, x, false, false, 0⟩ W u = ((if (cap : Int) ≤ ahd b (getA W B) then ⟨B, cap, 0, 2, b, getA W B, x, false, true, 6⟩ else ⟨B, cap, 0, 2, b, getA W B, x, false, false, 0⟩), W, tick W B u) := rfl
theorem pu2 (B : Int) (cap x b t : Nat) (W : List Nat) (u : Nat) : stepD ⟨B, cap, 0, 2, b, t, x, false, false, 0⟩ W u = (⟨B, cap, 0, 3, b, t, x, false, false, 0⟩, setA W (plc B cap b) x, tick W (plc B cap b) u) := rfl
theorem pu3 (B : Int) (cap x b t : Nat) (W : List Nat) (u : Nat) : stepD ⟨B, cap, 0, 3, b, t, x, false, false, 0⟩ W u = (⟨B, cap, 0, 4, b, t, x, false, true, 0⟩, setA W (B + 1) (add1 b), tick W (B + 1) u) := rfl
/-- The steps of a steal. -/
theorem sl0 (B : Int) (cap : Nat) (W : List Nat) (u : Nat) : stepD (newD B cap 2 0) W u = (⟨B, cap, 2, 1, 0, getA W B, 0, false, false, 0⟩, W, tick W B u) := rfl
theorem sl1 (B : Int) (cap b t : Nat) (W : List Nat) (u : Nat) : stepD ⟨B, cap, 2, 1, b, t, 0, false, false, 0⟩ W u = ((if ahd (getA W (B + 1)) t ≤ 0 then ⟨B, cap, 2, 2, getA W (B + 1), t, 0, false, true, 7⟩ else ⟨B, cap, 2, 2, getA W (B + 1), t, 0, false, false, 0⟩), W, tick W (B + 1) u) := rfl
theorem sl2 (B : Int) (cap b t : Nat) (W : List Nat) (u : Nat) : stepD ⟨B, cap, 2, 2, b, t, 0, false, false, 0⟩ W u = (⟨B, cap, 2, 3, b, t, getA W (plc B cap t), false, false, 0⟩, W, tick W (plc B cap t) u) := rfl
theorem sl3 (B : Int) (cap b t x : Nat) (W : List Nat) (u : Nat) : stepD ⟨B, cap, 2, 3, b, t, x, false, false, 0⟩ W u = (⟨B, cap, 2, 4, b, t, x, false, true, if wins W B t then 0 else 8⟩, if wins W B t then setA W B (add1 t) else W, tick W B u) := rfl
end Bosun

/- rack: whole works of an owner alone, plainly. -/
namespace Go.Proofs.YtjdbgohfedjifaaDoor
open Go.RowKit Bosun
abbrev RS := RRack × RWork × List Nat × Nat
/-- So many steps, each one that is shown, then P. -/
def Run (good : Nat → Bool) : Nat → RS → (RS → Prop) → Prop
  | 0, s, P => P s
  | n + 1, s, P => (s.2.1.done = false ∧ s.2.1.steps < 1000000 ∧ Can s.2.1 s.2.2.1 s.2.2.2) ∧ Run good n (stepR good s.1 s.2.1 s.2.2.1 s.2.2.2) P
theorem Run.spec {good : Nat → Bool} {P : RS → Prop} : ∀ {n : Nat} {s : RS}, Run good n s P → P (itR good n s) ∧ ∀ k, k < n → (itR good k s).2.1.steps < 1000000 ∧ Can (itR good k s).2.1 (itR good k s).2.2.1 (itR good k s).2.2.2
  | 0, s, h => ⟨h, fun k hk => absurd hk (by omega)⟩
  | n + 1, s, h => by
    obtain ⟨i1, i2⟩ := Run.spec h.2
    refine ⟨i1, fun k hk => ?_⟩
    match k, hk with
    | 0, _ => exact h.1.2
    | k + 1, hk => exact i2 k (by omega)
theorem Run.mono {good : Nat → Bool} {P Q : RS → Prop} (hPQ : ∀ s, P s → Q s) : ∀ {n : Nat} {s : RS}, Run good n s P → Run good n s Q
  | 0, _, h => hPQ _ h
  | _ + 1, _, h => ⟨h.1, Run.mono hPQ h.2⟩
section
variable {good : Nat → Bool} {r : RRack} {w : RWork} {M M' : List Nat} {u u' : Nat} {o o' : DOp}
theorem st_pushing (hn : w.next = .pushing) (hd : w.done = false) (ho : w.op = some o) (hs : stepD o M u = (o', M', u')) (hd' : o'.done = false) :
    stepR good r w M u = (r, { w with steps := w.steps + 1, op := some o' }, M', u') := by
  unfold stepR
  rw [if_neg (by rw [hd]; simp)]
  unfold phaseR
  simp only [hn, ho, Option.getD_some, hs, if_pos hd']
theorem st_pushed (hn : w.next = .pushing) (hd : w.done = false) (ho : w.op = some o) (hs : stepD o M u = (o', M', u')) (hd' : o'.done = true) (he : o'.err ≠ 6) :
    stepR good r w M u = (if put (r.set w.kind) w.level true ≠ r.set w.kind ∧ w.kind = 0 then (r.put w.kind (put (r.set w.kind) w.level true), { w with steps := w.steps + 1, op := some o', there := true, next := .signing }, M', u')
       else (r.put w.kind (put (r.set w.kind) w.level true), { w with steps := w.steps + 1, op := some o', there := true, done := true, err := 0 }, M', u')) := by
  unfold stepR
  rw [if_neg (by rw [hd]; simp)]
  unfold phaseR
  simp only [hn, ho, Option.getD_some, hs]
  rw [if_neg (by rw [hd']; simp), if_neg he]
theorem st_signing (hn : w.next = .signing) (hd : w.done = false) : stepR good r w M u = (r, { w with steps := w.steps + 1, done := true, err := 0 }, setA M r.base r.s0, tick M r.base u) := by
  unfold stepR
  rw [if_neg (by rw [hd]; simp)]
  unfold phaseR
  simp only [hn]
theorem st_emptying (hn : w.next = .emptying) (hd : w.done = false) : stepR good r w M u = (r, { w with steps := w.steps + 1, done := true, err := 8 }, setA M r.base r.s0, tick M r.base u) := by
  unfold stepR
  rw [if_neg (by rw [hd]; simp)]
  unfold phaseR
  simp only [hn]
theorem st_taking (hn : w.next = .taking) (hd : w.done = false) (ho : w.op = some o) (hs : stepD o M u = (o', M', u')) (hd' : o'.done = false) :
    stepR good r w M u = (r, { w with steps := w.steps + 1, op := some o' }, M', u') := by
  unfold stepR
  rw [if_neg (by rw [hd]; simp)]
  unfold phaseR
  simp only [hn, ho, Option.getD_some, hs, if_pos hd']
theorem st_took (hn : w.next = .taking) (hd : w.done = false) (ho : w.op = some o) (hs : stepD o M u = (o', M', u')) (hd' : o'.done = true) (he : (resD o').2 ≠ 7) :
    stepR good r w M u = (r, { w with steps := w.steps + 1, op := some o', x := (resD o').1, done := true, err := (resD o').2 }, M', u') := by
  unfold stepR
  rw [if_neg (by rw [hd]; simp)]
  unfold phaseR
  simp only [hn, ho, Option.getD_some, hs]
  rw [if_neg (by rw [hd']; simp), if_pos he]
theorem st_found (hn : w.next = .taking) (hd : w.done = false) (ho : w.op = some o) (hs : stepD o M u = (o', M', u')) (hd' : o'.done = true) (he : (resD o').2 = 7) :
    stepR good r w M u = (if put (r.set w.kind) w.level false ≠ r.set w.kind ∧ w.kind = 0 then (r.put w.kind (put (r.set w.kind) w.level false), { w with steps := w.steps + 1, op := some o', next := .emptying }, M', u')
       else (r.put w.kind (put (r.set w.kind) w.level false), { w with steps := w.steps + 1, op := some o', done := true, err := 8 }, M', u')) := by
  unfold stepR
  rw [if_neg (by rw [hd]; simp)]
  unfold phaseR
  simp only [hn, ho, Option.getD_some, hs]
  rw [if_neg (by rw [hd']; simp), if_neg (by rw [he]; simp)]
end
/-- What is elsewhere stays. -/
def Else (M M' : List Nat) (b : Int) (B cap : Nat) : Prop := M'.length = M.length ∧ ∀ a : Int, a ≠ b → (a < B ∨ (B + 2 + cap : Nat) ≤ a) → getA M' a = getA M a
theorem set_getA (r : RRack) (k s : Nat) : (r.put k s).base = r.base := by unfold RRack.put; split <;> rfl
theorem put_run (good : Nat → Bool) {r : RRack} {M : List Nat} {B cap t : Nat} {L : List Nat} {k l x : Nat} (u : Nat) (h : SQ M B cap t L) (hf : L.length < cap) (hs : t + L.length < 99999) (hb : r.base < (B : Int)) :
    ∃ n, n ≤ 5 ∧ Run good n (r, ⟨.pushing, x, l, k, some (newD (B : Int) cap 0 x), 0, 0, false, false, false, false, 0, false, 0⟩, M, u) fun s =>
      s.1 = r.put k (put (r.set k) l true) ∧ s.2.1.done = true ∧ resR s.2.1 = (x, (l : Int), 0) ∧ SQ s.2.2.1 B cap t (L ++ [x]) ∧ Else M s.2.2.1 r.base B cap := by
  have e1 : getA M ((B : Int) + 1) = t + L.length := h.bot
  have e2 : getA M (B : Int) = t := h.top
  have ea : ¬ ((cap : Int) ≤ ahd (t + L.length) t) := by rw [ahd_diff (by omega) (by omega)]; omega
  have eb : add1 (t + L.length) = t + L.length + 1 := by unfold add1; omega
  have hlen := h.len
  have d1 : stepD (newD (B : Int) cap 0 x) M u = (⟨B, cap, 0, 1, t + L.length, 0, x, false, false, 0⟩, M, tick M ((B : Int) + 1) u) := by rw [pu0, e1]
  have d2 : ∀ u, stepD ⟨B, cap, 0, 1, t + L.length, 0, x, false, false, 0⟩ M u = (⟨B, cap, 0, 2, t + L.length, t, x, false, false, 0⟩, M, tick M (B : Int) u) := fun u => by rw [pu1, e2, if_neg ea]
  obtain ⟨M3, hM3⟩ : ∃ M3, M3 = setA M (plc (B : Int) cap (t + L.length)) x := ⟨_, rfl⟩
  have d3 : ∀ u, stepD ⟨B, cap, 0, 2, t + L.length, t, x, false, false, 0⟩ M u = (⟨B, cap, 0, 3, t + L.length, t, x, false, false, 0⟩, M3, tick M (plc (B : Int) cap (t + L.length)) u) := fun u => by rw [pu2, hM3]
  obtain ⟨M4, hM4⟩ : ∃ M4, M4 = setA M3 ((B : Int) + 1) (t + L.length + 1) := ⟨_, rfl⟩
  have d4 : ∀ u, stepD ⟨B, cap, 0, 3, t + L.length, t, x, false, false, 0⟩ M3 u = (⟨B, cap, 0, 4, t + L.length, t, x, false, true, 0⟩, M4, tick M3 ((B : Int) + 1) u) := fun u => by rw [pu3, eb, hM4]
  have q4 : SQ M4 B cap t (L ++ [x]) := by rw [hM4, hM3]; exact h.push hf x hs
  have l4 : M4.length = M.length := by rw [hM4, hM3, setA_length, setA_length]
  have o4 : ∀ a : Int, (a < B ∨ (B + 2 + cap : Nat) ≤ a) → getA M4 a = getA M a := by
    intro a ha
    have hm := Nat.mod_lt (t + L.length) h.cap0
    rw [hM4, gs_other (by omega), hM3, gs_other (by rw [plcN]; omega)]
  by_cases hc : put (r.set k) l true ≠ r.set k ∧ k = 0
  · refine ⟨5, by omega, ⟨rfl, (show 0 < 1000000 by decide), .inl ⟨rfl, _, rfl, by rw [d1]; simp⟩⟩, ?_⟩
    rw [st_pushing rfl rfl rfl d1 rfl]
    refine ⟨⟨rfl, by show 1 < 1000000; decide, .inl ⟨rfl, _, rfl, by rw [d2]; simp⟩⟩, ?_⟩
    rw [st_pushing rfl rfl rfl (d2 _) rfl]
    refine ⟨⟨rfl, by show 2 < 1000000; decide, .inl ⟨rfl, _, rfl, by rw [d3]; simp⟩⟩, ?_⟩
    rw [st_pushing rfl rfl rfl (d3 _) rfl]
    refine ⟨⟨rfl, by show 3 < 1000000; decide, .inl ⟨rfl, _, rfl, by rw [d4]; simp⟩⟩, ?_⟩
    rw [st_pushed rfl rfl rfl (d4 _) rfl (by show (0 : Int) ≠ 6; decide), if_pos hc]
    refine ⟨⟨rfl, by show 4 < 1000000; decide, .inr (.inl rfl)⟩, ?_⟩
    rw [st_signing rfl rfl]
    have hbb := set_getA r k (put (r.set k) l true)
    have q5 : ∀ s, SQ (setA M4 (r.put k (put (r.set k) l true)).base s) B cap t (L ++ [x]) := fun s => q4.keep (setA_length _ _ _) fun a h1 h2 => gs_other (by omega) _
    have l5 : ∀ s, Else M (setA M4 (r.put k (put (r.set k) l true)).base s) r.base B cap := fun s => ⟨by rw [setA_length]; exact l4, fun a h1 h2 => by rw [gs_other (by omega)]; exact o4 a h2⟩
    exact ⟨rfl, rfl, rfl, q5 _, l5 _⟩
  · refine ⟨4, by omega, ⟨rfl, (show 0 < 1000000 by decide), .inl ⟨rfl, _, rfl, by rw [d1]; simp⟩⟩, ?_⟩
    rw [st_pushing rfl rfl rfl d1 rfl]
    refine ⟨⟨rfl, by show 1 < 1000000; decide, .inl ⟨rfl, _, rfl, by rw [d2]; simp⟩⟩, ?_⟩
    rw [st_pushing rfl rfl rfl (d2 _) rfl]
    refine ⟨⟨rfl, by show 2 < 1000000; decide, .inl ⟨rfl, _, rfl, by rw [d3]; simp⟩⟩, ?_⟩
    rw [st_pushing rfl rfl rfl (d3 _) rfl]
    refine ⟨⟨rfl, by show 3 < 1000000; decide, .inl ⟨rfl, _, rfl, by rw [d4]; simp⟩⟩, ?_⟩
    rw [st_pushed rfl rfl rfl (d4 _) rfl (by show (0 : Int) ≠ 6; decide), if_neg hc]
    exact ⟨rfl, rfl, rfl, q4, l4, fun a _ h2 => o4 a h2⟩
end Go.Proofs.YtjdbgohfedjifaaDoor

/- rack: a whole Take of an owner alone, plainly. -/
namespace Bosun
open Go
/-- The deque that a Take turns to, and what it makes of the rack. -/
def chK (r : RRack) (l : Nat) : Nat := if (r.s0.testBit l && r.s1.testBit l) = true then r.turn else if r.s1.testBit l = true then 1 else 0
def chR (r : RRack) (l : Nat) : RRack := if (r.s0.testBit l && r.s1.testBit l) = true then { r with turn := 1 - r.turn } else r
theorem chR_same (r : RRack) (l : Nat) : (chR r l).base = r.base ∧ (chR r l).cap = r.cap ∧ (chR r l).s0 = r.s0 ∧ (chR r l).s1 = r.s1 := by unfold chR; split <;> exact ⟨rfl, rfl, rfl, rfl⟩
theorem chR_set (r : RRack) (l k : Nat) : (chR r l).set k = r.set k := by unfold RRack.set; rw [(chR_same r l).2.2.1, (chR_same r l).2.2.2]
theorem chR_at (r : RRack) (l k j : Nat) : (chR r l).at k j = r.at k j := by unfold RRack.at; rw [(chR_same r l).1, (chR_same r l).2.1]
theorem chR_turn {r : RRack} (h : r.turn < 2) (l : Nat) : (chR r l).turn < 2 := by unfold chR; split; show 1 - r.turn < 2; omega; exact h
theorem chK_lt {r : RRack} (h : r.turn < 2) (l : Nat) : chK r l < 2 := by unfold chK; split; exact h; split <;> omega
end Bosun
namespace Go.Proofs.YtjdbgohfedjifaaDoor
open Go.RowKit Bosun
section
variable {good : Nat → Bool} {r : RRack} {M M' : List Nat} {u u' : Nat}
theorem st_none (h8 : bestR r = 8) : stepR good r takeW M u = (r, ⟨.choosing, 0, 8, 0, none, 0, 0, false, false, true, false, 1, true, 7⟩, M, u) := by
  unfold stepR
  rw [if_neg (by decide)]
  unfold phaseR
  simp only [takeW, if_pos h8]
theorem st_choose (h8 : bestR r ≠ 8) : stepR good r takeW M u = (chR r (bestR r), ⟨.taking, 0, bestR r, chK r (bestR r), some (newD (r.at (chK r (bestR r)) (bestR r)) r.cap 2 0), 0, 0, false, false, true, false, 1, false, 0⟩, M, u) := by
  unfold stepR
  rw [if_neg (by decide)]
  unfold phaseR
  simp only [takeW, if_neg h8]
  rfl
end
theorem take_none (good : Nat → Bool) {r : RRack} (M : List Nat) (u : Nat) (h8 : bestR r = 8) : Run good 1 (r, takeW, M, u) fun s => s.1 = r ∧ s.2.1.done = true ∧ resR s.2.1 = (0, 8, 7) ∧ s.2.2.1 = M := by
  refine ⟨⟨rfl, (show 0 < 1000000 by decide), .inr (.inr (.inl rfl))⟩, ?_⟩
  rw [st_none h8]
  exact ⟨rfl, rfl, rfl, rfl⟩
theorem take_some (good : Nat → Bool) {r : RRack} {M : List Nat} {B t : Nat} {L : List Nat} {l x : Nat} (u : Nat) (hl : bestR r = l) (hl8 : l < 8) (hat : r.at (chK r l) l = (B : Int)) (h : SQ M B r.cap t (x :: L)) :
    Run good 5 (r, takeW, M, u) fun s => s.1 = chR r l ∧ s.2.1.done = true ∧ resR s.2.1 = (x, (l : Int), 0) ∧ SQ s.2.2.1 B r.cap (t + 1) L ∧ Else M s.2.2.1 r.base B r.cap := by
  have e1 : getA M ((B : Int) + 1) = t + L.length + 1 := by have := h.bot; simpa [Nat.add_assoc] using this
  have e2 : getA M (B : Int) = t := h.top
  have hsm := h.small
  have hft := h.fits
  have hlen := h.len
  simp at hsm hft
  have ea : ¬ (ahd (t + L.length + 1) t ≤ 0) := by rw [ahd_diff (by omega) (by omega)]; omega
  have eb : add1 t = t + 1 := by unfold add1; omega
  have d1 : stepD (newD (B : Int) r.cap 2 0) M u = (⟨B, r.cap, 2, 1, 0, t, 0, false, false, 0⟩, M, tick M (B : Int) u) := by rw [sl0, e2]
  have d2 : ∀ u, stepD ⟨B, r.cap, 2, 1, 0, t, 0, false, false, 0⟩ M u = (⟨B, r.cap, 2, 2, t + L.length + 1, t, 0, false, false, 0⟩, M, tick M ((B : Int) + 1) u) := fun u => by rw [sl1, e1, if_neg ea]
  have d3 : ∀ u, stepD ⟨B, r.cap, 2, 2, t + L.length + 1, t, 0, false, false, 0⟩ M u = (⟨B, r.cap, 2, 3, t + L.length + 1, t, x, false, false, 0⟩, M, tick M (plc (B : Int) r.cap t) u) := fun u => by rw [sl2, h.head]
  have d4 : ∀ u, stepD ⟨B, r.cap, 2, 3, t + L.length + 1, t, x, false, false, 0⟩ M u = (⟨B, r.cap, 2, 4, t + L.length + 1, t, x, false, true, 0⟩, setA M (B : Int) (t + 1), tick M (B : Int) u) := fun u => by
    rw [sl3, wins_sq h, eb]; rfl
  refine ⟨⟨rfl, (show 0 < 1000000 by decide), .inr (.inr (.inl rfl))⟩, ?_⟩
  rw [st_choose (r := r) (by omega), hl, hat]
  refine ⟨⟨rfl, by show 1 < 1000000; decide, .inr (.inr (.inr (.inl ⟨rfl, _, rfl⟩)))⟩, ?_⟩
  rw [st_taking rfl rfl rfl d1 rfl]
  refine ⟨⟨rfl, by show 2 < 1000000; decide, .inr (.inr (.inr (.inl ⟨rfl, _, rfl⟩)))⟩, ?_⟩
  rw [st_taking rfl rfl rfl (d2 _) rfl]
  refine ⟨⟨rfl, by show 3 < 1000000; decide, .inr (.inr (.inr (.inl ⟨rfl, _, rfl⟩)))⟩, ?_⟩
  rw [st_taking rfl rfl rfl (d3 _) rfl]
  refine ⟨⟨rfl, by show 4 < 1000000; decide, .inr (.inr (.inr (.inl ⟨rfl, _, rfl⟩)))⟩, ?_⟩
  rw [st_took rfl rfl rfl (d4 _) rfl (by show (0 : Int) ≠ 7; decide)]
  exact ⟨rfl, rfl, rfl, h.steal, by rw [setA_length], fun a _ h2 => gs_other (by omega) _⟩
theorem take_miss (good : Nat → Bool) {r : RRack} {M : List Nat} {B t : Nat} {l : Nat} (u : Nat) (hl : bestR r = l) (hl8 : l < 8) (hat : r.at (chK r l) l = (B : Int)) (h : SQ M B r.cap t []) (hb : r.base < (B : Int)) :
    ∃ n, n ≤ 4 ∧ Run good n (r, takeW, M, u) fun s => s.1 = (chR r l).put (chK r l) (put (r.set (chK r l)) l false) ∧ s.2.1.done = true ∧ resR s.2.1 = (0, 8, 8) ∧ SQ s.2.2.1 B r.cap t [] ∧ Else M s.2.2.1 r.base B r.cap := by
  have e1 : getA M ((B : Int) + 1) = t := h.bot
  have e2 : getA M (B : Int) = t := h.top
  have hsm := h.small
  have hlen := h.len
  simp at hsm
  have ea : ahd t t ≤ 0 := by rw [ahd_diff (by omega) (by omega)]; omega
  have d1 : stepD (newD (B : Int) r.cap 2 0) M u = (⟨B, r.cap, 2, 1, 0, t, 0, false, false, 0⟩, M, tick M (B : Int) u) := by rw [sl0, e2]
  have d2 : ∀ u, stepD ⟨B, r.cap, 2, 1, 0, t, 0, false, false, 0⟩ M u = (⟨B, r.cap, 2, 2, t, t, 0, false, true, 7⟩, M, tick M ((B : Int) + 1) u) := fun u => by rw [sl1, e1, if_pos ea]
  by_cases hc : put ((chR r l).set (chK r l)) l false ≠ (chR r l).set (chK r l) ∧ chK r l = 0
  · refine ⟨4, by omega, ⟨rfl, (show 0 < 1000000 by decide), .inr (.inr (.inl rfl))⟩, ?_⟩
    rw [st_choose (r := r) (by omega), hl, hat]
    refine ⟨⟨rfl, by show 1 < 1000000; decide, .inr (.inr (.inr (.inl ⟨rfl, _, rfl⟩)))⟩, ?_⟩
    rw [st_taking rfl rfl rfl d1 rfl]
    refine ⟨⟨rfl, by show 2 < 1000000; decide, .inr (.inr (.inr (.inl ⟨rfl, _, rfl⟩)))⟩, ?_⟩
    rw [st_found rfl rfl rfl (d2 _) rfl rfl, if_pos hc]
    refine ⟨⟨rfl, by show 3 < 1000000; decide, .inr (.inr (.inr (.inr rfl)))⟩, ?_⟩
    rw [st_emptying rfl rfl, chR_set]
    have hbb : ((chR r l).put (chK r l) (put (r.set (chK r l)) l false)).base = r.base := by rw [set_getA, (chR_same r l).1]
    have q5 : ∀ s, SQ (setA M ((chR r l).put (chK r l) (put (r.set (chK r l)) l false)).base s) B r.cap t [] := fun s => h.keep (setA_length _ _ _) fun a h1 h2 => gs_other (by omega) _
    have l5 : ∀ s, Else M (setA M ((chR r l).put (chK r l) (put (r.set (chK r l)) l false)).base s) r.base B r.cap := fun s => ⟨by rw [setA_length], fun a h1 h2 => gs_other (by omega) _⟩
    exact ⟨rfl, rfl, rfl, q5 _, l5 _⟩
  · refine ⟨3, by omega, ⟨rfl, (show 0 < 1000000 by decide), .inr (.inr (.inl rfl))⟩, ?_⟩
    rw [st_choose (r := r) (by omega), hl, hat]
    refine ⟨⟨rfl, by show 1 < 1000000; decide, .inr (.inr (.inr (.inl ⟨rfl, _, rfl⟩)))⟩, ?_⟩
    rw [st_taking rfl rfl rfl d1 rfl]
    refine ⟨⟨rfl, by show 2 < 1000000; decide, .inr (.inr (.inr (.inl ⟨rfl, _, rfl⟩)))⟩, ?_⟩
    rw [st_found rfl rfl rfl (d2 _) rfl rfl, if_neg hc, chR_set]
    exact ⟨rfl, rfl, rfl, h, rfl, fun _ _ _ => rfl⟩
end Go.Proofs.YtjdbgohfedjifaaDoor

/- rack: the queues of a rack that its owner works on alone, plainly. -/
namespace Bosun
open Go
theorem ptb_ne (s : Nat) (b : Bool) {j l : Nat} (hj : j < 64) (h : j ≠ l) : (put s (l : Int) b).testBit j = s.testBit j := by
  rw [put_testBit, if_neg (by omega)]; simp [hj]
theorem ptb_eq (s : Nat) (b : Bool) {l : Nat} (hl : l < 64) : (put s (l : Int) b).testBit l = b := by
  rw [put_testBit, if_pos rfl]; simp [hl]
/-- Where a deque begins. -/
def bas (cap k l : Nat) : Nat := 1 + (8 * k + l) * (2 + cap)
theorem bas_at {r : RRack} (h : r.base = 0) (k l : Nat) : r.at k l = ((bas r.cap k l : Nat) : Int) := by unfold RRack.at bas; rw [h]; push_cast; omega
theorem bas_pos (cap k l : Nat) : 0 < bas cap k l := by unfold bas; omega
theorem bas_end {cap k l : Nat} (hk : k < 2) (hl : l < 8) : bas cap k l + 2 + cap ≤ 1 + 16 * (2 + cap) := by
  have : (8 * k + l + 1) * (2 + cap) ≤ 16 * (2 + cap) := Nat.mul_le_mul_right _ (by omega)
  rw [Nat.add_mul] at this
  unfold bas; omega
theorem bas_apart {cap k l k' l' : Nat} (hl : l < 8) (hl' : l' < 8) (h : ¬ (k' = k ∧ l' = l)) : bas cap k l + 2 + cap ≤ bas cap k' l' ∨ bas cap k' l' + 2 + cap ≤ bas cap k l := by
  unfold bas
  rcases Nat.lt_or_ge (8 * k + l) (8 * k' + l') with c | c
  · left
    have : (8 * k + l + 1) * (2 + cap) ≤ (8 * k' + l') * (2 + cap) := Nat.mul_le_mul_right _ (by omega)
    rw [Nat.add_mul] at this; omega
  · right
    have : (8 * k' + l' + 1) * (2 + cap) ≤ (8 * k + l) * (2 + cap) := Nat.mul_le_mul_right _ (by omega)
    rw [Nat.add_mul] at this; omega
def updQ (Q : Nat → Nat → List Nat) (k l : Nat) (L : List Nat) : Nat → Nat → List Nat := fun k' l' => if k' = k ∧ l' = l then L else Q k' l'
theorem updQ_same (Q : Nat → Nat → List Nat) (k l : Nat) (L : List Nat) : updQ Q k l L k l = L := if_pos ⟨rfl, rfl⟩
theorem updQ_other (Q : Nat → Nat → List Nat) {k l k' l' : Nat} (L : List Nat) (h : ¬ (k' = k ∧ l' = l)) : updQ Q k l L k' l' = Q k' l' := if_neg h
theorem put_set (r : RRack) {k k' : Nat} (s : Nat) (hk : k < 2) (hk' : k' < 2) : (r.put k s).set k' = if k' = k then s else r.set k' := by
  unfold RRack.put RRack.set
  by_cases h : k = 0
  · rw [if_pos h]; subst h; by_cases h' : k' = 0
    · subst h'; simp
    · simp [h']
  · obtain rfl : k = 1 := by omega
    by_cases h' : k' = 0
    · subst h'; simp
    · obtain rfl : k' = 1 := by omega
      simp
theorem put_rest (r : RRack) (k s : Nat) : (r.put k s).base = r.base ∧ (r.put k s).cap = r.cap ∧ (r.put k s).turn = r.turn := by unfold RRack.put; split <;> exact ⟨rfl, rfl, rfl⟩
def sumTo (f : Nat → Nat) : Nat → Nat
  | 0 => 0
  | n + 1 => sumTo f n + f n
theorem sumTo_le {f g : Nat → Nat} {c0 d : Nat} : ∀ {n : Nat}, (∀ c, c < n → c ≠ c0 → f c ≤ g c) → (c0 < n → f c0 ≤ g c0 + d) → sumTo f n ≤ sumTo g n + d
  | 0, _, _ => by simp [sumTo]
  | n + 1, h, h0 => by
    unfold sumTo
    by_cases e : c0 = n
    · have := sumTo_le (n := n) (c0 := n) (d := 0) (f := f) (g := g) (fun c hc _ => h c (by omega) (by omega)) (fun h => absurd h (by omega))
      have := h0 (by omega); subst e; omega
    · have := sumTo_le (n := n) (c0 := c0) (d := d) (f := f) (g := g) (fun c hc hn => h c (by omega) hn) (fun hc => h0 (by omega))
      have := h n (by omega) (Ne.symm e); omega
theorem sumTo_lt {f g : Nat → Nat} {c0 n : Nat} (h : ∀ c, c < n → c ≠ c0 → f c ≤ g c) (hc : c0 < n) (h0 : f c0 + 1 ≤ g c0) : sumTo f n + 1 ≤ sumTo g n := by
  induction n with
  | zero => omega
  | succ n ih =>
    unfold sumTo
    by_cases e : c0 = n
    · have := sumTo_le (n := n) (c0 := n) (d := 0) (f := f) (g := g) (fun c hc _ => h c (by omega) (by omega)) (fun h => absurd h (by omega))
      subst e; omega
    · have := ih (fun c hc hn => h c (by omega) hn) (by omega)
      have := h n (by omega) (Ne.symm e); omega
/-- How much is in a rack: its words, and its bits. -/
def cel (r : RRack) (Q : Nat → Nat → List Nat) (c : Nat) : Nat := (Q (c / 8) (c % 8)).length + (if (r.set (c / 8)).testBit (c % 8) = true then 1 else 0)
def msr (r : RRack) (Q : Nat → Nat → List Nat) : Nat := sumTo (cel r Q) 16
theorem leastTo_spec (s : Nat) : ∀ (n l : Nat), l ≤ leastTo s n l ∧ leastTo s n l ≤ l + n ∧ (∀ j, l ≤ j → j < leastTo s n l → s.testBit j = false) ∧ (leastTo s n l < l + n → s.testBit (leastTo s n l) = true)
  | 0, l => ⟨Nat.le_refl _, Nat.le_refl _, fun j h1 h2 => absurd h2 (by simp [leastTo]; omega), fun h => absurd h (by simp [leastTo])⟩
  | n + 1, l => by
    unfold leastTo
    by_cases hb : s.testBit l = true
    · rw [if_pos hb]; exact ⟨Nat.le_refl _, by omega, fun j h1 h2 => by omega, fun _ => hb⟩
    · rw [if_neg hb]
      obtain ⟨h1, h2, h3, h4⟩ := leastTo_spec s n (l + 1)
      refine ⟨by omega, by omega, fun j a1 a2 => ?_, fun h => h4 (by omega)⟩
      by_cases e : j = l
      · subst e; simpa using hb
      · exact h3 j (by omega) a2
theorem bestR_spec (r : RRack) : bestR r ≤ 8 ∧ (∀ k j, k < 2 → j < bestR r → (r.set k).testBit j = false) ∧ (bestR r < 8 → r.turn < 2 → (r.set (chK r (bestR r))).testBit (bestR r) = true) := by
  obtain ⟨h1, h2, h3, h4⟩ := leastTo_spec (r.s0 ||| r.s1) 8 0
  refine ⟨by unfold bestR; omega, fun k j hk hj => ?_, fun hl ht => ?_⟩
  · have := h3 j (by omega) hj
    rw [Nat.testBit_or, Bool.or_eq_false_iff] at this
    unfold RRack.set; split; exact this.1; exact this.2
  · have hb := h4 (by unfold bestR at hl; omega)
    change (r.s0 ||| r.s1).testBit (bestR r) = true at hb
    rw [Nat.testBit_or] at hb
    unfold chK
    by_cases hab : (r.s0.testBit (bestR r) && r.s1.testBit (bestR r)) = true
    · rw [if_pos hab]
      rw [Bool.and_eq_true] at hab
      unfold RRack.set; split; exact hab.1; exact hab.2
    · rw [if_neg hab]
      by_cases hb1 : r.s1.testBit (bestR r) = true
      · rw [if_pos hb1]; exact hb1
      · rw [if_neg hb1]; show r.s0.testBit _ = true; simpa [hb1] using hb
/-- A rack's queues. N: how many words were put. -/
structure RB (r : RRack) (M : List Nat) (Q : Nat → Nat → List Nat) (N : Nat) : Prop where
  base : r.base = 0
  turn : r.turn < 2
  q : ∀ k l, k < 2 → l < 8 → ∃ t, SQ M (bas r.cap k l) r.cap t (Q k l) ∧ t + (Q k l).length ≤ N
  s : ∀ k l, k < 2 → l < 8 → Q k l ≠ [] → (r.set k).testBit l = true
  m : msr r Q ≤ 2 * N
theorem SQ.away {M M' : List Nat} {B cap t : Nat} {L : List Nat} {b : Int} {B' : Nat} (h : SQ M B cap t L) (e : M'.length = M.length ∧ ∀ a : Int, a ≠ b → (a < B' ∨ (B' + 2 + cap : Nat) ≤ a) → getA M' a = getA M a) (hb : b < B) (ha : B + 2 + cap ≤ B' ∨ B' + 2 + cap ≤ B) : SQ M' B cap t L :=
  h.keep e.1 fun a h1 h2 => e.2 a (by omega) (by rcases ha with h | h; left; omega; right; omega)
end Bosun
namespace Go.Proofs.YtjdbgohfedjifaaDoor
open Go.RowKit Bosun
theorem rb_put {r : RRack} {M : List Nat} {Q : Nat → Nat → List Nat} {N : Nat} (h : RB r M Q N) (good : Nat → Bool) (u : Nat) {k l : Nat} (x : Nat) (hk : k < 2) (hl : l < 8) (hN : N < r.cap) (hc : r.cap ≤ 256) :
    ∃ n, n ≤ 5 ∧ Run good n (r, ⟨.pushing, x, l, k, some (newD (r.at k l) r.cap 0 x), 0, 0, false, false, false, false, 0, false, 0⟩, M, u) fun s =>
      s.1 = r.put k (put (r.set k) l true) ∧ s.2.1.done = true ∧ resR s.2.1 = (x, (l : Int), 0) ∧ RB s.1 s.2.2.1 (updQ Q k l (Q k l ++ [x])) (N + 1) := by
  obtain ⟨t, hq, ht⟩ := h.q k l hk hl
  have hb0 := bas_pos r.cap k l
  obtain ⟨n, a1, a2⟩ := put_run good (r := r) (k := k) (l := l) (x := x) u hq (by omega) (by omega) (by rw [h.base]; omega)
  rw [bas_at h.base]
  refine ⟨n, a1, a2.mono ?_⟩
  rintro ⟨r', w', M', u'⟩ ⟨hr, a3, a4, a5, a6⟩
  simp only at hr a3 a4 a5 a6
  subst hr
  refine ⟨rfl, a3, a4, ?_, ?_, ?_, ?_, ?_⟩
  · rw [(put_rest _ _ _).1]; exact h.base
  · rw [(put_rest _ _ _).2.2]; exact h.turn
  · intro k' l' hk' hl'
    rw [(put_rest _ _ _).2.1]
    by_cases e : k' = k ∧ l' = l
    · obtain ⟨rfl, rfl⟩ := e
      rw [updQ_same]
      exact ⟨t, a5, by simp; omega⟩
    · rw [updQ_other _ _ e]
      obtain ⟨t', hq', ht'⟩ := h.q k' l' hk' hl'
      have := bas_pos r.cap k' l'
      exact ⟨t', hq'.away a6 (by rw [h.base]; omega) (by rcases bas_apart (cap := r.cap) hl hl' e with c | c; right; exact c; left; exact c), by omega⟩
  · intro k' l' hk' hl' hne
    rw [put_set r _ hk hk']
    by_cases e : k' = k ∧ l' = l
    · obtain ⟨rfl, rfl⟩ := e
      rw [if_pos rfl, put_testBit]; simp; omega
    · rw [updQ_other _ _ e] at hne
      have := h.s k' l' hk' hl' hne
      by_cases e1 : k' = k
      · subst e1
        rw [if_pos rfl, put_testBit, if_neg (by omega), this]; simp; omega
      · rw [if_neg e1]; exact this
  · refine Nat.le_trans (sumTo_le (c0 := 8 * k + l) (d := 2) (g := cel r Q) (fun c hc hn => ?_) (fun _ => ?_)) (by have := h.m; unfold msr at this; omega)
    · have e : ¬ (c / 8 = k ∧ c % 8 = l) := by omega
      unfold cel
      rw [updQ_other _ _ e, put_set r _ hk (by omega)]
      by_cases e1 : c / 8 = k
      · have e2 : c % 8 ≠ l := fun x => e ⟨e1, x⟩
        have e3 : c % 8 < 64 := by omega
        rw [if_pos e1, ptb_ne _ _ e3 e2, ← e1]; exact Nat.le_refl _
      · rw [if_neg e1]; exact Nat.le_refl _
    · unfold cel
      rw [show (8 * k + l) / 8 = k by omega, show (8 * k + l) % 8 = l by omega, updQ_same]
      simp only [List.length_append, List.length_cons, List.length_nil]
      split <;> split <;> omega
/-- A take of a rack: none, one, or a miss. -/
theorem rb_take {r : RRack} {M : List Nat} {Q : Nat → Nat → List Nat} {N : Nat} (h : RB r M Q N) (good : Nat → Bool) (u : Nat) :
    (bestR r = 8 ∧ (∀ k l, k < 2 → l < 8 → Q k l = []) ∧ Run good 1 (r, takeW, M, u) fun s => s.1 = r ∧ s.2.1.done = true ∧ resR s.2.1 = (0, 8, 7) ∧ s.2.2.1 = M) ∨
    (bestR r < 8 ∧ chK r (bestR r) < 2 ∧ (∀ k l, k < 2 → l < 8 → Q k l ≠ [] → bestR r ≤ l) ∧ ∃ x L, Q (chK r (bestR r)) (bestR r) = x :: L ∧ Run good 5 (r, takeW, M, u) fun s => s.2.1.done = true ∧ resR s.2.1 = (x, (bestR r : Int), 0) ∧
      RB s.1 s.2.2.1 (updQ Q (chK r (bestR r)) (bestR r) L) N ∧ s.1.cap = r.cap ∧ msr s.1 (updQ Q (chK r (bestR r)) (bestR r) L) + 1 ≤ msr r Q) ∨
    (bestR r < 8 ∧ ∃ n, n ≤ 4 ∧ Run good n (r, takeW, M, u) fun s => s.2.1.done = true ∧ resR s.2.1 = (0, 8, 8) ∧ RB s.1 s.2.2.1 Q N ∧ s.1.cap = r.cap ∧ msr s.1 Q + 1 ≤ msr r Q) := by
  obtain ⟨h8, hlow, hbit⟩ := bestR_spec r
  by_cases hb : bestR r = 8
  · refine .inl ⟨hb, fun k l hk hl => ?_, take_none good M u hb⟩
    by_cases e : Q k l = []
    · exact e
    · have := h.s k l hk hl e
      rw [hlow k l hk (by omega)] at this; cases this
  · right
    obtain ⟨l, hl⟩ : ∃ l, l = bestR r := ⟨_, rfl⟩
    rw [← hl] at h8 hlow hbit hb ⊢
    have hl8 : l < 8 := by omega
    have hk := chK_lt h.turn l
    have hbt := hbit hl8 h.turn
    obtain ⟨t, hq, ht⟩ := h.q _ l hk hl8
    have hb0 := bas_pos r.cap (chK r l) l
    obtain ⟨c1, c2, c3, c4⟩ := chR_same r l
    rcases hQ : Q (chK r l) l with _ | ⟨x, L⟩
    · right
      rw [hQ] at hq
      obtain ⟨n, a1, a2⟩ := take_miss good u hl.symm hl8 (bas_at h.base _ _) hq (by rw [h.base]; omega)
      refine ⟨hl8, n, a1, a2.mono ?_⟩
      rintro ⟨r', w', M', u'⟩ ⟨hr, a3, a4, a5, a6⟩
      simp only at hr a3 a4 a5 a6
      subst hr
      obtain ⟨p1, p2, p3⟩ := put_rest (chR r l) (chK r l) (put (r.set (chK r l)) l false)
      refine ⟨a3, a4, ⟨?_, ?_, ?_, ?_, ?_⟩, ?_, ?_⟩
      · rw [p1, c1]; exact h.base
      · rw [p3]; exact chR_turn h.turn l
      · intro k' l' hk' hl'
        rw [p2, c2]
        by_cases e : k' = chK r l ∧ l' = l
        · obtain ⟨rfl, rfl⟩ := e
          rw [hQ] at ht ⊢
          exact ⟨t, a5, ht⟩
        · obtain ⟨t', hq', ht'⟩ := h.q k' l' hk' hl'
          have := bas_pos r.cap k' l'
          exact ⟨t', hq'.away a6 (by rw [h.base]; omega) (by rcases bas_apart (cap := r.cap) hl8 hl' e with c | c; right; exact c; left; exact c), ht'⟩
      · intro k' l' hk' hl' hne
        rw [put_set _ _ hk hk', chR_set]
        have e : ¬ (k' = chK r l ∧ l' = l) := by rintro ⟨rfl, rfl⟩; exact hne hQ
        have := h.s k' l' hk' hl' hne
        by_cases e1 : k' = chK r l
        · subst e1
          rw [if_pos rfl, put_testBit, if_neg (by omega), this]; simp; omega
        · rw [if_neg e1]; exact this
      · have : sumTo (cel ((chR r l).put (chK r l) (put (r.set (chK r l)) l false)) Q) 16 + 1 ≤ sumTo (cel r Q) 16 := by
          refine sumTo_lt (c0 := 8 * chK r l + l) (fun c hc hn => ?_) (by omega) ?_
          · have e : ¬ (c / 8 = chK r l ∧ c % 8 = l) := by omega
            unfold cel
            rw [put_set _ _ hk (by omega), chR_set]
            by_cases e1 : c / 8 = chK r l
            · have e2 : c % 8 ≠ l := fun x => e ⟨e1, x⟩
              have e3 : c % 8 < 64 := by omega
              rw [if_pos e1, ptb_ne _ _ e3 e2, ← e1]; exact Nat.le_refl _
            · rw [if_neg e1]; exact Nat.le_refl _
          · unfold cel
            rw [show (8 * chK r l + l) / 8 = chK r l by omega, show (8 * chK r l + l) % 8 = l by omega, put_set _ _ hk hk, if_pos rfl, ptb_eq _ _ (by omega), hbt]
            simp
        have := h.m; unfold msr at this ⊢; (try dsimp only); omega
      · rw [p2, c2]
      · refine sumTo_lt (c0 := 8 * chK r l + l) (fun c hc hn => ?_) (by omega) ?_
        · have e : ¬ (c / 8 = chK r l ∧ c % 8 = l) := by omega
          unfold cel
          rw [put_set _ _ hk (by omega), chR_set]
          by_cases e1 : c / 8 = chK r l
          · have e2 : c % 8 ≠ l := fun x => e ⟨e1, x⟩
            have e3 : c % 8 < 64 := by omega
            rw [if_pos e1, ptb_ne _ _ e3 e2, ← e1]; exact Nat.le_refl _
          · rw [if_neg e1]; exact Nat.le_refl _
        · unfold cel
          rw [show (8 * chK r l + l) / 8 = chK r l by omega, show (8 * chK r l + l) % 8 = l by omega, put_set _ _ hk hk, if_pos rfl, ptb_eq _ _ (by omega), hbt]
          simp
    · left
      rw [hQ] at hq ht
      refine ⟨hl8, hk, fun k' l' hk' hl' hne => ?_, x, L, rfl, (take_some good u hl.symm hl8 (bas_at h.base _ _) hq).mono ?_⟩
      · rcases Nat.lt_or_ge l' l with c | c
        · have := h.s k' l' hk' hl' hne
          rw [hlow k' l' hk' c] at this; cases this
        · exact c
      rintro ⟨r', w', M', u'⟩ ⟨hr, a3, a4, a5, a6⟩
      simp only at hr a3 a4 a5 a6
      subst hr
      have hm : sumTo (cel (chR r l) (updQ Q (chK r l) l L)) 16 + 1 ≤ sumTo (cel r Q) 16 := by
        refine sumTo_lt (c0 := 8 * chK r l + l) (fun c hc hn => ?_) (by omega) ?_
        · have e : ¬ (c / 8 = chK r l ∧ c % 8 = l) := by omega
          unfold cel
          rw [updQ_other _ _ e, chR_set]; exact Nat.le_refl _
        · unfold cel
          rw [show (8 * chK r l + l) / 8 = chK r l by omega, show (8 * chK r l + l) % 8 = l by omega, updQ_same, chR_set, hQ]
          simp only [List.length_cons]; omega
      refine ⟨a3, a4, ⟨?_, ?_, ?_, ?_, ?_⟩, c2, hm⟩
      · rw [c1]; exact h.base
      · exact chR_turn h.turn l
      · intro k' l' hk' hl'
        rw [c2]
        by_cases e : k' = chK r l ∧ l' = l
        · obtain ⟨rfl, rfl⟩ := e
          rw [updQ_same]
          simp at ht
          exact ⟨t + 1, a5, by omega⟩
        · rw [updQ_other _ _ e]
          obtain ⟨t', hq', ht'⟩ := h.q k' l' hk' hl'
          have := bas_pos r.cap k' l'
          exact ⟨t', hq'.away a6 (by rw [h.base]; omega) (by rcases bas_apart (cap := r.cap) hl8 hl' e with c | c; right; exact c; left; exact c), ht'⟩
      · intro k' l' hk' hl' hne
        rw [chR_set]
        by_cases e : k' = chK r l ∧ l' = l
        · obtain ⟨rfl, rfl⟩ := e; exact hbt
        · rw [updQ_other _ _ e] at hne
          exact h.s k' l' hk' hl' hne
      · have := h.m; unfold msr at this ⊢; (try dsimp only); omega
end Go.Proofs.YtjdbgohfedjifaaDoor

/- rack: what the law RackBest keeps beside the rack, plainly. -/
namespace Bosun
open Go
def kOf (b : Bool) : Nat := if b = true then 1 else 0
structure LG (p : Nat) (lv : List Nat) (pn : List Bool) (gone : List Bool) (Q : Nat → Nat → List Nat) : Prop where
  ll : lv.length = p
  lp : pn.length = p
  lg : gone.length = 70
  p60 : p ≤ 60
  lvl : ∀ j, j < p → lv.getD j 0 < 8
  mem : ∀ k l x, k < 2 → l < 8 → (x ∈ Q k l ↔ 1 ≤ x ∧ x ≤ p ∧ lv.getD (x - 1) 0 = l ∧ kOf (pn.getD (x - 1) false) = k ∧ gone.getD x false = false)
  sorted : ∀ k l, k < 2 → l < 8 → (Q k l).Pairwise (· < ·)
  free : ∀ y, p < y → gone.getD y false = false
theorem getD_snoc {α : Type} (l : List α) (a d : α) (j : Nat) : (l ++ [a]).getD j d = if j = l.length then a else l.getD j d := by
  by_cases h : j < l.length
  · rw [if_neg (by omega)]; simp [List.getD, h, List.getElem?_append_left h]
  · by_cases e : j = l.length
    · subst e; simp
    · rw [if_neg e]; simp only [List.getD]; rw [List.getElem?_eq_none (by simp; omega), List.getElem?_eq_none (by omega)]
theorem getD_set' (l : List Bool) (i j : Nat) (b d : Bool) (hi : i < l.length) : (l.set i b).getD j d = if j = i then b else l.getD j d := by
  simp only [List.getD, List.getElem?_set]
  by_cases e : i = j
  · subst e; simp [hi]
  · rw [if_neg e, if_neg (fun h => e h.symm)]
section
variable {p : Nat} {lv : List Nat} {pn gone : List Bool} {Q : Nat → Nat → List Nat}
theorem LG.start : LG 0 [] [] (List.replicate 70 false) (fun _ _ => []) :=
  ⟨rfl, rfl, by simp, by omega, fun j h => by omega, fun k l x _ _ => ⟨fun h => by simp at h, fun h => by omega⟩, fun _ _ _ _ => List.Pairwise.nil, fun y _ => by simp only [List.getD, List.getElem?_replicate]; split <;> rfl⟩
theorem LG.put (h : LG p lv pn gone Q) (hp : p < 60) {l : Nat} (hl : l < 8) (b : Bool) : LG (p + 1) (lv ++ [l]) (pn ++ [b]) gone (updQ Q (kOf b) l (Q (kOf b) l ++ [p + 1])) := by
  refine ⟨by simp [h.ll], by simp [h.lp], h.lg, by omega, fun j hj => ?_, fun k' l' x hk' hl' => ?_, fun k' l' hk' hl' => ?_, fun y hy => h.free y (by omega)⟩
  · rw [getD_snoc]; split
    · exact hl
    · rw [h.ll] at *; exact h.lvl j (by omega)
  · rw [getD_snoc, getD_snoc, h.ll, h.lp]
    have hm := h.mem k' l' x hk' hl'
    have hf := h.free (p + 1) (by omega)
    by_cases e : k' = kOf b ∧ l' = l
    · obtain ⟨rfl, rfl⟩ := e
      rw [updQ_same, List.mem_append, hm]
      simp only [List.mem_singleton]
      constructor
      · rintro (⟨a1, a2, a3, a4, a5⟩ | rfl)
        · rw [if_neg (by omega), if_neg (by omega)]; exact ⟨a1, by omega, a3, a4, a5⟩
        · rw [if_pos (by omega), if_pos (by omega)]; exact ⟨by omega, by omega, rfl, rfl, hf⟩
      · rintro ⟨a1, a2, a3, a4, a5⟩
        by_cases c : x = p + 1
        · exact .inr c
        · rw [if_neg (by omega)] at a3 a4; exact .inl ⟨a1, by omega, a3, a4, a5⟩
    · rw [updQ_other _ _ e, hm]
      constructor
      · rintro ⟨a1, a2, a3, a4, a5⟩
        rw [if_neg (by omega), if_neg (by omega)]; exact ⟨a1, by omega, a3, a4, a5⟩
      · rintro ⟨a1, a2, a3, a4, a5⟩
        by_cases c : x = p + 1
        · rw [if_pos (by omega)] at a3 a4; exact absurd ⟨a4.symm, a3.symm⟩ e
        · rw [if_neg (by omega)] at a3 a4; exact ⟨a1, by omega, a3, a4, a5⟩
  · by_cases e : k' = kOf b ∧ l' = l
    · obtain ⟨rfl, rfl⟩ := e
      rw [updQ_same, List.pairwise_append]
      refine ⟨h.sorted _ _ hk' hl', by simp, fun y hy z hz => ?_⟩
      simp at hz; subst hz
      have := (h.mem _ _ y hk' hl').1 hy
      omega
    · rw [updQ_other _ _ e]; exact h.sorted _ _ hk' hl'
theorem LG.first (h : LG p lv pn gone Q) {k l x : Nat} {L : List Nat} (hk : k < 2) (hl : l < 8) (hq : Q k l = x :: L) : 1 ≤ x ∧ x ≤ p ∧ lv.getD (x - 1) 0 = l ∧ kOf (pn.getD (x - 1) false) = k ∧ gone.getD x false = false :=
  (h.mem k l x hk hl).1 (by rw [hq]; simp)
theorem LG.take (h : LG p lv pn gone Q) {k l x : Nat} {L : List Nat} (hk : k < 2) (hl : l < 8) (hq : Q k l = x :: L) : LG p lv pn (gone.set x true) (updQ Q k l L) := by
  obtain ⟨a1, a2, a3, a4, a5⟩ := h.first hk hl hq
  have hx : x < gone.length := by rw [h.lg]; have := h.p60; omega
  have hs := h.sorted k l hk hl
  rw [hq, List.pairwise_cons] at hs
  refine ⟨h.ll, h.lp, by simp [h.lg], h.p60, h.lvl, fun k' l' y hk' hl' => ?_, fun k' l' hk' hl' => ?_, fun y hy => ?_⟩
  · rw [getD_set' _ _ _ _ _ hx]
    have hm := h.mem k' l' y hk' hl'
    by_cases e : k' = k ∧ l' = l
    · obtain ⟨rfl, rfl⟩ := e
      rw [updQ_same]
      rw [hq] at hm
      constructor
      · intro hy
        have h1 := hs.1 y hy
        rw [if_neg (by omega)]
        exact hm.1 (List.mem_cons_of_mem _ hy)
      · rintro ⟨b1, b2, b3, b4, b5⟩
        by_cases c : y = x
        · rw [if_pos c] at b5; cases b5
        · rw [if_neg c] at b5
          rcases List.mem_cons.1 (hm.2 ⟨b1, b2, b3, b4, b5⟩) with d | d
          · exact absurd d c
          · exact d
    · rw [updQ_other _ _ e, hm]
      by_cases c : y = x
      · subst c
        constructor
        · rintro ⟨b1, b2, b3, b4, b5⟩; exact absurd ⟨b4.symm.trans a4, b3.symm.trans a3⟩ e
        · rintro ⟨b1, b2, b3, b4, b5⟩; rw [if_pos rfl] at b5; cases b5
      · rw [if_neg c]
  · by_cases e : k' = k ∧ l' = l
    · obtain ⟨rfl, rfl⟩ := e
      rw [updQ_same]; exact hs.2
    · rw [updQ_other _ _ e]; exact h.sorted _ _ hk' hl'
  · rw [getD_set' _ _ _ _ _ hx, if_neg (by omega)]; exact h.free y hy
/-- None that is not gone was to go ahead of it. -/
theorem LG.fair (h : LG p lv pn gone Q) {k l x : Nat} {L : List Nat} (hk : k < 2) (hl : l < 8) (hq : Q k l = x :: L) (hb : ∀ k' l', k' < 2 → l' < 8 → Q k' l' ≠ [] → l ≤ l') {j : Nat} (hj : j < p) (hg : (gone.set x true).getD (j + 1) false = false) :
    l ≤ lv.getD j 0 ∧ ¬ (lv.getD j 0 = l ∧ pn.getD j false = pn.getD (x - 1) false ∧ j + 1 < x) := by
  obtain ⟨a1, a2, a3, a4, a5⟩ := h.first hk hl hq
  have hx : x < gone.length := by rw [h.lg]; have := h.p60; omega
  rw [getD_set' _ _ _ _ _ hx] at hg
  by_cases c : j + 1 = x
  · rw [if_pos c] at hg; cases hg
  · rw [if_neg c] at hg
    have hm := (h.mem (kOf (pn.getD j false)) (lv.getD j 0) (j + 1) (by unfold kOf; split <;> omega) (h.lvl j hj)).2 ⟨by omega, by omega, rfl, rfl, hg⟩
    refine ⟨hb _ _ (by unfold kOf; split <;> omega) (h.lvl j hj) (List.ne_nil_of_mem hm), ?_⟩
    rintro ⟨b1, b2, b3⟩
    rw [b2, b1, a4, hq] at hm
    have hs := h.sorted k l hk hl
    rw [hq, List.pairwise_cons] at hs
    rcases List.mem_cons.1 hm with d | d
    · omega
    · have := hs.1 _ d; omega
theorem LG.all (h : LG p lv pn gone Q) (he : ∀ k l, k < 2 → l < 8 → Q k l = []) {j : Nat} (hj : j < p) : gone.getD (j + 1) false = true := by
  by_cases hg : gone.getD (j + 1) false = true
  · exact hg
  · have hm := (h.mem (kOf (pn.getD j false)) (lv.getD j 0) (j + 1) (by unfold kOf; split <;> omega) (h.lvl j hj)).2 ⟨by omega, by omega, rfl, rfl, by simpa using hg⟩
    rw [he _ _ (by unfold kOf; split <;> omega) (h.lvl j hj)] at hm
    simp at hm
end
end Bosun

/- rack: a whole work, by Run: what it makes of the world. -/
namespace Go.Proofs.YtjdbgohfedjifaaDoor
open Go.RowKit Bosun
theorem whole_run {W0 W W1 : World} {wb rb bm bw : Nat} {gv : Value} {ob : Option Nat} {r : RRack} {w : RWork} {M : List Nat} {u : Nat} (h : Rest W0 W rb bm bw r M u) (C1 : Chg [] W W1) (hw : W.heap.size ≤ wb) (ho : ∀ g ∈ ob.toList, W.heap.size ≤ g) (G : Rig W1 wb rb bm bw gv ob r w M u) (hd : w.done = false)
    {good : Nat → Bool} {P : RS → Prop} (n : Nat) (hn : n < 9000) (hr : Run good n (r, w, M, u) P) (hP : ∀ s, P s → s.2.1.done = true) :
    Calls Tryd.prog 10 #[.pointer (some ⟨wb, 0, none⟩), .pointer (some ⟨bm, 0, none⟩)] W1 fun e W' => ∃ s : RS, P s ∧ e = .returned (.tuple #[.int .u64 ((resR s.2.1).1 : Nat), .int .i64 (resR s.2.1).2.1, .int .i64 (resR s.2.1).2.2]) ∧ Rest W0 W' rb bm bw s.1 s.2.2.1 s.2.2.2 ∧ Chg [rb, bm, bw] W W' := by
  obtain ⟨a1, a2⟩ := hr.spec
  refine (wall_any W1 wb rb bm bw gv ob r w M u G good (h.tab.keep C1) hd n hn (hP _ a1) (fun k hk _ => a2 k hk)).mono ?_
  rintro e W' ⟨rfl, ob', G2, C2, _⟩
  refine ⟨_, a1, rfl, h.after C1 hw ho G G2 C2, (C1.mono (by simp)).then C2 fun g hg => ?_⟩
  simp only [List.mem_cons, List.not_mem_nil, or_false] at hg ⊢
  rcases hg with rfl | rfl | rfl | rfl | hg
  · exact .inr hw
  · exact .inl (.inl rfl)
  · exact .inl (.inr (.inl rfl))
  · exact .inl (.inr (.inr rfl))
  · exact .inr (ho g hg)
end Go.Proofs.YtjdbgohfedjifaaDoor
