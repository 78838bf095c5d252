/- rack: a deque that lies anywhere in a memory, seen as one that lies at 0. No program in sight. -/
import Derived.Test.YtjdbgohfedjifaaDoorDqA
import Derived.Test.YtjdbgohfedjifaaDoorRkA
import Derived.Test.YtjdbgohfedjifaaDoorRkP4b
import Derived.Test.YtjdbgohfedjifaaDoorRkAll
namespace Bosun
open Go
/-- The words of a deque at B. -/
def vw (W : List Nat) (B cap : Nat) : List Nat := (List.range 260).map fun j => if j < 2 + cap then getA W ((B + j : Nat) : Int) else 0
section
variable {W : List Nat} {B cap : Nat}
theorem vw_len : (vw W B cap).length = 260 := by simp [vw]
theorem vw_get (hc : cap ≤ 256) {j : Nat} (hj : j < 2 + cap) : getA (vw W B cap) (j : Nat) = getA W ((B + j : Nat) : Int) := by
  rw [getA_yes (by rw [vw_len]; omega)]
  simp [vw, hj]
theorem vw_small (h : Small W) : Small (vw W B cap) := by
  intro x hx
  simp only [vw, List.mem_map] at hx
  obtain ⟨j, _, rfl⟩ := hx
  split
  · exact h.getA _
  · omega
theorem vw_far {a : Int} (x : Nat) (h : a < B ∨ (B + 2 + cap : Nat) ≤ a) : vw (setA W a x) B cap = vw W B cap := by
  unfold vw
  refine List.map_congr_left fun j _ => ?_
  split
  · rw [gs_other (by omega)]
  · rfl
theorem vw_set {j x : Nat} (hl : B + 2 + cap ≤ W.length) (hc : cap ≤ 256) (hj : j < 2 + cap) : vw (setA W ((B + j : Nat) : Int) x) B cap = setA (vw W B cap) (j : Nat) x := by
  rw [setA_yes (W := vw W B cap) (by rw [vw_len]; omega)]
  apply List.ext_getElem
  · simp [vw]
  · intro i h1 h2
    simp only [vw, List.length_map, List.length_range] at h1
    rw [List.getElem_set]
    simp only [vw, List.getElem_map, List.getElem_range]
    by_cases e : j = i
    · subst e; rw [if_pos rfl, if_pos hj, gs_same (by omega)]
    · rw [if_neg e]
      split
      · rw [gs_other (by omega)]
      · rfl
theorem vw_wins (hl : B + 2 + cap ≤ W.length) (hc : cap ≤ 256) (t : Nat) : wins (vw W B cap) 0 t = wins W (B : Nat) t := by
  unfold wins
  rw [show ((0 : Int)) = ((0 : Nat) : Int) from rfl, hasA_yes (by rw [vw_len]; omega), hasA_yes (by omega), vw_get hc (by omega)]; rfl
/-- A step of a work on a deque at B is a step of the same work on what is seen of it. -/
theorem stepD_vw (o : DOp) (hb : o.base = (B : Int)) (hcap : o.cap = cap) (c0 : 0 < cap) (hc : cap ≤ 256) (hl : B + 2 + cap ≤ W.length) (u u' : Nat) :
    (stepD { o with base := 0 } (vw W B cap) u').1 = { (stepD o W u).1 with base := 0 } ∧ (stepD { o with base := 0 } (vw W B cap) u').2.1 = vw (stepD o W u).2.1 B cap := by
  obtain ⟨base, cp, kind, steps, b, t, x, won, done, err⟩ := o
  simp only at hb hcap
  subst hb hcap
  have e0 : getA (vw W B cp) 0 = getA W (B : Nat) := vw_get hc (j := 0) (by omega)
  have e1 : getA (vw W B cp) (0 + 1) = getA W ((B : Int) + 1) := vw_get hc (j := 1) (by omega)
  have hm : ∀ k, k % cp < cp := fun k => Nat.mod_lt _ c0
  have ep : ∀ k, getA (vw W B cp) (plc 0 cp k) = getA W (plc (B : Nat) cp k) := fun k => by
    have := hm k
    have h := vw_get (W := W) (B := B) hc (j := 2 + k % cp) (by omega)
    rw [show plc 0 cp k = ((2 + k % cp : Nat) : Int) by unfold plc; push_cast; omega, h]
    unfold plc; rw [show ((B + (2 + k % cp) : Nat) : Int) = (B : Int) + 2 + ((k % cp : Nat) : Int) by push_cast; omega]
  have s0 : ∀ x, setA (vw W B cp) 0 x = vw (setA W (B : Nat) x) B cp := fun x => (vw_set hl hc (j := 0) (by omega)).symm
  have s1 : ∀ x, setA (vw W B cp) (0 + 1) x = vw (setA W ((B : Int) + 1) x) B cp := fun x => (vw_set hl hc (j := 1) (by omega)).symm
  have sp : ∀ k x, setA (vw W B cp) (plc 0 cp k) x = vw (setA W (plc (B : Nat) cp k) x) B cp := fun k x => by
    have := hm k
    have h := vw_set (x := x) hl hc (j := 2 + k % cp) (by omega)
    rw [show plc 0 cp k = ((2 + k % cp : Nat) : Int) by unfold plc; push_cast; omega, ← h]
    unfold plc; rw [show ((B + (2 + k % cp) : Nat) : Int) = (B : Int) + 2 + ((k % cp : Nat) : Int) by push_cast; omega]
  have hw := vw_wins hl hc t
  cases done with
  | true => exact ⟨rfl, rfl⟩
  | false =>
    have ff : ¬ (false = true) := by decide
    match kind, steps with
    | 0, 0 => simp only [stepD, e1, if_neg ff]; exact ⟨trivial, trivial⟩
    | 0, 1 =>
      simp only [stepD, e0, if_neg ff]
      by_cases hq : (cp : Int) ≤ ahd b (getA W (B : Nat))
      · simp only [if_pos hq]; exact ⟨trivial, trivial⟩
      · simp only [if_neg hq]; exact ⟨trivial, trivial⟩
    | 0, 2 => simp only [stepD, sp, if_neg ff]; exact ⟨trivial, trivial⟩
    | 0, n + 3 => simp only [stepD, s1, if_neg ff]; exact ⟨trivial, trivial⟩
    | 1, 0 => simp only [stepD, e1, if_neg ff]; exact ⟨trivial, trivial⟩
    | 1, 1 => simp only [stepD, s1, if_neg ff]; exact ⟨trivial, trivial⟩
    | 1, 2 => simp only [stepD, e0, if_neg ff]; exact ⟨trivial, trivial⟩
    | 1, 3 =>
      simp only [stepD, ep, s1, if_neg ff]
      by_cases hq : 0 < ahd t b
      · simp only [if_pos hq]; exact ⟨trivial, trivial⟩
      · simp only [if_neg hq]
        by_cases hq2 : 0 < ahd b t
        · simp only [if_pos hq2]; exact ⟨trivial, trivial⟩
        · simp only [if_neg hq2]; exact ⟨trivial, trivial⟩
    | 1, 4 =>
      simp only [stepD, hw, s0, if_neg ff]
      cases hq : wins W (B : Nat) t
      · simp only [if_neg ff]; exact ⟨trivial, trivial⟩
      · simp only [if_true]; exact ⟨trivial, trivial⟩
    | 1, n + 5 => simp only [stepD, s1, if_neg ff]; exact ⟨trivial, trivial⟩
    | n + 2, 0 => simp only [stepD, e0, if_neg ff]; exact ⟨trivial, trivial⟩
    | n + 2, 1 =>
      simp only [stepD, e1, if_neg ff]
      by_cases hq : ahd (getA W ((B : Int) + 1)) t ≤ 0
      · simp only [if_pos hq]; exact ⟨trivial, trivial⟩
      · simp only [if_neg hq]; exact ⟨trivial, trivial⟩
    | n + 2, 2 => simp only [stepD, ep, if_neg ff]; exact ⟨trivial, trivial⟩
    | n + 2, m + 3 =>
      simp only [stepD, hw, s0, if_neg ff]
      cases hq : wins W (B : Nat) t
      · simp only [if_neg ff]; exact ⟨trivial, trivial⟩
      · simp only [if_true]; exact ⟨trivial, trivial⟩
/-- What a step of a work changes lies in its deque. -/
theorem stepD_else (o : DOp) (hb : o.base = (B : Int)) (hcap : o.cap = cap) (c0 : 0 < cap) (u : Nat) : (stepD o W u).2.1.length = W.length ∧ ∀ a : Int, (a < B ∨ (B + 2 + cap : Nat) ≤ a) → getA (stepD o W u).2.1 a = getA W a := by
  obtain ⟨base, cp, kind, steps, b, t, x, won, done, err⟩ := o
  simp only at hb hcap
  subst hb hcap
  have hm : ∀ k, k % cp < cp := fun k => Nat.mod_lt _ c0
  have g0 : ∀ x, (setA W (B : Nat) x).length = W.length ∧ ∀ a : Int, (a < B ∨ (B + 2 + cp : Nat) ≤ a) → getA (setA W (B : Nat) x) a = getA W a := fun x => ⟨setA_length _ _ _, fun a h => gs_other (by omega) _⟩
  have g1 : ∀ x, (setA W ((B : Int) + 1) x).length = W.length ∧ ∀ a : Int, (a < B ∨ (B + 2 + cp : Nat) ≤ a) → getA (setA W ((B : Int) + 1) x) a = getA W a := fun x => ⟨setA_length _ _ _, fun a h => gs_other (by omega) _⟩
  have gp : ∀ k x, (setA W (plc (B : Nat) cp k) x).length = W.length ∧ ∀ a : Int, (a < B ∨ (B + 2 + cp : Nat) ≤ a) → getA (setA W (plc (B : Nat) cp k) x) a = getA W a := fun k x => ⟨setA_length _ _ _, fun a h => gs_other (by have := hm k; unfold plc; omega) _⟩
  have gr : W.length = W.length ∧ ∀ a : Int, (a < B ∨ (B + 2 + cp : Nat) ≤ a) → getA W a = getA W a := ⟨rfl, fun _ _ => rfl⟩
  cases done with
  | true => exact gr
  | false =>
    have ff : ¬ (false = true) := by decide
    match kind, steps with
    | 0, 0 => exact gr
    | 0, 1 => exact gr
    | 0, 2 => exact gp _ _
    | 0, n + 3 => exact g1 _
    | 1, 0 => exact gr
    | 1, 1 => exact g1 _
    | 1, 2 => exact gr
    | 1, 3 =>
      by_cases hq : 0 < ahd t b
      · simp only [stepD, if_neg ff, if_pos hq]; exact g1 _
      · simp only [stepD, if_neg ff, if_neg hq]; exact ⟨trivial, fun _ _ => trivial⟩
    | 1, 4 =>
      cases hq : wins W (B : Nat) t
      · simp only [stepD, if_neg ff, hq]; exact ⟨trivial, fun _ _ => trivial⟩
      · simp only [stepD, if_neg ff, hq, if_true]; exact g0 _
    | 1, n + 5 => exact g1 _
    | n + 2, 0 => exact gr
    | n + 2, 1 => exact gr
    | n + 2, 2 => exact gr
    | n + 2, m + 3 =>
      cases hq : wins W (B : Nat) t
      · simp only [stepD, if_neg ff, hq]; exact ⟨trivial, fun _ _ => trivial⟩
      · simp only [stepD, if_neg ff, hq, if_true]; exact g0 _
end
end Bosun

/- rack: sixteen deques that an owner and thieves work on, plainly. No program in sight. -/
namespace Bosun
open Go
theorem lenD_St {f cap : Nat} {W : List Nat} {A : Nat → Option DOp} {L : List Nat} {N : Nat} (h : St f cap W A L N false) (hN : N < 1000000) : lenD 0 cap W = L.length := by
  obtain ⟨t, b, l, t0, I, hL⟩ := h
  have tb := I.tb
  have bN := I.bN
  have room := I.room
  have hlt : l = t := by
    by_cases e : l = t
    · exact e
    · obtain ⟨o', a1, a2, a3, a4, _⟩ := I.won e
      have := I.clm.2 ⟨o', a1, a2, a3, by omega⟩
      cases this
  have hb := I.bot
  simp only [Bool.false_eq_true, if_false] at hb
  unfold lenD
  rw [show ((0 : Int) + 1) = ((1 : Nat) : Int) from rfl, hb, show (0 : Int) = ((0 : Nat) : Int) from rfl, I.top, ahd_num (by omega) (by omega), hL, listOf_len]
  omega
theorem allD_St {f cap : Nat} {W : List Nat} {A : Nat → Option DOp} {L : List Nat} {N : Nat} (h : St f cap W A L N false) (hN : N < 1000000) : allD 0 cap W = L := by
  have hn := lenD_St h hN
  obtain ⟨t, b, l, t0, I, hL⟩ := h
  have tb := I.tb
  have bN := I.bN
  have hlt : l = t := by
    by_cases e : l = t
    · exact e
    · obtain ⟨o', a1, a2, a3, a4, _⟩ := I.won e
      have := I.clm.2 ⟨o', a1, a2, a3, by omega⟩
      cases this
  have hb := I.bot
  simp only [Bool.false_eq_true, if_false] at hb
  unfold allD
  rw [hn, show ((0 : Int) + 1) = ((1 : Nat) : Int) from rfl, hb, hL, listOf_len]
  unfold listOf
  refine List.map_congr_left fun i hi => ?_
  simp only [List.mem_range] at hi
  have e : (num f b + (18446744073709551616 - (b - l)) + i) % 18446744073709551616 = num f (l + i) := by unfold num; omega
  rw [e, plc_num I.pw]; rfl
theorem allD_vw {M : List Nat} {B cap : Nat} (c0 : 0 < cap) (hc : cap ≤ 256) : allD (B : Int) cap M = allD 0 cap (vw M B cap) := by
  have e0 : getA (vw M B cap) 0 = getA M (B : Nat) := vw_get hc (j := 0) (by omega)
  have e1 : getA (vw M B cap) (0 + 1) = getA M ((B : Int) + 1) := vw_get hc (j := 1) (by omega)
  have ep : ∀ k, getA (vw M B cap) (plc 0 cap k) = getA M (plc (B : Nat) cap k) := fun k => by
    have := Nat.mod_lt k c0
    have h := vw_get (W := M) (B := B) hc (j := 2 + k % cap) (by omega)
    rw [show plc 0 cap k = ((2 + k % cap : Nat) : Int) by unfold plc; push_cast; omega, h]
    unfold plc; rw [show ((B + (2 + k % cap) : Nat) : Int) = (B : Int) + 2 + ((k % cap : Nat) : Int) by push_cast; omega]
  have hl : lenD (B : Int) cap M = lenD 0 cap (vw M B cap) := by unfold lenD; rw [e0, e1]
  unfold allD
  rw [hl, e1]
  refine List.map_congr_left fun i _ => ?_
  rw [ep]
theorem St.upTo {f cap : Nat} {W : List Nat} {A : Nat → Option DOp} {L : List Nat} {N N' : Nat} {c : Bool} (h : St f cap W A L N c) (hn : N ≤ N') : St f cap W A L N' c := by
  obtain ⟨t, b, l, t0, I, hL⟩ := h
  exact ⟨t, b, l, t0, { I with bN := by have := I.bN; omega }, hL⟩
/-- The start. -/
theorem St.nought {cap : Nat} (hc : Pow2 cap) {V : List Nat} (hl : V.length = 260) (hz : ∀ a, getA V a = 0) (hs : Small V) : St 18446744073709551615 cap V (fun _ => none) [] 1 false := by
  have hn : num 18446744073709551615 1 = 0 := by unfold num; omega
  refine ⟨1, 1, 1, 1, ⟨hc, hl, hs, by omega, by omega, by omega, by omega, by omega, by omega, ?_, ?_, ?_, fun h => absurd rfl h, (fun o h => by cases h), (fun k _ o h => by cases h)⟩, (listOf_nil _ _ _ _).symm⟩
  · rw [hz, hn]
  · rw [hz]; simp only [Bool.false_eq_true, if_false]; exact hn.symm
  · exact ⟨(fun h => by cases h), (fun ⟨o, h, _⟩ => by cases h)⟩
/-- A thief's new work takes the place of whatever it had. -/
theorem St.newT {f cap : Nat} {W : List Nat} {A : Nat → Option DOp} {L : List Nat} {N : Nat} {c : Bool} (h : St f cap W A L N c) {k : Nat} (k1 : 1 ≤ k) : St f cap W (updA A k (newD 0 cap 2 0)) L N c := by
  obtain ⟨t, b, l, t0, I, hL⟩ := h
  exact ⟨t, b, l, t0, I.turn k1 _ ⟨rfl, rfl, rfl, fun _ => ⟨by show 0 < 4; omega, fun h => absurd h (by show ¬ 1 ≤ 0; omega)⟩⟩, hL⟩
theorem smallStep {o : DOp} {W : List Nat} {u : Nat} (h : Small W) (hx : o.x < 18446744073709551616) (hb : o.b < 18446744073709551616) (ht : o.t < 18446744073709551616) : Small (stepD o W u).2.1 := by
  obtain ⟨base, cp, kind, steps, b, t, x, won, done, err⟩ := o
  simp only at hx hb ht
  have ff : ¬ (false = true) := by decide
  cases done with
  | true => exact h
  | false =>
    match kind, steps with
    | 0, 0 => exact h
    | 0, 1 => exact h
    | 0, 2 => exact h.setA _ hx
    | 0, n + 3 => exact h.setA _ (add1_lt _)
    | 1, 0 => exact h
    | 1, 1 => exact h.setA _ hb
    | 1, 2 => exact h
    | 1, 3 =>
      by_cases hq : 0 < ahd t b
      · simp only [stepD, if_neg ff, if_pos hq]; exact h.setA _ ht
      · simp only [stepD, if_neg ff, if_neg hq]; exact h
    | 1, 4 =>
      cases hq : wins W base t
      · simp only [stepD, if_neg ff, hq]; exact h
      · simp only [stepD, if_neg ff, hq, if_true]; exact h.setA _ (add1_lt _)
    | 1, n + 5 => exact h.setA _ (add1_lt _)
    | n + 2, 0 => exact h
    | n + 2, 1 => exact h
    | n + 2, 2 => exact h
    | n + 2, m + 3 =>
      cases hq : wins W base t
      · simp only [stepD, if_neg ff, hq]; exact h
      · simp only [stepD, if_neg ff, hq, if_true]; exact h.setA _ (add1_lt _)
def f0 : Nat := 18446744073709551615
/-- The works on each deque: the owner's push or pop (0), the thieves' steals (1, 2, 3), the owner's steal (4). -/
abbrev AAs := Nat → Nat → Nat → Option DOp
def at0 (o : DOp) : DOp := { o with base := 0 }
def updAA (A : AAs) (k l j : Nat) (o : DOp) : AAs := fun k' l' => if k' = k ∧ l' = l then updA (A k l) j (at0 o) else A k' l'
def updC (c : Nat → Nat → Bool) (k l : Nat) (b : Bool) : Nat → Nat → Bool := fun k' l' => if k' = k ∧ l' = l then b else c k' l'
theorem updAA_same (A : AAs) (k l j : Nat) (o : DOp) : updAA A k l j o k l = updA (A k l) j (at0 o) := if_pos ⟨rfl, rfl⟩
theorem updAA_other (A : AAs) {k l k' l' : Nat} (j : Nat) (o : DOp) (h : ¬ (k' = k ∧ l' = l)) : updAA A k l j o k' l' = A k' l' := if_neg h
structure QS (cap : Nat) (M : List Nat) (A : AAs) (Q : Nat → Nat → List Nat) (N : Nat) (c : Nat → Nat → Bool) : Prop where
  len : M.length = 1 + 16 * (2 + cap)
  small : Small M
  pw : Pow2 cap
  st : ∀ k l, k < 2 → l < 8 → St f0 cap (vw M (bas cap k l) cap) (A k l) (Q k l) N (c k l)
section
variable {cap : Nat} {M : List Nat} {A : AAs} {Q : Nat → Nat → List Nat} {N : Nat} {c : Nat → Nat → Bool}
theorem QS.fits (h : QS cap M A Q N c) {k l : Nat} (hk : k < 2) (hl : l < 8) : bas cap k l + 2 + cap ≤ M.length := by rw [h.len]; exact bas_end hk hl
theorem QS.up (h : QS cap M A Q N c) {N' : Nat} (hn : N ≤ N') : QS cap M A Q N' c := ⟨h.len, h.small, h.pw, fun k l hk hl => (h.st k l hk hl).upTo hn⟩
/-- What is seen of the deques when the sign is stored. -/
theorem QS.sign (h : QS cap M A Q N c) {x : Nat} (hx : x < 18446744073709551616) : QS cap (setA M 0 x) A Q N c :=
  ⟨by rw [setA_length]; exact h.len, h.small.setA _ hx, h.pw, fun k l hk hl => by
    rw [vw_far x (.inl (by have := bas_pos cap k l; omega))]; exact h.st k l hk hl⟩
theorem QS.turn (h : QS cap M A Q N c) {k l j N' : Nat} (hk : k < 2) (hl : l < 8) {o : DOp} (hb : o.base = (bas cap k l : Nat)) (hc : o.cap = cap) (hx : o.x < 18446744073709551616) (hbb : o.b < 18446744073709551616) (htt : o.t < 18446744073709551616) (u : Nat) (hn : N ≤ N') {L' : List Nat} {c' : Bool}
    (hs : St f0 cap (stepD (at0 o) (vw M (bas cap k l) cap) u).2.1 (updA (A k l) j (stepD (at0 o) (vw M (bas cap k l) cap) u).1) L' N' c') : QS cap (stepD o M u).2.1 (updAA A k l j (stepD o M u).1) (updQ Q k l L') N' (updC c k l c') := by
  have c0 : 0 < cap := by have := h.pw.le; omega
  have c1 : cap ≤ 256 := h.pw.le.2
  obtain ⟨e1, e2⟩ := stepD_vw (W := M) o hb hc c0 c1 (h.fits hk hl) u u
  obtain ⟨e3, e4⟩ := stepD_else (W := M) o hb hc c0 u
  have hsm : Small (stepD o M u).2.1 := smallStep h.small hx hbb htt
  refine ⟨by rw [e3]; exact h.len, hsm, h.pw, fun k' l' hk' hl' => ?_⟩
  by_cases e : k' = k ∧ l' = l
  · obtain ⟨rfl, rfl⟩ := e
    rw [updAA_same, updQ_same]
    unfold at0 at hs ⊢
    rw [e1, e2] at hs
    unfold updC; rw [if_pos ⟨rfl, rfl⟩]
    exact hs
  · rw [updAA_other _ _ _ e, updQ_other _ _ e]
    unfold updC; rw [if_neg e]
    have : vw (stepD o M u).2.1 (bas cap k' l') cap = vw M (bas cap k' l') cap := by
      unfold vw
      refine List.map_congr_left fun j _ => ?_
      split
      · refine e4 _ ?_
        rcases bas_apart (cap := cap) hl' hl (fun h => e ⟨h.1.symm, h.2.symm⟩) with q | q
        · left; omega
        · right; omega
      · rfl
    rw [this]
    exact (h.st k' l' hk' hl').upTo hn
theorem at0_step (o : DOp) (W : List Nat) {B : Nat} (hb : o.base = (B : Int)) (hc : o.cap = cap) (c0 : 0 < cap) (c1 : cap ≤ 256) (hl : B + 2 + cap ≤ W.length) (u : Nat) :
    (stepD (at0 o) (vw W B cap) u).1.done = (stepD o W u).1.done ∧ (stepD (at0 o) (vw W B cap) u).1.err = (stepD o W u).1.err ∧ (stepD (at0 o) (vw W B cap) u).1.x = (stepD o W u).1.x := by
  obtain ⟨e1, _⟩ := stepD_vw (W := W) o hb hc c0 c1 hl u u
  unfold at0; rw [e1]; exact ⟨rfl, rfl, rfl⟩
/-- A steal's step. -/
theorem QS.steal (h : QS cap M A Q N c) (hN : N < 1000000) {k l j : Nat} (hk : k < 2) (hl : l < 8) (j1 : 1 ≤ j) {o : DOp} (ho : A k l j = some (at0 o)) (hb : o.base = (bas cap k l : Nat)) (ok : OkOp o) (hd : o.done = false) (u : Nat) :
    ((stepD o M u).1.done = false ∧ QS cap (stepD o M u).2.1 (updAA A k l j (stepD o M u).1) (updQ Q k l (Q k l)) N (updC c k l (c k l))) ∨
    ((stepD o M u).1.done = true ∧ (stepD o M u).1.err = 0 ∧ ∃ L', Q k l = (stepD o M u).1.x :: L' ∧ QS cap (stepD o M u).2.1 (updAA A k l j (stepD o M u).1) (updQ Q k l L') N (updC c k l (c k l))) ∨
    ((stepD o M u).1.done = true ∧ (stepD o M u).1.err = 8 ∧ QS cap (stepD o M u).2.1 (updAA A k l j (stepD o M u).1) (updQ Q k l (Q k l)) N (updC c k l (c k l))) ∨
    ((stepD o M u).1.done = true ∧ (stepD o M u).1.err = 7 ∧ QS cap (stepD o M u).2.1 (updAA A k l j (stepD o M u).1) (updQ Q k l (Q k l)) N (updC c k l (c k l))) := by
  have hst := h.st k l hk hl
  have hcp : o.cap = cap := by
    obtain ⟨t, b, l', t0, I, _⟩ := hst
    exact (I.thief j j1 _ ho).2.1
  obtain ⟨e1, e2, e3⟩ := at0_step o M hb hcp (by have := h.pw.le; omega) h.pw.le.2 (h.fits hk hl) u
  have herr := ok.err hd
  rcases hst.steal hN j1 ho hd herr u with ⟨q1, q2⟩ | ⟨q1, q2, L', q3, q4⟩ | ⟨q1, q2, q3⟩ | ⟨q1, q2, _, q4⟩
  · exact .inl ⟨by rw [← e1]; exact q1, h.turn hk hl hb hcp ok.x ok.b ok.t u (Nat.le_refl _) q2⟩
  · exact .inr (.inl ⟨by rw [← e1]; exact q1, by rw [← e2]; exact q2, L', by rw [← e3]; exact q3, h.turn hk hl hb hcp ok.x ok.b ok.t u (Nat.le_refl _) q4⟩)
  · exact .inr (.inr (.inl ⟨by rw [← e1]; exact q1, by rw [← e2]; exact q2, h.turn hk hl hb hcp ok.x ok.b ok.t u (Nat.le_refl _) q3⟩))
  · exact .inr (.inr (.inr ⟨by rw [← e1]; exact q1, by rw [← e2]; exact q2, h.turn hk hl hb hcp ok.x ok.b ok.t u (Nat.le_refl _) q4⟩))
/-- A push's step. -/
theorem QS.push (h : QS cap M A Q N c) (hN : N < 1000000) {k l : Nat} (hk : k < 2) (hl : l < 8) {o : DOp} (ho : A k l 0 = some (at0 o)) (hb : o.base = (bas cap k l : Nat)) (ok : OkOp o) (hkd : o.kind = 0) (hd : o.done = false) (u : Nat) : c k l = false ∧
    (((stepD o M u).1.done = false ∧ (stepD o M u).1.x = o.x ∧ QS cap (stepD o M u).2.1 (updAA A k l 0 (stepD o M u).1) (updQ Q k l (Q k l)) N (updC c k l false)) ∨
    ((stepD o M u).1.done = true ∧ (stepD o M u).1.err = 6 ∧ cap ≤ (Q k l).length ∧ QS cap (stepD o M u).2.1 (updAA A k l 0 (stepD o M u).1) (updQ Q k l (Q k l)) N (updC c k l false)) ∨
    ((stepD o M u).1.done = true ∧ (stepD o M u).1.err = 0 ∧ (Q k l).length < cap ∧ QS cap (stepD o M u).2.1 (updAA A k l 0 (stepD o M u).1) (updQ Q k l (Q k l ++ [o.x])) (N + 1) (updC c k l false))) := by
  have hst := h.st k l hk hl
  have hcp : o.cap = cap := by
    obtain ⟨t, b, l', t0, I, _⟩ := hst
    exact (I.own _ ho).2.1
  obtain ⟨e1, e2, e3⟩ := at0_step o M hb hcp (by have := h.pw.le; omega) h.pw.le.2 (h.fits hk hl) u
  have herr := ok.err hd
  obtain ⟨hc, hh⟩ := hst.push hN ho hkd hd herr ok.x u
  refine ⟨hc, ?_⟩
  rcases hh with ⟨q1, q2, q3⟩ | ⟨q1, q2, q3, q4⟩ | ⟨q1, q2, q3, q4, q5⟩
  · exact .inl ⟨by rw [← e1]; exact q1, by rw [← e3]; exact q2, h.turn hk hl hb hcp ok.x ok.b ok.t u (Nat.le_refl _) q3⟩
  · exact .inr (.inl ⟨by rw [← e1]; exact q1, by rw [← e2]; exact q2, q3, h.turn hk hl hb hcp ok.x ok.b ok.t u (Nat.le_refl _) q4⟩)
  · exact .inr (.inr ⟨by rw [← e1]; exact q1, by rw [← e2]; exact q2, q4, h.turn hk hl hb hcp ok.x ok.b ok.t u (Nat.le_succ _) q5⟩)
/-- A pop's step. -/
theorem QS.pop (h : QS cap M A Q N c) (hN : N < 1000000) {k l : Nat} (hk : k < 2) (hl : l < 8) {o : DOp} (ho : A k l 0 = some (at0 o)) (hb : o.base = (bas cap k l : Nat)) (ok : OkOp o) (hkd : o.kind = 1) (hd : o.done = false) (u : Nat) :
    ((stepD o M u).1.done = false ∧ ∃ c', QS cap (stepD o M u).2.1 (updAA A k l 0 (stepD o M u).1) (updQ Q k l (Q k l)) N (updC c k l c')) ∨
    ((stepD o M u).1.done = true ∧ (stepD o M u).1.err = 0 ∧ ∃ L', Q k l = L' ++ [(stepD o M u).1.x] ∧ QS cap (stepD o M u).2.1 (updAA A k l 0 (stepD o M u).1) (updQ Q k l L') N (updC c k l false)) ∨
    ((stepD o M u).1.done = true ∧ (stepD o M u).1.err = 7 ∧ QS cap (stepD o M u).2.1 (updAA A k l 0 (stepD o M u).1) (updQ Q k l (Q k l)) N (updC c k l false)) := by
  have hst := h.st k l hk hl
  have hcp : o.cap = cap := by
    obtain ⟨t, b, l', t0, I, _⟩ := hst
    exact (I.own _ ho).2.1
  obtain ⟨e1, e2, e3⟩ := at0_step o M hb hcp (by have := h.pw.le; omega) h.pw.le.2 (h.fits hk hl) u
  have herr := ok.err hd
  rcases hst.pop hN ho hkd hd herr u with ⟨q1, q2, q3⟩ | ⟨q1, q2, q3, q4⟩ | ⟨q1, q2, q3, q3', L', q4, q5⟩ | ⟨q1, q2, q3, q3', q4, q5⟩
  · exact .inl ⟨by rw [← e1]; exact q1, _, h.turn hk hl hb hcp ok.x ok.b ok.t u (Nat.le_refl _) q3⟩
  · exact .inl ⟨by rw [← e1]; exact q1, _, h.turn hk hl hb hcp ok.x ok.b ok.t u (Nat.le_refl _) q4⟩
  · exact .inr (.inl ⟨by rw [← e1]; exact q1, by rw [← e2]; exact q3', L', by rw [← e3]; exact q4, h.turn hk hl hb hcp ok.x ok.b ok.t u (Nat.le_refl _) q5⟩)
  · exact .inr (.inr ⟨by rw [← e1]; exact q1, by rw [← e2]; exact q3', h.turn hk hl hb hcp ok.x ok.b ok.t u (Nat.le_refl _) (L' := Q k l) (by rw [q4]; exact q5)⟩)
theorem updQ_self (Q : Nat → Nat → List Nat) (k l : Nat) : updQ Q k l (Q k l) = Q := by
  funext a b; unfold updQ; split
  · rename_i h; rw [h.1, h.2]
  · rfl
theorem updC_self (c : Nat → Nat → Bool) (k l : Nat) : updC c k l (c k l) = c := by
  funext a b; unfold updC; split
  · rename_i h; rw [h.1, h.2]
  · rfl
/-- A thief's, or the owner's, new steal. -/
theorem QS.newT (h : QS cap M A Q N c) {k l j : Nat} (j1 : 1 ≤ j) (B : Int) : QS cap M (updAA A k l j (newD B cap 2 0)) Q N c :=
  ⟨h.len, h.small, h.pw, fun k' l' hk' hl' => by
    by_cases e : k' = k ∧ l' = l
    · obtain ⟨rfl, rfl⟩ := e
      rw [updAA_same]
      exact (h.st _ _ hk' hl').newT j1
    · rw [updAA_other _ _ _ e]; exact h.st _ _ hk' hl'⟩
/-- The owner's new push or pop. -/
theorem QS.new0 (h : QS cap M A Q N c) {k l kd x : Nat} (hk : k < 2) (hl : l < 8) (hkd : kd ≤ 1) (hn : A k l 0 = none ∨ ∃ o, A k l 0 = some o ∧ o.done = true) (B : Int) : QS cap M (updAA A k l 0 (newD B cap kd x)) Q N c :=
  ⟨h.len, h.small, h.pw, fun k' l' hk' hl' => by
    by_cases e : k' = k ∧ l' = l
    · obtain ⟨rfl, rfl⟩ := e
      rw [updAA_same]
      exact (h.st _ _ hk' hl').new hn (at0 (newD B cap kd x)) rfl rfl (by rw [if_pos rfl]; exact hkd) rfl rfl
    · rw [updAA_other _ _ _ e]; exact h.st _ _ hk' hl'⟩
/-- What All tells of a deque at which no pop is under way. -/
theorem QS.all (h : QS cap M A Q N c) (hN : N < 1000000) {k l : Nat} (hk : k < 2) (hl : l < 8) (hn : A k l 0 = none ∨ ∃ o, A k l 0 = some o ∧ o.done = true) : allD ((bas cap k l : Nat) : Int) cap M = Q k l := by
  have hst := h.st k l hk hl
  have hc : c k l = false := by
    cases hc : c k l with
    | false => rfl
    | true =>
      obtain ⟨t, b, l', t0, I, _⟩ := hst
      obtain ⟨o, a1, _, a2, _⟩ := I.clm.1 hc
      rcases hn with e | ⟨o', e, e2⟩
      · rw [e] at a1; cases a1
      · rw [e] at a1; cases a1; rw [e2] at a2; cases a2
  rw [hc] at hst
  rw [allD_vw (by have := h.pw.le; omega) h.pw.le.2]
  exact allD_St hst hN
theorem QS.zero {cap : Nat} (hc : Pow2 cap) : QS cap (List.replicate (1 + 16 * (2 + cap)) 0) (fun _ _ _ => none) (fun _ _ => []) 1 (fun _ _ => false) := by
  have hz : ∀ n (a : Int), getA (List.replicate n 0) a = 0 := fun n a => by
    unfold getA
    split
    · simp only [List.getD, List.getElem?_replicate]; split <;> rfl
    · rfl
  refine ⟨by simp, Small.zeros _, hc, fun k l hk hl => St.nought hc vw_len (fun a => ?_) (vw_small (Small.zeros _))⟩
  have hall : ∀ x ∈ vw (List.replicate (1 + 16 * (2 + cap)) 0) (bas cap k l) cap, x = 0 := by
    intro x hx
    unfold vw at hx
    rw [List.mem_map] at hx
    obtain ⟨j, _, rfl⟩ := hx
    split
    · exact hz _ _
    · rfl
  generalize vw (List.replicate (1 + 16 * (2 + cap)) 0) (bas cap k l) cap = V at hall ⊢
  unfold getA
  split
  · cases hq : V[a.toNat]? with
    | none => rw [List.getD, hq]; rfl
    | some x => rw [List.getD, hq]; exact hall x (List.mem_of_getElem? hq)
  · rfl
end
end Bosun

/- rack: works of an owner and thieves on sixteen deques, plainly: what holds between two steps. No program in sight. -/
namespace Bosun
open Go
def allQ (Q : Nat → Nat → List Nat) : List Nat := (List.range 16).flatMap fun c => Q (c / 8) (c % 8)
theorem flatMap_range_split (f : Nat → List Nat) : ∀ (n c0 : Nat), c0 < n → ∃ a b, (List.range n).flatMap f = a ++ f c0 ++ b ∧ ∀ g : Nat → List Nat, (∀ c, c < n → c ≠ c0 → g c = f c) → (List.range n).flatMap g = a ++ g c0 ++ b
  | 0, _, h => absurd h (by omega)
  | n + 1, c0, h => by
    by_cases e : c0 = n
    · subst e
      refine ⟨(List.range c0).flatMap f, [], by rw [List.range_succ, List.flatMap_append]; simp, fun g hg => ?_⟩
      rw [List.range_succ, List.flatMap_append]
      have : (List.range c0).flatMap g = (List.range c0).flatMap f := by
        rw [List.flatMap_def, List.flatMap_def]
        congr 1
        refine List.map_congr_left fun c hc => ?_
        exact hg c (by have := List.mem_range.1 hc; omega) (by have := List.mem_range.1 hc; omega)
      rw [this]; simp
    · obtain ⟨a, b, h1, h2⟩ := flatMap_range_split f n c0 (by omega)
      refine ⟨a, b ++ f n, by rw [List.range_succ, List.flatMap_append, h1]; simp, fun g hg => ?_⟩
      rw [List.range_succ, List.flatMap_append, h2 g (fun c hc => hg c (by omega))]
      have := hg n (by omega) (Ne.symm e)
      simp [this]
/-- One deque's words change. -/
theorem allQ_upd (Q : Nat → Nat → List Nat) {k l : Nat} (hk : k < 2) (hl : l < 8) : ∃ a b, allQ Q = a ++ Q k l ++ b ∧ ∀ L, allQ (updQ Q k l L) = a ++ L ++ b := by
  obtain ⟨a, b, h1, h2⟩ := flatMap_range_split (fun c => Q (c / 8) (c % 8)) 16 (8 * k + l) (by omega)
  have e1 : (8 * k + l) / 8 = k := by omega
  have e2 : (8 * k + l) % 8 = l := by omega
  simp only [e1, e2] at h1 h2
  refine ⟨a, b, h1, fun L => ?_⟩
  have := h2 (fun c => updQ Q k l L (c / 8) (c % 8)) (fun c hc hne => updQ_other _ _ (by omega))
  simp only [e1, e2, updQ_same] at this
  exact this
theorem allQ_push (Q : Nat → Nat → List Nat) {k l : Nat} (hk : k < 2) (hl : l < 8) (x : Nat) : (allQ (updQ Q k l (Q k l ++ [x]))).Perm (x :: allQ Q) := by
  obtain ⟨a, b, h1, h2⟩ := allQ_upd Q hk hl
  rw [h1, h2]
  have := List.perm_middle (l₁ := a ++ Q k l) (a := x) (l₂ := b)
  simpa using this
theorem allQ_pop (Q : Nat → Nat → List Nat) {k l : Nat} (hk : k < 2) (hl : l < 8) {x : Nat} {L : List Nat} (h : (Q k l).Perm (x :: L)) : (allQ Q).Perm (x :: allQ (updQ Q k l L)) := by
  obtain ⟨a, b, h1, h2⟩ := allQ_upd Q hk hl
  rw [h1, h2]
  have : (a ++ Q k l ++ b).Perm (a ++ (x :: L) ++ b) := (h.append_left a).append_right b
  refine this.trans ?_
  simp
/-- What the owner has in hand. -/
def handW (w : RWork) : List Nat := if w.done = true ∨ w.there = true then [] else if w.holds = true then [w.swept, w.x] else [w.x]
def handO : Option RWork → List Nat
  | none => []
  | some w => handW w
def Idle0 (a : Option DOp) : Prop := a = none ∨ ∃ o, a = some o ∧ o.done = true
/-- The op of a work, as its deque has it. -/
def OpOn (cap : Nat) (A : AAs) (w : RWork) (kd j : Nat) (o : DOp) : Prop :=
  w.op = some o ∧ o.kind = kd ∧ o.done = false ∧ OkOp o ∧ o.base = (bas cap w.kind w.level : Nat) ∧ o.cap = cap ∧ A w.kind w.level j = some (at0 o) ∧ w.level < 8
def isPut (w : RWork) : Prop := w.next = .pushing ∨ w.next = .signing ∨ w.next = .sweeping ∨ w.next = .asking ∨ w.next = .again
structure OwnR (cap : Nat) (A : AAs) (Q : Nat → Nat → List Nat) (w : RWork) : Prop where
  kind : w.kind < 2
  level : w.level < 8
  x : w.x < 18446744073709551616
  fr : w.from_ < 18446744073709551616
  sw : w.swept < 18446744073709551616
  nx : isPut w ∨ w.next = .choosing ∨ w.next = .taking ∨ w.next = .emptying ∨ w.next = .worst ∨ w.next = .popping
  err : w.err = 0
  pu : w.next = .pushing → w.there = false ∧ w.holds = false ∧ ∃ o, OpOn cap A w 0 0 o ∧ o.x = w.x
  ag : w.next = .again → w.there = false ∧ w.holds = true ∧ (Q w.kind w.level).length < cap ∧ ∃ o, OpOn cap A w 0 0 o ∧ o.x = w.swept
  as_ : w.next = .asking → w.there = false ∧ w.holds = true ∧ (Q w.kind w.level).length < cap
  sw_ : w.next = .sweeping → w.there = false ∧ w.holds = false ∧ ∃ o, OpOn cap A w 2 4 o
  si : w.next = .signing → w.there = true
  ta : w.next = .taking → w.there = true ∧ ∃ o, OpOn cap A w 2 4 o
  po : w.next = .popping → w.there = true ∧ ∃ o, OpOn cap A w 1 0 o
  ch : w.next = .choosing → w.there = true ∧ w.kind = 0
  em : w.next = .emptying → w.there = true
  wo : w.next = .worst → w.there = true ∧ w.kind = 0 ∧ w.op = none
structure ThfR (cap : Nat) (A : AAs) (j : Nat) (w : RWork) : Prop where
  kind : w.kind = 0
  level : w.level < 8
  x : w.x < 18446744073709551616
  fr : w.from_ < 18446744073709551616
  sw : w.swept < 18446744073709551616
  err : w.err = 0
  nx : w.next = .reading ∨ w.next = .robbing ∨ w.next = .minding
  ro : w.next = .robbing ∨ w.next = .minding → ∃ o, OpOn cap A w 2 j o
  mi : w.next = .minding → ∃ o, w.op = some o ∧ 3 ≤ o.steps
structure OW (cap : Nat) (r : RRack) (M : List Nat) (ws : Nat → Option RWork) (A : AAs) (Q : Nat → Nat → List Nat) (N : Nat) (c : Nat → Nat → Bool) : Prop where
  base : r.base = 0
  cp : r.cap = cap
  ok : r.s0 < 256 ∧ r.s1 < 256 ∧ r.turn < 2
  q : QS cap M A Q N c
  idle : ∀ k l, k < 2 → l < 8 → Idle0 (A k l 0) ∨ ∃ w, ws 0 = some w ∧ w.done = false ∧ (w.next = .pushing ∨ w.next = .again ∨ w.next = .popping) ∧ w.kind = k ∧ w.level = l
  own : ∀ w, ws 0 = some w → w.done = false → OwnR cap A Q w
  thf : ∀ j, 1 ≤ j → j < 4 → ∀ w, ws j = some w → w.done = false → ThfR cap A j w
def updW (ws : Nat → Option RWork) (j : Nat) (w : RWork) : Nat → Option RWork := fun i => if i = j then some w else ws i
theorem updW_same (ws : Nat → Option RWork) (j : Nat) (w : RWork) : updW ws j w j = some w := if_pos rfl
theorem updW_other (ws : Nat → Option RWork) {j i : Nat} (w : RWork) (h : i ≠ j) : updW ws j w i = ws i := if_neg h
theorem updAA_slot (A : AAs) (k l j : Nat) (o : DOp) (k' l' i : Nat) (h : i ≠ j) : updAA A k l j o k' l' i = A k' l' i := by
  unfold updAA
  split
  · rename_i e; rw [updA_other _ _ h, e.1, e.2]
  · rfl
theorem updAA_here (A : AAs) (k l j : Nat) (o : DOp) : updAA A k l j o k l j = some (at0 o) := by rw [updAA_same, updA_same]
theorem OpOn.slot {cap : Nat} {A : AAs} {w : RWork} {kd j i k l : Nat} {o o' : DOp} (h : OpOn cap A w kd j o) (hne : j ≠ i) : OpOn cap (updAA A k l i o') w kd j o := by
  obtain ⟨h1, h2, h3, h4, h5, h6, h7, h8⟩ := h
  exact ⟨h1, h2, h3, h4, h5, h6, by rw [updAA_slot _ _ _ _ _ _ _ _ hne]; exact h7, h8⟩
theorem ThfR.slot {cap : Nat} {A : AAs} {w : RWork} {j i k l : Nat} {o' : DOp} (h : ThfR cap A j w) (hne : j ≠ i) : ThfR cap (updAA A k l i o') j w :=
  ⟨h.kind, h.level, h.x, h.fr, h.sw, h.err, h.nx, fun hn => by obtain ⟨o, ho⟩ := h.ro hn; exact ⟨o, ho.slot hne⟩, h.mi⟩
/-- The owner's work does not heed a thief's step, but for the words that go. -/
theorem OwnR.slot {cap : Nat} {A : AAs} {Q Q' : Nat → Nat → List Nat} {w : RWork} {i k l : Nat} {o' : DOp} (h : OwnR cap A Q w) (h0 : 0 ≠ i) (h4 : 4 ≠ i) (hq : ∀ k l, (Q' k l).length ≤ (Q k l).length) : OwnR cap (updAA A k l i o') Q' w :=
  ⟨h.kind, h.level, h.x, h.fr, h.sw, h.nx, h.err,
   fun hn => by obtain ⟨a, b, o, ho, hx⟩ := h.pu hn; exact ⟨a, b, o, ho.slot h0, hx⟩,
   fun hn => by obtain ⟨a, b, d, o, ho, hx⟩ := h.ag hn; exact ⟨a, b, by have := hq w.kind w.level; omega, o, ho.slot h0, hx⟩,
   fun hn => by obtain ⟨a, b, d⟩ := h.as_ hn; exact ⟨a, b, by have := hq w.kind w.level; omega⟩,
   fun hn => by obtain ⟨a, b, o, ho⟩ := h.sw_ hn; exact ⟨a, b, o, ho.slot h4⟩,
   h.si, fun hn => by obtain ⟨a, o, ho⟩ := h.ta hn; exact ⟨a, o, ho.slot h4⟩, fun hn => by obtain ⟨a, o, ho⟩ := h.po hn; exact ⟨a, o, ho.slot h0⟩, h.ch, h.em, h.wo⟩
end Bosun

/- rack: a thief's step, plainly. No program in sight. -/
namespace Bosun
open Go
theorem stepD_same (o : DOp) (W : List Nat) (u : Nat) : (stepD o W u).1.base = o.base ∧ (stepD o W u).1.cap = o.cap ∧ (stepD o W u).1.kind = o.kind := by
  unfold stepD
  split
  · exact ⟨rfl, rfl, rfl⟩
  · split <;> first | exact ⟨rfl, rfl, rfl⟩ | (split <;> first | exact ⟨rfl, rfl, rfl⟩ | (split <;> exact ⟨rfl, rfl, rfl⟩))
section
variable {cap : Nat} {r : RRack} {M M' : List Nat} {ws : Nat → Option RWork} {A : AAs} {Q Q' : Nat → Nat → List Nat} {N : Nat} {c c' : Nat → Nat → Bool}
theorem OW.thf_upd (h : OW cap r M ws A Q N c) {j k l : Nat} (j1 : 1 ≤ j) (j4 : j < 4) {w' : RWork} {o' : DOp} (hq : QS cap M' (updAA A k l j o') Q' N c') (hlen : ∀ k l, (Q' k l).length ≤ (Q k l).length) (hw' : w'.done = false → ThfR cap (updAA A k l j o') j w') :
    OW cap r M' (updW ws j w') (updAA A k l j o') Q' N c' := by
  refine ⟨h.base, h.cp, h.ok, hq, fun k' l' hk hl => ?_, fun w hw hd => ?_, fun i i1 i4 w hw hd => ?_⟩
  · rw [updAA_slot _ _ _ _ _ _ _ _ (show 0 ≠ j by omega), updW_other _ _ (show 0 ≠ j by omega)]
    exact h.idle k' l' hk hl
  · rw [updW_other _ _ (show 0 ≠ j by omega)] at hw
    exact (h.own w hw hd).slot (by omega) (by omega) hlen
  · by_cases e : i = j
    · subst e
      rw [updW_same] at hw; cases hw
      exact hw' hd
    · rw [updW_other _ _ e] at hw
      exact (h.thf i i1 i4 w hw hd).slot e
theorem OW.thf_same (h : OW cap r M ws A Q N c) {j : Nat} (j1 : 1 ≤ j) {w' : RWork} (hw' : w'.done = false → ThfR cap A j w') : OW cap r M (updW ws j w') A Q N c := by
  refine ⟨h.base, h.cp, h.ok, h.q, fun k' l' hk hl => ?_, fun w hw hd => ?_, fun i i1 i4 w hw hd => ?_⟩
  · rw [updW_other _ _ (show 0 ≠ j by omega)]
    exact h.idle k' l' hk hl
  · rw [updW_other _ _ (show 0 ≠ j by omega)] at hw
    exact h.own w hw hd
  · by_cases e : i = j
    · subst e
      rw [updW_same] at hw; cases hw
      exact hw' hd
    · rw [updW_other _ _ e] at hw
      exact h.thf i i1 i4 w hw hd
theorem resR_not {w : RWork} (h : w.done = false) : resR w = (0, 8, 14) := by unfold resR; rw [if_pos h]
theorem resR_err {w : RWork} (h : w.done = true) (he : w.err ≠ 0) : resR w = (0, 8, w.err) := by unfold resR; rw [if_neg (by rw [h]; simp), if_pos he]
theorem resR_ok {w : RWork} (h : w.done = true) (he : w.err = 0) : resR w = (w.x, (w.level : Int), 0) := by unfold resR; rw [if_neg (by rw [h]; simp), if_neg (by rw [he]; simp)]
theorem resD_ok {o : DOp} (h : o.done = true) (he : o.err = 0) : resD o = (o.x, 0) := by unfold resD; rw [if_neg (by rw [h]; simp), if_neg (by rw [he]; simp)]
theorem resD_bad {o : DOp} (h : o.done = true) (he : o.err ≠ 0) : resD o = (0, o.err) := by unfold resD; rw [if_neg (by rw [h]; simp), if_pos he]
/-- What a thief's step leaves. -/
theorem OW.thief (h : OW cap r M ws A Q N c) (hN : N < 1000000) {j : Nat} (j1 : 1 ≤ j) (j4 : j < 4) {w : RWork} (hw : ws j = some w) (hd : w.done = false) (good : Nat → Bool) (hg : ∀ x, good x = true) (u : Nat) :
    (stepR good r w M u).1 = r ∧ ∃ A' Q' c', OW cap r (stepR good r w M u).2.2.1 (updW ws j (stepR good r w M u).2.1) A' Q' N c' ∧
      (((resR (stepR good r w M u).2.1).2.2 ≠ 0 ∧ (allQ Q').Perm (allQ Q)) ∨ ((resR (stepR good r w M u).2.1).2.2 = 0 ∧ (allQ Q).Perm ((resR (stepR good r w M u).2.1).1 :: allQ Q'))) := by
  have T := h.thf j j1 j4 w hw hd
  have e0 : stepR good r w M u = phaseR good r { w with steps := w.steps + 1 } M u := by unfold stepR; rw [if_neg (by rw [hd]; simp)]
  rw [e0]
  clear e0
  rcases T.nx with hn | hn | hn
  · have hp : phaseR good r { w with steps := w.steps + 1 } M u = (if getA M r.base % 256 = 0 then (r, { w with steps := w.steps + 1, done := true, err := 7 }, M, tick M r.base u)
      else (r, { w with steps := w.steps + 1, level := leastTo (getA M r.base % 256) 8 0, op := some (newD (r.at w.kind (leastTo (getA M r.base % 256) 8 0)) r.cap 2 0), next := .robbing }, M, tick M r.base u)) := by
      unfold phaseR
      simp only [hn]
      rfl
    rw [hp]
    by_cases hs : getA M r.base % 256 = 0
    · rw [if_pos hs]
      exact ⟨rfl, A, Q, c, h.thf_same j1 (fun h => by simp at h), .inl ⟨by rw [resR_err rfl (by simp)]; simp, List.Perm.refl _⟩⟩
    · rw [if_neg hs]
      have hl := least256_lt ⟨getA M r.base % 256, by omega⟩ hs
      simp only at hl
      generalize leastTo (getA M r.base % 256) 8 0 = l at hl ⊢
      have hcp := h.cp
      subst hcp
      have hb := bas_at h.base 0 l
      refine ⟨rfl, updAA A 0 l j (newD (r.at w.kind l) r.cap 2 0), Q, c, h.thf_upd j1 j4 (h.q.newT j1 _) (fun _ _ => Nat.le_refl _) (fun _ => ?_), .inl ⟨by rw [resR_not (by exact hd)]; simp, List.Perm.refl _⟩⟩
      have hk := T.kind
      have ho : OpOn r.cap (updAA A 0 l j (newD (r.at w.kind l) r.cap 2 0)) { w with steps := w.steps + 1, level := l, op := some (newD (r.at w.kind l) r.cap 2 0), next := .robbing } 2 j (newD (r.at w.kind l) r.cap 2 0) := by
        refine ⟨rfl, rfl, rfl, ?_, ?_, rfl, ?_, hl⟩
        · rw [hk, hb]
          have := bas_end (cap := r.cap) (show 0 < 2 by omega) hl
          have := h.q.pw.le.2
          exact OkOp.new (by omega) (by omega) h.q.pw (by omega) (by omega)
        · show r.at w.kind l = ((bas r.cap w.kind l : Nat) : Int)
          rw [hk, hb]
        · show updAA A 0 l j _ w.kind l j = _
          rw [hk]; exact updAA_here _ _ _ _ _
      exact ⟨hk, hl, T.x, T.fr, T.sw, T.err, .inr (.inl rfl), fun _ => ⟨_, ho⟩, fun h => by simp at h⟩
  · obtain ⟨o, h1, h2, h3, h4, h5, h6, h7, h8⟩ := T.ro (.inl hn)
    have hk := T.kind
    rw [hk] at h5 h7
    obtain ⟨o', ho'⟩ : ∃ o', o' = (stepD o M u).1 := ⟨_, rfl⟩
    obtain ⟨M', hM'⟩ : ∃ M', M' = (stepD o M u).2.1 := ⟨_, rfl⟩
    obtain ⟨u', hu'⟩ : ∃ u', u' = (stepD o M u).2.2 := ⟨_, rfl⟩
    obtain ⟨s1, s2, s3⟩ := stepD_same o M u
    have hok := okStep (W := M) (u := u) h4 h.q.small
    have hp : phaseR good r { w with steps := w.steps + 1 } M u = (if o'.done = true then (r, { w with steps := w.steps + 1, op := some o', x := (resD o').1, done := true, err := (resD o').2 }, M', u')
      else if 3 ≤ o'.steps then (r, { w with steps := w.steps + 1, op := some o', next := .minding }, M', u')
      else (r, { w with steps := w.steps + 1, op := some o' }, M', u')) := by
      unfold phaseR
      simp only [hn, h1, Option.getD_some, ho', hM', hu']
    have hqs := h.q.steal hN (show 0 < 2 by omega) h8 j1 h7 h5 h4 h3 u
    rw [hp]
    rw [← ho', ← hM'] at hqs
    rw [← ho'] at s1 s2 s3 hok
    have hold : ∀ d w2, o'.done = false → w2 = { w with steps := w.steps + 1, op := some o', next := d } → OpOn cap (updAA A 0 w.level j o') w2 2 j o' := by
      intro d w2 hdn hw2
      subst hw2
      exact ⟨rfl, by rw [s3]; exact h2, hdn, hok, by rw [s1, hk]; exact h5, by rw [s2]; exact h6, by show updAA A 0 w.level j o' w.kind w.level j = _; rw [hk]; exact updAA_here _ _ _ _ _, h8⟩
    rcases hqs with ⟨q1, q2⟩ | ⟨q1, q2, L', q3, q4⟩ | ⟨q1, q2, q3⟩ | ⟨q1, q2, q3⟩
    · rw [updQ_self, updC_self] at q2
      rw [if_neg (by rw [q1]; simp)]
      by_cases h3s : 3 ≤ o'.steps
      · rw [if_pos h3s]
        exact ⟨rfl, _, Q, c, h.thf_upd j1 j4 q2 (fun _ _ => Nat.le_refl _) (fun _ => ⟨hk, h8, T.x, T.fr, T.sw, T.err, .inr (.inr rfl), fun _ => ⟨o', hold .minding _ q1 rfl⟩, fun _ => ⟨o', rfl, h3s⟩⟩), .inl ⟨by rw [resR_not (by exact hd)]; simp, List.Perm.refl _⟩⟩
      · rw [if_neg h3s]
        exact ⟨rfl, _, Q, c, h.thf_upd j1 j4 q2 (fun _ _ => Nat.le_refl _) (fun _ => ⟨hk, h8, T.x, T.fr, T.sw, T.err, .inr (.inl hn), fun _ => ⟨o', hold w.next _ q1 rfl⟩, fun h => by rw [hn] at h; cases h⟩), .inl ⟨by rw [resR_not (by exact hd)]; simp, List.Perm.refl _⟩⟩
    · rw [updC_self] at q4
      rw [if_pos q1, resD_ok q1 q2]
      refine ⟨rfl, _, _, c, h.thf_upd j1 j4 q4 (fun k l => ?_) (fun h => by simp at h), .inr ⟨by rw [resR_ok rfl rfl], ?_⟩⟩
      · by_cases e : k = 0 ∧ l = w.level
        · obtain ⟨rfl, rfl⟩ := e
          rw [updQ_same, q3]; simp
        · rw [updQ_other _ _ e]; exact Nat.le_refl _
      · rw [resR_ok rfl rfl]
        exact allQ_pop Q (by omega) h8 (by rw [q3])
    · rw [updQ_self, updC_self] at q3
      rw [if_pos q1, resD_bad q1 (by rw [q2]; simp), q2]
      exact ⟨rfl, _, Q, c, h.thf_upd j1 j4 q3 (fun _ _ => Nat.le_refl _) (fun h => by simp at h), .inl ⟨by rw [resR_err rfl (by simp)]; simp, List.Perm.refl _⟩⟩
    · rw [updQ_self, updC_self] at q3
      rw [if_pos q1, resD_bad q1 (by rw [q2]; simp), q2]
      exact ⟨rfl, _, Q, c, h.thf_upd j1 j4 q3 (fun _ _ => Nat.le_refl _) (fun h => by simp at h), .inl ⟨by rw [resR_err rfl (by simp)]; simp, List.Perm.refl _⟩⟩
  · obtain ⟨o, ho⟩ := T.ro (.inr hn)
    have hp : phaseR good r { w with steps := w.steps + 1 } M u = (r, { w with steps := w.steps + 1, next := .robbing }, M, u) := by
      unfold phaseR
      simp only [hn, ho.1, Option.getD_some]
      rw [if_pos (hg _)]
    rw [hp]
    exact ⟨rfl, A, Q, c, h.thf_same j1 (fun _ => ⟨T.kind, T.level, T.x, T.fr, T.sw, T.err, .inr (.inl rfl), fun _ => ⟨o, ho⟩, fun h => by simp at h⟩), .inl ⟨by rw [resR_not (by exact hd)]; simp, List.Perm.refl _⟩⟩
end
end Bosun

/- rack: an owner's step, plainly. No program in sight. -/
namespace Bosun
open Go
theorem steal_steps1 {o : DOp} (W : List Nat) (u : Nat) (hk : o.kind = 2) (hd : o.done = false) (h : (stepD o W u).1.steps = 1) : (stepD o W u).1.done = false := by
  obtain ⟨base, cp, kind, steps, b, t, x, won, done, err⟩ := o
  simp only at hk hd
  subst hk hd
  have ff : ¬ (false = true) := by decide
  match steps, h with
  | 0, _ => rfl
  | 1, h =>
    by_cases hq : ahd (getA W (base + 1)) t ≤ 0
    · simp only [stepD, if_neg ff, if_pos hq] at h; exact absurd h (by decide)
    · simp only [stepD, if_neg ff, if_neg hq]
  | 2, _ => rfl
  | n + 3, h => simp only [stepD, if_neg ff] at h; exact absurd h (by decide)
def PhP (w : RWork) : Prop := w.next = .pushing ∨ w.next = .again ∨ w.next = .popping
section
variable {cap : Nat} {r r' : RRack} {M M' : List Nat} {ws : Nat → Option RWork} {A : AAs} {Q Q' : Nat → Nat → List Nat} {N N' : Nat} {c c' : Nat → Nat → Bool}
theorem QS.room (h : QS cap M A Q N c) {k l : Nat} (hk : k < 2) (hl : l < 8) : (Q k l).length ≤ cap := by
  obtain ⟨t, b, l', t0, I, hL⟩ := h.st k l hk hl
  rw [hL, listOf_len]; exact I.room
/-- The owner's work, and what its step left of the deques. -/
theorem OW.own_upd (h : OW cap r M ws A Q N c) {k l j : Nat} (hj : j = 0 ∨ j = 4) {w' : RWork} {o' : DOp} (hb : r'.base = 0) (hc : r'.cap = cap) (ho : r'.s0 < 256 ∧ r'.s1 < 256 ∧ r'.turn < 2) (hq : QS cap M' (updAA A k l j o') Q' N' c')
    (hI : ∀ k' l', k' < 2 → l' < 8 → ¬ (k' = k ∧ l' = l) → Idle0 (A k' l' 0)) (hH : Idle0 (updAA A k l j o' k l 0) ∨ (w'.done = false ∧ PhP w' ∧ w'.kind = k ∧ w'.level = l)) (hw' : w'.done = false → OwnR cap (updAA A k l j o') Q' w') :
    OW cap r' M' (updW ws 0 w') (updAA A k l j o') Q' N' c' := by
  refine ⟨hb, hc, ho, hq, fun k' l' hk hl => ?_, fun w hw hd => ?_, fun i i1 i4 w hw hd => ?_⟩
  · by_cases e : k' = k ∧ l' = l
    · obtain ⟨rfl, rfl⟩ := e
      rcases hH with q | ⟨q1, q2, q3, q4⟩
      · exact .inl q
      · exact .inr ⟨w', updW_same _ _ _, q1, q2, q3, q4⟩
    · rw [updAA_other _ _ _ e]
      exact .inl (hI k' l' hk hl e)
  · rw [updW_same] at hw; cases hw
    exact hw' hd
  · rw [updW_other _ _ (by omega)] at hw
    exact (h.thf i i1 i4 w hw hd).slot (by omega)
theorem OW.own_same (h : OW cap r M ws A Q N c) {w' : RWork} (hb : r'.base = 0) (hc : r'.cap = cap) (ho : r'.s0 < 256 ∧ r'.s1 < 256 ∧ r'.turn < 2) (hq : QS cap M' A Q N c)
    (hI : ∀ k' l', k' < 2 → l' < 8 → Idle0 (A k' l' 0)) (hw' : w'.done = false → OwnR cap A Q w') : OW cap r' M' (updW ws 0 w') A Q N c := by
  refine ⟨hb, hc, ho, hq, fun k' l' hk hl => .inl (hI k' l' hk hl), fun w hw hd => ?_, fun i i1 i4 w hw hd => ?_⟩
  · rw [updW_same] at hw; cases hw
    exact hw' hd
  · rw [updW_other _ _ (by omega)] at hw
    exact h.thf i i1 i4 w hw hd
/-- Where no push or pop is under way, all deques are idle. -/
theorem OW.idle_all (h : OW cap r M ws A Q N c) {w : RWork} (hw : ws 0 = some w) (hn : w.done = false → ¬ PhP w) : ∀ k l, k < 2 → l < 8 → Idle0 (A k l 0) := by
  intro k l hk hl
  rcases h.idle k l hk hl with q | ⟨w', q1, q2, q3, _, _⟩
  · exact q
  · rw [hw] at q1; cases q1; exact absurd q3 (hn q2)
theorem OW.idle_other (h : OW cap r M ws A Q N c) {w : RWork} (hw : ws 0 = some w) : ∀ k l, k < 2 → l < 8 → ¬ (k = w.kind ∧ l = w.level) → Idle0 (A k l 0) := by
  intro k l hk hl hne
  rcases h.idle k l hk hl with q | ⟨w', q1, q2, q3, q4, q5⟩
  · exact q
  · rw [hw] at q1; cases q1; exact absurd ⟨q4.symm, q5.symm⟩ hne
/-- What an owner's step leaves. -/
def OwnOut (cap : Nat) (Q : Nat → Nat → List Nat) (N : Nat) (ws : Nat → Option RWork) (w : RWork) (s : RRack × RWork × List Nat × Nat) : Prop :=
  ∃ A' Q' N' c', N' ≤ N + 1 ∧ OW cap s.1 s.2.2.1 (updW ws 0 s.2.1) A' Q' N' c' ∧ (s.2.1.done = false → (isPut s.2.1 ↔ isPut w)) ∧ (isPut w → s.2.1.x = w.x) ∧
    ((s.2.1.done = false ∧ (allQ Q ++ handW w).Perm (allQ Q' ++ handW s.2.1)) ∨
     (s.2.1.done = true ∧ isPut w ∧ s.2.1.err = 0 ∧ (allQ Q ++ handW w).Perm (allQ Q')) ∨
     (s.2.1.done = true ∧ isPut w ∧ s.2.1.err = 6 ∧ (allQ Q ++ handW w).Perm (w.x :: allQ Q')) ∨
     (s.2.1.done = true ∧ ¬ isPut w ∧ s.2.1.err = 0 ∧ (allQ Q ++ handW w).Perm (s.2.1.x :: allQ Q')) ∨
     (s.2.1.done = true ∧ ¬ isPut w ∧ s.2.1.err ≠ 0 ∧ s.2.1.err ≠ 14 ∧ (allQ Q ++ handW w).Perm (allQ Q')))
theorem hand1 {w : RWork} (hd : w.done = false) (ht : w.there = false) (hh : w.holds = false) : handW w = [w.x] := by unfold handW; rw [if_neg (by rw [hd, ht]; simp), if_neg (by rw [hh]; simp)]
theorem hand2 {w : RWork} (hd : w.done = false) (ht : w.there = false) (hh : w.holds = true) : handW w = [w.swept, w.x] := by unfold handW; rw [if_neg (by rw [hd, ht]; simp), if_pos hh]
theorem hand0 {w : RWork} (ht : w.there = true) : handW w = [] := by unfold handW; rw [if_pos (.inr ht)]
theorem notPut {w : RWork} (h : w.next = .choosing ∨ w.next = .taking ∨ w.next = .emptying ∨ w.next = .worst ∨ w.next = .popping) : ¬ isPut w := by
  unfold isPut
  rcases h with e | e | e | e | e <;> rw [e] <;> simp
section
variable {w : RWork}
/-- A sign is stored. -/
theorem OW.signs (h : OW cap r M ws A Q N c) (hw : ws 0 = some w) (hd : w.done = false) (hn : ¬ PhP w) {w' : RWork} (hw' : w'.done = true) : OW cap r (setA M r.base r.s0) (updW ws 0 w') A Q N c := by
  refine h.own_same h.base h.cp h.ok ?_ (h.idle_all hw (fun _ => hn)) (fun hd' => by rw [hw'] at hd'; cases hd')
  rw [h.base]
  exact h.q.sign (by have := h.ok.1; omega)
/-- An op of the owner's turns by one step. -/
theorem opOn_step {kd j : Nat} {o : DOp} (ho : OpOn cap A w kd j o) (hM : Small M) (u : Nat) {w' : RWork} (hop : w'.op = some (stepD o M u).1) (hk : w'.kind = w.kind) (hl : w'.level = w.level) (hd : (stepD o M u).1.done = false) : OpOn cap (updAA A w.kind w.level j (stepD o M u).1) w' kd j (stepD o M u).1 := by
  obtain ⟨h1, h2, h3, h4, h5, h6, h7, h8⟩ := ho
  obtain ⟨s1, s2, s3⟩ := stepD_same o M u
  exact ⟨hop, by rw [s3]; exact h2, hd, okStep h4 hM, by rw [s1, hk, hl]; exact h5, by rw [s2]; exact h6, by rw [hk, hl]; exact updAA_here _ _ _ _ _, by rw [hl]; exact h8⟩
/-- A new op. -/
theorem opOn_new {kd j x : Nat} {w' : RWork} (hpw : Pow2 cap) (hkd : kd ≤ 2) (hx : x < 18446744073709551616) (hk : w'.kind < 2) (hl : w'.level < 8) (A0 : AAs) {k l : Nat} (ek : w'.kind = k) (el : w'.level = l) (hop : w'.op = some (newD ((bas cap k l : Nat) : Int) cap kd x)) : OpOn cap (updAA A0 k l j (newD ((bas cap k l : Nat) : Int) cap kd x)) w' kd j (newD ((bas cap k l : Nat) : Int) cap kd x) := by
  subst ek el
  have := bas_end (cap := cap) hk hl
  have := hpw.le.2
  exact ⟨hop, rfl, rfl, OkOp.new (by omega) (by omega) hpw hkd hx, rfl, rfl, updAA_here _ _ _ _ _, hl⟩
theorem perm_nil {T X Y : List Nat} (h : T.Perm X) (e : Y = []) : T.Perm (X ++ Y) := by rw [e, List.append_nil]; exact h
theorem okP (ok : r.s0 < 256 ∧ r.s1 < 256 ∧ r.turn < 2) {k l : Nat} (hl : l < 8) (b : Bool) : (r.put k (put (r.set k) (l : Int) b)).s0 < 256 ∧ (r.put k (put (r.set k) (l : Int) b)).s1 < 256 ∧ (r.put k (put (r.set k) (l : Int) b)).turn < 2 := by
  have h : put (r.set k) (l : Int) b < 256 := by
    have h0 : r.set k < 256 := by unfold RRack.set; split; exact ok.1; exact ok.2.1
    have : put (r.set k) (l : Int) b < 2 ^ 8 := by
      apply Nat.lt_pow_two_of_testBit
      intro j hj
      rw [put_testBit, if_neg (by omega), Nat.testBit_lt_two_pow (Nat.lt_of_lt_of_le h0 (show 256 ≤ 2 ^ j from by have := Nat.pow_le_pow_right (show 0 < 2 by decide) hj; simpa using this))]
      simp
    simpa using this
  unfold RRack.put
  split
  · exact ⟨h, ok.2.1, ok.2.2⟩
  · exact ⟨ok.1, h, ok.2.2⟩
/-- pushing -/
theorem OW.o_pushing (h : OW cap r M ws A Q N c) (hN : N < 1000000) (hw : ws 0 = some w) (hd : w.done = false) (hn : w.next = .pushing) (good : Nat → Bool) (u : Nat) : OwnOut cap Q N ws w (stepR good r w M u) := by
  have O := h.own w hw hd
  obtain ⟨p1, p2, o, ho, hx⟩ := O.pu hn
  obtain ⟨h1, h2, h3, h4, h5, h6, h7, h8⟩ := id ho
  have hcp := h.cp
  subst hcp
  obtain ⟨e1, e2, e3⟩ := put_rest r w.kind (put (r.set w.kind) w.level true)
  have hput : isPut w := .inl hn
  have hbas := bas_at h.base w.kind w.level
  have hp : stepR good r w M u = (if (stepD o M u).1.done = false then (r, { w with steps := w.steps + 1, op := some (stepD o M u).1 }, (stepD o M u).2.1, (stepD o M u).2.2)
    else if (stepD o M u).1.err = 6 then
      (if w.full = true then (r, { w with steps := w.steps + 1, op := some (stepD o M u).1, done := true, err := 6 }, (stepD o M u).2.1, (stepD o M u).2.2)
       else (r, { w with steps := w.steps + 1, full := true, from_ := (stepD o M u).1.b, op := some (newD (r.at w.kind w.level) r.cap 2 0), next := .sweeping }, (stepD o M u).2.1, (stepD o M u).2.2))
    else
      (if put (r.set w.kind) w.level true ≠ r.set w.kind ∧ w.kind = 0 then (r.put w.kind (put (r.set w.kind) w.level true), { w with steps := w.steps + 1, op := some (stepD o M u).1, there := true, next := .signing }, (stepD o M u).2.1, (stepD o M u).2.2)
       else (r.put w.kind (put (r.set w.kind) w.level true), { w with steps := w.steps + 1, op := some (stepD o M u).1, there := true, done := true, err := 0 }, (stepD o M u).2.1, (stepD o M u).2.2))) := by
    unfold stepR
    rw [if_neg (by rw [hd]; simp)]
    unfold phaseR
    simp only [hn, h1, Option.getD_some]
    rfl
  rw [hp]
  clear hp
  have hok := okStep (W := M) (u := u) h4 h.q.small
  obtain ⟨hcf, hqs⟩ := h.q.push hN O.kind h8 h7 h5 h4 h2 h3 u
  have hsw := hand1 hd p1 p2
  rcases hqs with ⟨q1, q2, q3⟩ | ⟨q1, q2, q3, q4⟩ | ⟨q1, q2, q3, q4⟩
  · rw [updQ_self, ← hcf, updC_self] at q3
    rw [if_pos q1]
    refine ⟨_, Q, N, c, Nat.le_succ _, h.own_upd (.inl rfl) h.base rfl h.ok q3 (h.idle_other hw) (.inr ⟨hd, .inl hn, rfl, rfl⟩) (fun _ => ?_), fun _ => Iff.rfl, fun _ => rfl, .inl ⟨hd, by rw [show handW { w with steps := w.steps + 1, op := some (stepD o M u).1 } = handW w from rfl]⟩⟩
    exact { kind := O.kind, level := O.level, x := O.x, fr := O.fr, sw := O.sw, nx := O.nx, err := O.err, pu := fun _ => ⟨p1, p2, _, opOn_step ho h.q.small u rfl rfl rfl q1, by rw [q2]; exact hx⟩,
            ag := fun e => (by rw [hn] at e; cases e), as_ := fun e => (by rw [hn] at e; cases e), sw_ := fun e => (by rw [hn] at e; cases e), si := fun e => (by rw [hn] at e; cases e), ta := fun e => (by rw [hn] at e; cases e), po := fun e => (by rw [hn] at e; cases e), ch := fun e => (by rw [hn] at e; cases e), em := fun e => (by rw [hn] at e; cases e), wo := fun e => (by rw [hn] at e; cases e) }
  · rw [updQ_self, ← hcf, updC_self] at q4
    rw [if_neg (by rw [q1]; simp), if_pos q2]
    by_cases hf : w.full = true
    · rw [if_pos hf]
      refine ⟨_, Q, N, c, Nat.le_succ _, h.own_upd (.inl rfl) h.base rfl h.ok q4 (h.idle_other hw) (.inl (.inr ⟨_, updAA_here _ _ _ _ _, q1⟩)) (fun e => by cases e), fun e => (by cases e), fun _ => rfl, .inr (.inr (.inl ⟨rfl, hput, rfl, ?_⟩))⟩
      rw [hsw]
      simp
    · rw [if_neg hf]
      have q5 := q4.newT (k := w.kind) (l := w.level) (j := 4) (by omega) (r.at w.kind w.level)
      have step1 : OW r.cap r (stepD o M u).2.1 (updW ws 0 { w with steps := w.steps + 1, op := some (stepD o M u).1, done := true, err := 6 }) _ Q N c :=
        h.own_upd (.inl rfl) h.base rfl h.ok q4 (h.idle_other hw) (.inl (.inr ⟨_, updAA_here _ _ _ _ _, q1⟩)) (fun e => by cases e)
      have hid := step1.idle_all (updW_same _ _ _) (fun e => by cases e)
      have step2 := step1.own_upd (w' := { w with steps := w.steps + 1, full := true, from_ := (stepD o M u).1.b, op := some (newD (r.at w.kind w.level) r.cap 2 0), next := .sweeping }) (.inr rfl) h.base rfl h.ok q5 (fun k' l' hk hl _ => hid k' l' hk hl) (.inl (by rw [updAA_slot _ _ _ _ _ _ _ _ (by omega)]; exact hid _ _ O.kind O.level)) (fun _ => by
        have hnew := opOn_new (w' := { w with steps := w.steps + 1, full := true, from_ := (stepD o M u).1.b, op := some (newD (r.at w.kind w.level) r.cap 2 0), next := .sweeping }) (j := 4) (kd := 2) (x := 0) h.q.pw (by omega) (by omega) O.kind O.level (updAA A w.kind w.level 0 (stepD o M u).1) rfl rfl (by rw [hbas])
        rw [← hbas] at hnew
        exact { kind := O.kind, level := O.level, x := O.x, fr := hok.b, sw := O.sw, nx := .inl (.inr (.inr (.inl rfl))), err := O.err, pu := fun e => (by cases e), ag := fun e => (by cases e), as_ := fun e => (by cases e), sw_ := fun _ => ⟨p1, p2, _, hnew⟩, si := fun e => (by cases e), ta := fun e => (by cases e), po := fun e => (by cases e), ch := fun e => (by cases e), em := fun e => (by cases e), wo := fun e => (by cases e) })
      have hupd : updW (updW ws 0 { w with steps := w.steps + 1, op := some (stepD o M u).1, done := true, err := 6 }) 0 { w with steps := w.steps + 1, full := true, from_ := (stepD o M u).1.b, op := some (newD (r.at w.kind w.level) r.cap 2 0), next := .sweeping } = updW ws 0 { w with steps := w.steps + 1, full := true, from_ := (stepD o M u).1.b, op := some (newD (r.at w.kind w.level) r.cap 2 0), next := .sweeping } := by
        funext i; unfold updW; split <;> rfl
      rw [hupd] at step2
      refine ⟨_, Q, N, c, Nat.le_succ _, step2, fun _ => ⟨fun _ => hput, fun _ => .inr (.inr (.inl rfl))⟩, fun _ => rfl, .inl ⟨hd, ?_⟩⟩
      rw [show handW { w with steps := w.steps + 1, full := true, from_ := (stepD o M u).1.b, op := some (newD (r.at w.kind w.level) r.cap 2 0), next := .sweeping } = handW w from rfl]
  · rw [if_neg (by rw [q1]; simp), if_neg (by rw [q2]; decide)]
    rw [← hcf, updC_self] at q4
    have hperm : (allQ Q ++ handW w).Perm (allQ (updQ Q w.kind w.level (Q w.kind w.level ++ [o.x]))) := by
      rw [hsw, hx]
      exact (List.perm_append_comm (l₁ := allQ Q) (l₂ := [w.x])).trans (allQ_push Q O.kind h8 w.x).symm
    by_cases hc : put (r.set w.kind) w.level true ≠ r.set w.kind ∧ w.kind = 0
    · rw [if_pos hc]
      refine ⟨_, _, N + 1, c, Nat.le_refl _, h.own_upd (.inl rfl) (by rw [e1]; exact h.base) e2 (okP h.ok h8 true) q4 (h.idle_other hw) (.inl (.inr ⟨_, updAA_here _ _ _ _ _, q1⟩)) (fun _ => ?_), fun _ => ⟨fun _ => hput, fun _ => .inr (.inl rfl)⟩, fun _ => rfl, .inl ⟨hd, perm_nil hperm (hand0 rfl)⟩⟩
      exact { kind := O.kind, level := O.level, x := O.x, fr := O.fr, sw := O.sw, nx := .inl (.inr (.inl rfl)), err := O.err, pu := fun e => (by cases e), ag := fun e => (by cases e), as_ := fun e => (by cases e), sw_ := fun e => (by cases e), si := fun _ => rfl, ta := fun e => (by cases e), po := fun e => (by cases e), ch := fun e => (by cases e), em := fun e => (by cases e), wo := fun e => (by cases e) }
    · rw [if_neg hc]
      exact ⟨_, _, N + 1, c, Nat.le_refl _, h.own_upd (.inl rfl) (by rw [e1]; exact h.base) e2 (okP h.ok h8 true) q4 (h.idle_other hw) (.inl (.inr ⟨_, updAA_here _ _ _ _ _, q1⟩)) (fun e => by cases e), fun e => (by cases e), fun _ => rfl, .inr (.inl ⟨rfl, hput, rfl, hperm⟩)⟩
end
end
end Bosun

/- rack: an owner's step, phase by phase, plainly. Printed by gen_own.py. No program in sight. -/
namespace Bosun
open Go
section
variable {cap : Nat} {r r' : RRack} {M M' : List Nat} {ws : Nat → Option RWork} {A : AAs} {Q Q' : Nat → Nat → List Nat} {N N' : Nat} {c c' : Nat → Nat → Bool} {w : RWork}
theorem updW_twice (ws : Nat → Option RWork) (j : Nat) (w w' : RWork) : updW (updW ws j w) j w' = updW ws j w' := by funext i; unfold updW; split <;> rfl
theorem noP {w : RWork} (h : ¬ (w.next = .pushing ∨ w.next = .again ∨ w.next = .popping)) : w.done = false → ¬ PhP w := fun _ => h
theorem OW.o_signing (h : OW cap r M ws A Q N c) (hw : ws 0 = some w) (hd : w.done = false) (hn : w.next = .signing) (good : Nat → Bool) (u : Nat) : OwnOut cap Q N ws w (stepR good r w M u) := by
  have O := h.own w hw hd
  have hp : stepR good r w M u = (r, { w with steps := w.steps + 1, done := true, err := 0 }, setA M r.base r.s0, tick M r.base u) := by
    unfold stepR
    rw [if_neg (by rw [hd]; simp)]
    unfold phaseR
    simp only [hn]
  rw [hp]
  refine ⟨A, Q, N, c, Nat.le_succ _, h.signs hw hd (by unfold PhP; rw [hn]; simp) rfl, fun e => (by cases e), fun _ => rfl, .inr (.inl ⟨rfl, .inr (.inl hn), rfl, ?_⟩)⟩
  rw [hand0 (O.si hn), List.append_nil]
theorem OW.o_emptying (h : OW cap r M ws A Q N c) (hw : ws 0 = some w) (hd : w.done = false) (hn : w.next = .emptying) (good : Nat → Bool) (u : Nat) : OwnOut cap Q N ws w (stepR good r w M u) := by
  have O := h.own w hw hd
  have hp : stepR good r w M u = (r, { w with steps := w.steps + 1, done := true, err := 8 }, setA M r.base r.s0, tick M r.base u) := by
    unfold stepR
    rw [if_neg (by rw [hd]; simp)]
    unfold phaseR
    simp only [hn]
  rw [hp]
  have hnp : ¬ isPut w := notPut (.inr (.inr (.inl hn)))
  refine ⟨A, Q, N, c, Nat.le_succ _, h.signs hw hd (by unfold PhP; rw [hn]; simp) rfl, fun e => (by cases e), fun e => absurd e hnp, .inr (.inr (.inr (.inr ⟨rfl, hnp, (by simp), (by simp), ?_⟩)))⟩
  rw [hand0 (O.em hn), List.append_nil]
theorem OW.o_asking (h : OW cap r M ws A Q N c) (hw : ws 0 = some w) (hd : w.done = false) (hn : w.next = .asking) (good : Nat → Bool) (hg : ∀ x, good x = true) (u : Nat) : OwnOut cap Q N ws w (stepR good r w M u) := by
  have O := h.own w hw hd
  obtain ⟨p1, p2, p3⟩ := O.as_ hn
  have hcp := h.cp
  subst hcp
  have hbas := bas_at h.base w.kind w.level
  have hp : stepR good r w M u = (r, { w with steps := w.steps + 1, op := some (newD (r.at w.kind w.level) r.cap 0 w.swept), next := .again }, M, u) := by
    unfold stepR
    rw [if_neg (by rw [hd]; simp)]
    unfold phaseR
    simp only [hn]
    rw [if_pos (hg _)]
    rfl
  rw [hp]
  have hid := h.idle_all hw (noP (by rw [hn]; simp))
  have q5 := h.q.new0 (x := w.swept) O.kind O.level (show 0 ≤ 1 by omega) (hid _ _ O.kind O.level) (r.at w.kind w.level)
  have hput : isPut w := .inr (.inr (.inr (.inl hn)))
  refine ⟨_, Q, N, c, Nat.le_succ _, h.own_upd (.inl rfl) h.base rfl h.ok q5 (fun k' l' hk hl _ => hid k' l' hk hl) (.inr ⟨hd, .inr (.inl rfl), rfl, rfl⟩) (fun _ => ?_), fun _ => ⟨fun _ => hput, fun _ => .inr (.inr (.inr (.inr rfl)))⟩, fun _ => rfl, .inl ⟨hd, List.Perm.refl _⟩⟩
  have hnew := opOn_new (w' := { w with steps := w.steps + 1, op := some (newD (r.at w.kind w.level) r.cap 0 w.swept), next := .again }) (j := 0) (kd := 0) (x := w.swept) h.q.pw (by omega) O.sw O.kind O.level A rfl rfl (by rw [hbas])
  rw [← hbas] at hnew
  exact { kind := O.kind, level := O.level, x := O.x, fr := O.fr, sw := O.sw, nx := .inl (.inr (.inr (.inr (.inr rfl)))), err := O.err, pu := fun e => (by cases e), ag := fun _ => ⟨p1, p2, p3, _, hnew, rfl⟩, as_ := fun e => (by cases e), sw_ := fun e => (by cases e), si := fun e => (by cases e), ta := fun e => (by cases e), po := fun e => (by cases e), ch := fun e => (by cases e), em := fun e => (by cases e), wo := fun e => (by cases e) }
theorem OW.o_again (h : OW cap r M ws A Q N c) (hN : N < 1000000) (hw : ws 0 = some w) (hd : w.done = false) (hn : w.next = .again) (good : Nat → Bool) (u : Nat) : OwnOut cap Q N ws w (stepR good r w M u) := by
  have O := h.own w hw hd
  obtain ⟨p1, p2, p3, o, ho, hx⟩ := O.ag hn
  obtain ⟨h1, h2, h3, h4, h5, h6, h7, h8⟩ := id ho
  have hcp := h.cp
  subst hcp
  have hbas := bas_at h.base w.kind w.level
  have hput : isPut w := .inr (.inr (.inr (.inr hn)))
  have hp : stepR good r w M u = (if (stepD o M u).1.done = true then (r, { w with steps := w.steps + 1, holds := false, op := some (newD (r.at w.kind w.level) r.cap 2 0), next := .sweeping }, (stepD o M u).2.1, (stepD o M u).2.2)
    else (r, { w with steps := w.steps + 1, op := some (stepD o M u).1 }, (stepD o M u).2.1, (stepD o M u).2.2)) := by
    unfold stepR
    rw [if_neg (by rw [hd]; simp)]
    unfold phaseR
    simp only [hn, h1, Option.getD_some]
    rfl
  rw [hp]
  clear hp
  obtain ⟨hcf, hqs⟩ := h.q.push hN O.kind h8 h7 h5 h4 h2 h3 u
  rcases hqs with ⟨q1, q2, q3⟩ | ⟨q1, q2, q3, q4⟩ | ⟨q1, q2, q3, q4⟩
  · rw [updQ_self, ← hcf, updC_self] at q3
    rw [if_neg (by rw [q1]; simp)]
    refine ⟨_, Q, N, c, Nat.le_succ _, h.own_upd (.inl rfl) h.base rfl h.ok q3 (h.idle_other hw) (.inr ⟨hd, .inr (.inl hn), rfl, rfl⟩) (fun _ => ?_), fun _ => Iff.rfl, fun _ => rfl, .inl ⟨hd, List.Perm.refl _⟩⟩
    exact { kind := O.kind, level := O.level, x := O.x, fr := O.fr, sw := O.sw, nx := O.nx, err := O.err, pu := fun e => (by rw [hn] at e; cases e), ag := fun _ => ⟨p1, p2, p3, _, opOn_step ho h.q.small u rfl rfl rfl q1, (by rw [q2]; exact hx)⟩, as_ := fun e => (by rw [hn] at e; cases e), sw_ := fun e => (by rw [hn] at e; cases e), si := fun e => (by rw [hn] at e; cases e), ta := fun e => (by rw [hn] at e; cases e), po := fun e => (by rw [hn] at e; cases e), ch := fun e => (by rw [hn] at e; cases e), em := fun e => (by rw [hn] at e; cases e), wo := fun e => (by rw [hn] at e; cases e) }
  · omega
  · rw [← hcf, updC_self] at q4
    rw [if_pos q1]
    have q5 := q4.newT (k := w.kind) (l := w.level) (j := 4) (by omega) (r.at w.kind w.level)
    have step1 : OW r.cap r (stepD o M u).2.1 (updW ws 0 { w with done := true }) _ _ (N + 1) c :=
      h.own_upd (.inl rfl) h.base rfl h.ok q4 (h.idle_other hw) (.inl (.inr ⟨_, updAA_here _ _ _ _ _, q1⟩)) (fun e => (by cases e))
    have hid := step1.idle_all (updW_same _ _ _) (fun e => (by cases e))
    have step2 := step1.own_upd (w' := { w with steps := w.steps + 1, holds := false, op := some (newD (r.at w.kind w.level) r.cap 2 0), next := .sweeping }) (.inr rfl) h.base rfl h.ok q5 (fun k' l' hk hl _ => hid k' l' hk hl) (.inl (by rw [updAA_slot _ _ _ _ _ _ _ _ (by omega)]; exact hid _ _ O.kind O.level)) (fun _ => by
      have hnew := opOn_new (w' := { w with steps := w.steps + 1, holds := false, op := some (newD (r.at w.kind w.level) r.cap 2 0), next := .sweeping }) (j := 4) (kd := 2) (x := 0) h.q.pw (by omega) (by omega) O.kind O.level (updAA A w.kind w.level 0 (stepD o M u).1) rfl rfl (by rw [hbas])
      rw [← hbas] at hnew
      exact { kind := O.kind, level := O.level, x := O.x, fr := O.fr, sw := O.sw, nx := .inl (.inr (.inr (.inl rfl))), err := O.err, pu := fun e => (by cases e), ag := fun e => (by cases e), as_ := fun e => (by cases e), sw_ := fun _ => ⟨p1, rfl, _, hnew⟩, si := fun e => (by cases e), ta := fun e => (by cases e), po := fun e => (by cases e), ch := fun e => (by cases e), em := fun e => (by cases e), wo := fun e => (by cases e) })
    rw [updW_twice] at step2
    refine ⟨_, _, N + 1, c, Nat.le_refl _, step2, fun _ => ⟨fun _ => hput, fun _ => .inr (.inr (.inl rfl))⟩, fun _ => rfl, .inl ⟨hd, ?_⟩⟩
    rw [hand2 hd p1 p2, hand1 (w := { w with steps := w.steps + 1, holds := false, op := some (newD (r.at w.kind w.level) r.cap 2 0), next := .sweeping }) hd p1 rfl, hx]
    have h1 : (allQ Q ++ [w.swept, w.x]).Perm (w.swept :: allQ Q ++ [w.x]) := by simp
    exact h1.trans ((allQ_push Q O.kind h8 w.swept).symm.append_right [w.x])
theorem OW.o_sweeping (h : OW cap r M ws A Q N c) (hN : N < 1000000) (hw : ws 0 = some w) (hd : w.done = false) (hn : w.next = .sweeping) (good : Nat → Bool) (u : Nat) : OwnOut cap Q N ws w (stepR good r w M u) := by
  have O := h.own w hw hd
  obtain ⟨p1, p2, o, ho⟩ := O.sw_ hn
  obtain ⟨h1, h2, h3, h4, h5, h6, h7, h8⟩ := id ho
  have hcp := h.cp
  subst hcp
  have hbas := bas_at h.base w.kind w.level
  have hput : isPut w := .inr (.inr (.inl hn))
  have hp : stepR good r w M u = (if ((stepD o M u).1.steps = 1 ∧ ahd w.from_ (stepD o M u).1.t ≤ 0) ∨ (resD (stepD o M u).1).2 = 7 then (r, { w with steps := w.steps + 1, op := some (newD (r.at w.kind w.level) r.cap 0 w.x), next := .pushing }, (stepD o M u).2.1, (stepD o M u).2.2)
    else if (resD (stepD o M u).1).2 = 8 then (r, { w with steps := w.steps + 1, op := some (newD (r.at w.kind w.level) r.cap 2 0) }, (stepD o M u).2.1, (stepD o M u).2.2)
    else if (resD (stepD o M u).1).2 = 0 then (r, { w with steps := w.steps + 1, op := some (stepD o M u).1, swept := (resD (stepD o M u).1).1, holds := true, next := .asking }, (stepD o M u).2.1, (stepD o M u).2.2)
    else (r, { w with steps := w.steps + 1, op := some (stepD o M u).1 }, (stepD o M u).2.1, (stepD o M u).2.2)) := by
    unfold stepR
    rw [if_neg (by rw [hd]; simp)]
    unfold phaseR
    simp only [hn, h1, Option.getD_some]
    rfl
  rw [hp]
  clear hp
  have hok := okStep (W := M) (u := u) h4 h.q.small
  have hidA := h.idle_all hw (noP (by rw [hn]; simp))
  have hst1 := steal_steps1 M u h2 h3
  have hsw := hand1 hd p1 p2
  have hroom := h.q.room O.kind h8
  -- the end of the sweep: the word is pushed
  have PUSH : ∀ {Q2 : Nat → Nat → List Nat} {c2 : Nat → Nat → Bool}, QS r.cap (stepD o M u).2.1 (updAA A w.kind w.level 4 (stepD o M u).1) Q2 N c2 → allQ Q2 = allQ Q → OwnOut r.cap Q N ws w (r, { w with steps := w.steps + 1, op := some (newD (r.at w.kind w.level) r.cap 0 w.x), next := .pushing }, (stepD o M u).2.1, (stepD o M u).2.2) := by
    intro Q2 c2 hq hQ
    have step1 : OW r.cap r (stepD o M u).2.1 (updW ws 0 { w with done := true }) _ Q2 N c2 :=
      h.own_upd (.inr rfl) h.base rfl h.ok hq (fun k' l' hk hl _ => hidA k' l' hk hl) (.inl (by rw [updAA_slot _ _ _ _ _ _ _ _ (by omega)]; exact hidA _ _ O.kind O.level)) (fun e => (by cases e))
    have hid := step1.idle_all (updW_same _ _ _) (fun e => (by cases e))
    have q5 := hq.new0 (x := w.x) O.kind O.level (show 0 ≤ 1 by omega) (hid _ _ O.kind O.level) (r.at w.kind w.level)
    have step2 := step1.own_upd (w' := { w with steps := w.steps + 1, op := some (newD (r.at w.kind w.level) r.cap 0 w.x), next := .pushing }) (.inl rfl) h.base rfl h.ok q5 (fun k' l' hk hl _ => hid k' l' hk hl) (.inr ⟨hd, .inl rfl, rfl, rfl⟩) (fun _ => by
      have hnew := opOn_new (w' := { w with steps := w.steps + 1, op := some (newD (r.at w.kind w.level) r.cap 0 w.x), next := .pushing }) (j := 0) (kd := 0) (x := w.x) h.q.pw (by omega) O.x O.kind O.level (updAA A w.kind w.level 4 (stepD o M u).1) rfl rfl (by rw [hbas])
      rw [← hbas] at hnew
      exact { kind := O.kind, level := O.level, x := O.x, fr := O.fr, sw := O.sw, nx := .inl (.inl rfl), err := O.err, pu := fun _ => ⟨p1, p2, _, hnew, rfl⟩, ag := fun e => (by cases e), as_ := fun e => (by cases e), sw_ := fun e => (by cases e), si := fun e => (by cases e), ta := fun e => (by cases e), po := fun e => (by cases e), ch := fun e => (by cases e), em := fun e => (by cases e), wo := fun e => (by cases e) })
    rw [updW_twice] at step2
    exact ⟨_, Q2, N, c2, Nat.le_succ _, step2, fun _ => ⟨fun _ => hput, fun _ => .inl rfl⟩, fun _ => rfl, .inl ⟨hd, by rw [hQ]; exact List.Perm.refl _⟩⟩
  have NEWS : ∀ {Q2 : Nat → Nat → List Nat} {c2 : Nat → Nat → Bool}, QS r.cap (stepD o M u).2.1 (updAA A w.kind w.level 4 (stepD o M u).1) Q2 N c2 → allQ Q2 = allQ Q → OwnOut r.cap Q N ws w (r, { w with steps := w.steps + 1, op := some (newD (r.at w.kind w.level) r.cap 2 0) }, (stepD o M u).2.1, (stepD o M u).2.2) := by
    intro Q2 c2 hq hQ
    have step1 : OW r.cap r (stepD o M u).2.1 (updW ws 0 { w with done := true }) _ Q2 N c2 :=
      h.own_upd (.inr rfl) h.base rfl h.ok hq (fun k' l' hk hl _ => hidA k' l' hk hl) (.inl (by rw [updAA_slot _ _ _ _ _ _ _ _ (by omega)]; exact hidA _ _ O.kind O.level)) (fun e => (by cases e))
    have hid := step1.idle_all (updW_same _ _ _) (fun e => (by cases e))
    have q5 := hq.newT (k := w.kind) (l := w.level) (j := 4) (by omega) (r.at w.kind w.level)
    have step2 := step1.own_upd (w' := { w with steps := w.steps + 1, op := some (newD (r.at w.kind w.level) r.cap 2 0) }) (.inr rfl) h.base rfl h.ok q5 (fun k' l' hk hl _ => hid k' l' hk hl) (.inl (by rw [updAA_slot _ _ _ _ _ _ _ _ (by omega)]; exact hid _ _ O.kind O.level)) (fun _ => by
      have hnew := opOn_new (w' := { w with steps := w.steps + 1, op := some (newD (r.at w.kind w.level) r.cap 2 0) }) (j := 4) (kd := 2) (x := 0) h.q.pw (by omega) (by omega) O.kind O.level (updAA A w.kind w.level 4 (stepD o M u).1) rfl rfl (by rw [hbas])
      rw [← hbas] at hnew
      exact { kind := O.kind, level := O.level, x := O.x, fr := O.fr, sw := O.sw, nx := O.nx, err := O.err, pu := fun e => (by rw [hn] at e; cases e), ag := fun e => (by rw [hn] at e; cases e), as_ := fun e => (by rw [hn] at e; cases e), sw_ := fun _ => ⟨p1, p2, _, hnew⟩, si := fun e => (by rw [hn] at e; cases e), ta := fun e => (by rw [hn] at e; cases e), po := fun e => (by rw [hn] at e; cases e), ch := fun e => (by rw [hn] at e; cases e), em := fun e => (by rw [hn] at e; cases e), wo := fun e => (by rw [hn] at e; cases e) })
    rw [updW_twice] at step2
    exact ⟨_, Q2, N, c2, Nat.le_succ _, step2, fun _ => Iff.rfl, fun _ => rfl, .inl ⟨hd, by rw [hQ]; exact List.Perm.refl _⟩⟩
  rcases h.q.steal hN O.kind h8 (show 1 ≤ 4 by omega) h7 h5 h4 h3 u with ⟨q1, q2⟩ | ⟨q1, q2, L', q3, q4⟩ | ⟨q1, q2, q3⟩ | ⟨q1, q2, q3⟩
  · rw [updQ_self, updC_self] at q2
    rw [rdone_not q1]
    by_cases hc : (stepD o M u).1.steps = 1 ∧ ahd w.from_ (stepD o M u).1.t ≤ 0
    · rw [if_pos (.inl hc)]
      exact PUSH q2 rfl
    · rw [if_neg (by rintro (e | e); exact hc e; revert e; decide), if_neg (by decide), if_neg (by decide)]
      refine ⟨_, Q, N, c, Nat.le_succ _, h.own_upd (.inr rfl) h.base rfl h.ok q2 (fun k' l' hk hl _ => hidA k' l' hk hl) (.inl (by rw [updAA_slot _ _ _ _ _ _ _ _ (by omega)]; exact hidA _ _ O.kind O.level)) (fun _ => ?_), fun _ => Iff.rfl, fun _ => rfl, .inl ⟨hd, List.Perm.refl _⟩⟩
      exact { kind := O.kind, level := O.level, x := O.x, fr := O.fr, sw := O.sw, nx := O.nx, err := O.err, pu := fun e => (by rw [hn] at e; cases e), ag := fun e => (by rw [hn] at e; cases e), as_ := fun e => (by rw [hn] at e; cases e), sw_ := fun _ => ⟨p1, p2, _, opOn_step ho h.q.small u rfl rfl rfl q1⟩, si := fun e => (by rw [hn] at e; cases e), ta := fun e => (by rw [hn] at e; cases e), po := fun e => (by rw [hn] at e; cases e), ch := fun e => (by rw [hn] at e; cases e), em := fun e => (by rw [hn] at e; cases e), wo := fun e => (by rw [hn] at e; cases e) }
  · rw [updC_self] at q4
    have hns : ¬ ((stepD o M u).1.steps = 1) := fun e => by rw [hst1 e] at q1; cases q1
    rw [resD_ok q1 q2, if_neg (by rintro (e | e); exact hns e.1; exact absurd (show (0 : Int) = 7 from e) (by decide)), if_neg (show ¬ ((0 : Int) = 8) by decide), if_pos rfl]
    refine ⟨_, _, N, c, Nat.le_succ _, h.own_upd (.inr rfl) h.base rfl h.ok q4 (fun k' l' hk hl _ => hidA k' l' hk hl) (.inl (by rw [updAA_slot _ _ _ _ _ _ _ _ (by omega)]; exact hidA _ _ O.kind O.level)) (fun _ => ?_), fun _ => ⟨fun _ => hput, fun _ => .inr (.inr (.inr (.inl rfl)))⟩, fun _ => rfl, .inl ⟨hd, ?_⟩⟩
    · exact { kind := O.kind, level := O.level, x := O.x, fr := O.fr, sw := hok.x, nx := .inl (.inr (.inr (.inr (.inl rfl)))), err := O.err, pu := fun e => (by cases e), ag := fun e => (by cases e), as_ := fun _ => ⟨p1, rfl, (by show (updQ Q w.kind w.level L' w.kind w.level).length < r.cap; rw [updQ_same]; rw [q3] at hroom; simp at hroom; omega)⟩, sw_ := fun e => (by cases e), si := fun e => (by cases e), ta := fun e => (by cases e), po := fun e => (by cases e), ch := fun e => (by cases e), em := fun e => (by cases e), wo := fun e => (by cases e) }
    · rw [hsw, hand2 (w := { w with steps := w.steps + 1, op := some (stepD o M u).1, swept := (stepD o M u).1.x, holds := true, next := .asking }) hd p1 rfl]
      have e1 : (allQ Q).Perm ((stepD o M u).1.x :: allQ (updQ Q w.kind w.level L')) := allQ_pop Q O.kind h8 (by rw [q3])
      refine (e1.append_right [w.x]).trans ?_
      have := (List.perm_middle (l₁ := allQ (updQ Q w.kind w.level L')) (a := (stepD o M u).1.x) (l₂ := [w.x])).symm
      simpa using this
  · rw [updQ_self, updC_self] at q3
    rw [resD_bad q1 (by rw [q2]; decide), q2]
    by_cases hc : (stepD o M u).1.steps = 1 ∧ ahd w.from_ (stepD o M u).1.t ≤ 0
    · rw [if_pos (.inl hc)]
      exact PUSH q3 rfl
    · rw [if_neg (by rintro (e | e); exact hc e; revert e; decide), if_pos rfl]
      exact NEWS q3 rfl
  · rw [updQ_self, updC_self] at q3
    rw [resD_bad q1 (by rw [q2]; decide), q2, if_pos (.inr rfl)]
    exact PUSH q3 rfl
theorem OW.o_choosing (h : OW cap r M ws A Q N c) (hw : ws 0 = some w) (hd : w.done = false) (hn : w.next = .choosing) (good : Nat → Bool) (u : Nat) : OwnOut cap Q N ws w (stepR good r w M u) := by
  have O := h.own w hw hd
  obtain ⟨p1, p2⟩ := O.ch hn
  have hcp := h.cp
  subst hcp
  have hnp : ¬ isPut w := notPut (.inl hn)
  have hidA := h.idle_all hw (noP (by rw [hn]; simp))
  have hp : stepR good r w M u = (if bestR r = 8 then (r, { w with steps := w.steps + 1, level := 8, done := true, err := 7 }, M, u)
    else (chR r (bestR r), { w with steps := w.steps + 1, level := bestR r, kind := chK r (bestR r), op := some (newD (r.at (chK r (bestR r)) (bestR r)) r.cap 2 0), next := .taking }, M, u)) := by
    unfold stepR
    rw [if_neg (by rw [hd]; simp)]
    unfold phaseR
    simp only [hn]
    by_cases h8 : bestR r = 8
    · rw [if_pos h8, if_pos h8]
    · rw [if_neg h8, if_neg h8]
      have e : (if (r.s0.testBit (bestR r) && r.s1.testBit (bestR r)) = true then r.turn else if r.s1.testBit (bestR r) = true then 1 else w.kind) = chK r (bestR r) := by rw [p2]; rfl
      rw [e]
      rfl
  rw [hp]
  by_cases h8 : bestR r = 8
  · rw [if_pos h8]
    exact ⟨A, Q, N, c, Nat.le_succ _, h.own_same h.base rfl h.ok h.q hidA (fun e => (by cases e)), fun e => (by cases e), fun e => absurd e hnp, .inr (.inr (.inr (.inr ⟨rfl, hnp, (by simp), (by simp), (by rw [hand0 p1, List.append_nil])⟩)))⟩
  · rw [if_neg h8]
    have hl : bestR r < 8 := by have := (bestR_spec r).1; omega
    have hk := chK_lt h.ok.2.2 (bestR r)
    obtain ⟨d1, d2, d3, d4⟩ := chR_same r (bestR r)
    have hbas := bas_at h.base (chK r (bestR r)) (bestR r)
    generalize bestR r = l at hl hk hbas d1 d2 d3 d4 ⊢
    generalize chK r l = k at hk hbas ⊢
    have q5 := h.q.newT (k := k) (l := l) (j := 4) (by omega) (r.at k l)
    refine ⟨_, Q, N, c, Nat.le_succ _, h.own_upd (.inr rfl) (by rw [d1]; exact h.base) d2 ⟨by rw [d3]; exact h.ok.1, by rw [d4]; exact h.ok.2.1, chR_turn h.ok.2.2 l⟩ q5 (fun k' l' hk hl _ => hidA k' l' hk hl) (.inl (by rw [updAA_slot _ _ _ _ _ _ _ _ (by omega)]; exact hidA _ _ hk hl)) (fun _ => ?_), fun _ => ⟨fun e => absurd e (notPut (.inr (.inl rfl))), fun e => absurd e hnp⟩, fun e => absurd e hnp, .inl ⟨hd, List.Perm.refl _⟩⟩
    have hnew := opOn_new (w' := { w with steps := w.steps + 1, level := l, kind := k, op := some (newD (r.at k l) r.cap 2 0), next := .taking }) (j := 4) (kd := 2) (x := 0) h.q.pw (by omega) (by omega) hk hl A rfl rfl (by rw [hbas])
    rw [← hbas] at hnew
    exact { kind := hk, level := hl, x := O.x, fr := O.fr, sw := O.sw, nx := .inr (.inr (.inl rfl)), err := O.err, pu := fun e => (by cases e), ag := fun e => (by cases e), as_ := fun e => (by cases e), sw_ := fun e => (by cases e), si := fun e => (by cases e), ta := fun _ => ⟨p1, _, hnew⟩, po := fun e => (by cases e), ch := fun e => (by cases e), em := fun e => (by cases e), wo := fun e => (by cases e) }
theorem OW.o_taking (h : OW cap r M ws A Q N c) (hN : N < 1000000) (hw : ws 0 = some w) (hd : w.done = false) (hn : w.next = .taking) (good : Nat → Bool) (u : Nat) : OwnOut cap Q N ws w (stepR good r w M u) := by
  have O := h.own w hw hd
  obtain ⟨p1, o, ho⟩ := O.ta hn
  obtain ⟨h1, h2, h3, h4, h5, h6, h7, h8⟩ := id ho
  have hcp := h.cp
  subst hcp
  have hnp : ¬ isPut w := notPut (.inr (.inl hn))
  have hidA := h.idle_all hw (noP (by rw [hn]; simp))
  have hok := okStep (W := M) (u := u) h4 h.q.small
  obtain ⟨e1, e2, e3⟩ := put_rest r w.kind (put (r.set w.kind) w.level false)
  have hp : stepR good r w M u = (if (stepD o M u).1.done = false then (r, { w with steps := w.steps + 1, op := some (stepD o M u).1 }, (stepD o M u).2.1, (stepD o M u).2.2)
    else if (resD (stepD o M u).1).2 ≠ 7 then (r, { w with steps := w.steps + 1, op := some (stepD o M u).1, x := (resD (stepD o M u).1).1, done := true, err := (resD (stepD o M u).1).2 }, (stepD o M u).2.1, (stepD o M u).2.2)
    else (if put (r.set w.kind) w.level false ≠ r.set w.kind ∧ w.kind = 0 then (r.put w.kind (put (r.set w.kind) w.level false), { w with steps := w.steps + 1, op := some (stepD o M u).1, next := .emptying }, (stepD o M u).2.1, (stepD o M u).2.2)
       else (r.put w.kind (put (r.set w.kind) w.level false), { w with steps := w.steps + 1, op := some (stepD o M u).1, done := true, err := 8 }, (stepD o M u).2.1, (stepD o M u).2.2))) := by
    unfold stepR
    rw [if_neg (by rw [hd]; simp)]
    unfold phaseR
    simp only [hn, h1, Option.getD_some]
  rw [hp]
  clear hp
  have hI : ∀ k' l', k' < 2 → l' < 8 → ¬ (k' = w.kind ∧ l' = w.level) → Idle0 (A k' l' 0) := fun k' l' hk hl _ => hidA k' l' hk hl
  have hH : Idle0 (updAA A w.kind w.level 4 (stepD o M u).1 w.kind w.level 0) := by rw [updAA_slot _ _ _ _ _ _ _ _ (by omega)]; exact hidA _ _ O.kind O.level
  rcases h.q.steal hN O.kind h8 (show 1 ≤ 4 by omega) h7 h5 h4 h3 u with ⟨q1, q2⟩ | ⟨q1, q2, L', q3, q4⟩ | ⟨q1, q2, q3⟩ | ⟨q1, q2, q3⟩
  · rw [updQ_self, updC_self] at q2
    rw [if_pos q1]
    refine ⟨_, Q, N, c, Nat.le_succ _, h.own_upd (.inr rfl) h.base rfl h.ok q2 hI (.inl hH) (fun _ => ?_), fun _ => Iff.rfl, fun _ => rfl, .inl ⟨hd, List.Perm.refl _⟩⟩
    exact { kind := O.kind, level := O.level, x := O.x, fr := O.fr, sw := O.sw, nx := O.nx, err := O.err, pu := fun e => (by rw [hn] at e; cases e), ag := fun e => (by rw [hn] at e; cases e), as_ := fun e => (by rw [hn] at e; cases e), sw_ := fun e => (by rw [hn] at e; cases e), si := fun e => (by rw [hn] at e; cases e), ta := fun _ => ⟨p1, _, opOn_step ho h.q.small u rfl rfl rfl q1⟩, po := fun e => (by rw [hn] at e; cases e), ch := fun e => (by rw [hn] at e; cases e), em := fun e => (by rw [hn] at e; cases e), wo := fun e => (by rw [hn] at e; cases e) }
  · rw [updC_self] at q4
    rw [if_neg (by rw [q1]; simp), resD_ok q1 q2, if_pos (show (0 : Int) ≠ 7 by decide)]
    exact ⟨_, _, N, c, Nat.le_succ _, h.own_upd (.inr rfl) h.base rfl h.ok q4 hI (.inl hH) (fun e => (by cases e)), fun e => (by cases e), fun e => absurd e hnp, .inr (.inr (.inr (.inl ⟨rfl, hnp, rfl, (by rw [hand0 p1, List.append_nil]; exact allQ_pop Q O.kind h8 (by rw [q3]))⟩)))⟩
  · rw [updQ_self, updC_self] at q3
    rw [if_neg (by rw [q1]; simp), resD_bad q1 (by rw [q2]; decide), q2, if_pos (by decide)]
    exact ⟨_, Q, N, c, Nat.le_succ _, h.own_upd (.inr rfl) h.base rfl h.ok q3 hI (.inl hH) (fun e => (by cases e)), fun e => (by cases e), fun e => absurd e hnp, .inr (.inr (.inr (.inr ⟨rfl, hnp, (by simp), (by simp), (by rw [hand0 p1, List.append_nil])⟩)))⟩
  · rw [updQ_self, updC_self] at q3
    rw [if_neg (by rw [q1]; simp), resD_bad q1 (by rw [q2]; decide), q2, if_neg (by decide)]
    by_cases hc : put (r.set w.kind) w.level false ≠ r.set w.kind ∧ w.kind = 0
    · rw [if_pos hc]
      refine ⟨_, Q, N, c, Nat.le_succ _, h.own_upd (.inr rfl) (by rw [e1]; exact h.base) e2 (okP h.ok h8 false) q3 hI (.inl hH) (fun _ => ?_), fun _ => ⟨fun e => absurd e (notPut (.inr (.inr (.inl rfl)))), fun e => absurd e hnp⟩, fun _ => rfl, .inl ⟨hd, List.Perm.refl _⟩⟩
      exact { kind := O.kind, level := O.level, x := O.x, fr := O.fr, sw := O.sw, nx := .inr (.inr (.inr (.inl rfl))), err := O.err, pu := fun e => (by cases e), ag := fun e => (by cases e), as_ := fun e => (by cases e), sw_ := fun e => (by cases e), si := fun e => (by cases e), ta := fun e => (by cases e), po := fun e => (by cases e), ch := fun e => (by cases e), em := fun _ => p1, wo := fun e => (by cases e) }
    · rw [if_neg hc]
      exact ⟨_, Q, N, c, Nat.le_succ _, h.own_upd (.inr rfl) (by rw [e1]; exact h.base) e2 (okP h.ok h8 false) q3 hI (.inl hH) (fun e => (by cases e)), fun e => (by cases e), fun e => absurd e hnp, .inr (.inr (.inr (.inr ⟨rfl, hnp, (by simp), (by simp), (by rw [hand0 p1, List.append_nil])⟩)))⟩
theorem OW.o_worst (h : OW cap r M ws A Q N c) (hw : ws 0 = some w) (hd : w.done = false) (hn : w.next = .worst) (good : Nat → Bool) (u : Nat) : OwnOut cap Q N ws w (stepR good r w M u) := by
  have O := h.own w hw hd
  obtain ⟨p1, p2, p3⟩ := O.wo hn
  have hcp := h.cp
  subst hcp
  have hnp : ¬ isPut w := notPut (.inr (.inr (.inr (.inl hn))))
  have hidA := h.idle_all hw (noP (by rw [hn]; simp))
  have hp : stepR good r w M u = (match worstOf r.s0 with
      | none => (r, { w with steps := w.steps + 1, done := true, err := 7 }, M, u)
      | some l => (r, { w with steps := w.steps + 1, level := l, op := some (newD (r.at w.kind l) r.cap 1 0), next := .popping }, M, u)) := by
    unfold stepR
    rw [if_neg (by rw [hd]; simp)]
    unfold phaseR
    simp only [hn]
    rfl
  rw [hp]
  cases hwo : worstOf r.s0 with
  | none => exact ⟨A, Q, N, c, Nat.le_succ _, h.own_same h.base rfl h.ok h.q hidA (fun e => (by cases e)), fun e => (by cases e), fun e => absurd e hnp, .inr (.inr (.inr (.inr ⟨rfl, hnp, (by simp), (by simp), (by rw [hand0 p1, List.append_nil])⟩)))⟩
  | some l =>
    have hl : l < 8 := by
      unfold worstOf at hwo
      have := List.mem_of_getLast? hwo
      have := (List.mem_filter.1 this).1
      simpa using this
    have hbas := bas_at h.base w.kind l
    have q5 := h.q.new0 (x := 0) O.kind hl (show 1 ≤ 1 by omega) (hidA _ _ O.kind hl) (r.at w.kind l)
    refine ⟨_, Q, N, c, Nat.le_succ _, h.own_upd (.inl rfl) h.base rfl h.ok q5 (fun k' l' hk hl _ => hidA k' l' hk hl) (.inr ⟨hd, .inr (.inr rfl), rfl, rfl⟩) (fun _ => ?_), fun _ => ⟨fun e => absurd e (notPut (.inr (.inr (.inr (.inr rfl))))), fun e => absurd e hnp⟩, fun _ => rfl, .inl ⟨hd, List.Perm.refl _⟩⟩
    have hnew := opOn_new (w' := { w with steps := w.steps + 1, level := l, op := some (newD (r.at w.kind l) r.cap 1 0), next := .popping }) (j := 0) (kd := 1) (x := 0) h.q.pw (by omega) (by omega) O.kind hl A rfl rfl (by rw [hbas])
    rw [← hbas] at hnew
    exact { kind := O.kind, level := hl, x := O.x, fr := O.fr, sw := O.sw, nx := .inr (.inr (.inr (.inr (.inr rfl)))), err := O.err, pu := fun e => (by cases e), ag := fun e => (by cases e), as_ := fun e => (by cases e), sw_ := fun e => (by cases e), si := fun e => (by cases e), ta := fun e => (by cases e), po := fun _ => ⟨p1, _, hnew⟩, ch := fun e => (by cases e), em := fun e => (by cases e), wo := fun e => (by cases e) }
theorem OW.o_popping (h : OW cap r M ws A Q N c) (hN : N < 1000000) (hw : ws 0 = some w) (hd : w.done = false) (hn : w.next = .popping) (good : Nat → Bool) (u : Nat) : OwnOut cap Q N ws w (stepR good r w M u) := by
  have O := h.own w hw hd
  obtain ⟨p1, o, ho⟩ := O.po hn
  obtain ⟨h1, h2, h3, h4, h5, h6, h7, h8⟩ := id ho
  have hcp := h.cp
  subst hcp
  have hnp : ¬ isPut w := notPut (.inr (.inr (.inr (.inr hn))))
  have hp : stepR good r w M u = (if (stepD o M u).1.done = true then (r, { w with steps := w.steps + 1, op := some (stepD o M u).1, x := (resD (stepD o M u).1).1, done := true, err := (resD (stepD o M u).1).2 }, (stepD o M u).2.1, (stepD o M u).2.2)
    else (r, { w with steps := w.steps + 1, op := some (stepD o M u).1 }, (stepD o M u).2.1, (stepD o M u).2.2)) := by
    unfold stepR
    rw [if_neg (by rw [hd]; simp)]
    unfold phaseR
    simp only [hn, h1, Option.getD_some]
  rw [hp]
  clear hp
  rcases h.q.pop hN O.kind h8 h7 h5 h4 h2 h3 u with ⟨q1, c2, q2⟩ | ⟨q1, q2, L', q3, q4⟩ | ⟨q1, q2, q3⟩
  · rw [updQ_self] at q2
    rw [if_neg (by rw [q1]; simp)]
    refine ⟨_, Q, N, _, Nat.le_succ _, h.own_upd (.inl rfl) h.base rfl h.ok q2 (h.idle_other hw) (.inr ⟨hd, .inr (.inr hn), rfl, rfl⟩) (fun _ => ?_), fun _ => Iff.rfl, fun _ => rfl, .inl ⟨hd, List.Perm.refl _⟩⟩
    exact { kind := O.kind, level := O.level, x := O.x, fr := O.fr, sw := O.sw, nx := O.nx, err := O.err, pu := fun e => (by rw [hn] at e; cases e), ag := fun e => (by rw [hn] at e; cases e), as_ := fun e => (by rw [hn] at e; cases e), sw_ := fun e => (by rw [hn] at e; cases e), si := fun e => (by rw [hn] at e; cases e), ta := fun e => (by rw [hn] at e; cases e), po := fun _ => ⟨p1, _, opOn_step ho h.q.small u rfl rfl rfl q1⟩, ch := fun e => (by rw [hn] at e; cases e), em := fun e => (by rw [hn] at e; cases e), wo := fun e => (by rw [hn] at e; cases e) }
  · rw [if_pos q1, resD_ok q1 q2]
    exact ⟨_, _, N, _, Nat.le_succ _, h.own_upd (.inl rfl) h.base rfl h.ok q4 (h.idle_other hw) (.inl (.inr ⟨_, updAA_here _ _ _ _ _, q1⟩)) (fun e => (by cases e)), fun e => (by cases e), fun e => absurd e hnp, .inr (.inr (.inr (.inl ⟨rfl, hnp, rfl, (by rw [hand0 p1, List.append_nil]; exact allQ_pop Q O.kind h8 (by rw [q3]; exact List.perm_append_comm))⟩)))⟩
  · rw [updQ_self] at q3
    rw [if_pos q1, resD_bad q1 (by rw [q2]; decide), q2]
    exact ⟨_, Q, N, _, Nat.le_succ _, h.own_upd (.inl rfl) h.base rfl h.ok q3 (h.idle_other hw) (.inl (.inr ⟨_, updAA_here _ _ _ _ _, q1⟩)) (fun e => (by cases e)), fun e => (by cases e), fun e => absurd e hnp, .inr (.inr (.inr (.inr ⟨rfl, hnp, (by simp), (by simp), (by rw [hand0 p1, List.append_nil])⟩)))⟩
/-- What an owner's step leaves. -/
theorem OW.owner (h : OW cap r M ws A Q N c) (hN : N < 1000000) (hw : ws 0 = some w) (hd : w.done = false) (good : Nat → Bool) (hg : ∀ x, good x = true) (u : Nat) : OwnOut cap Q N ws w (stepR good r w M u) := by
  rcases (h.own w hw hd).nx with (hn | hn | hn | hn | hn) | hn | hn | hn | hn | hn
  · exact h.o_pushing hN hw hd hn good u
  · exact h.o_signing hw hd hn good u
  · exact h.o_sweeping hN hw hd hn good u
  · exact h.o_asking hw hd hn good hg u
  · exact h.o_again hN hw hd hn good u
  · exact h.o_choosing hw hd hn good u
  · exact h.o_taking hN hw hd hn good u
  · exact h.o_emptying hw hd hn good u
  · exact h.o_worst hw hd hn good u
  · exact h.o_popping hN hw hd hn good u
end
end Bosun

/- rack: an owner's work comes to its end, plainly. No program in sight. -/
namespace Bosun
open Go
theorem ahd_add1 {a b : Nat} (_ha : a < 18446744073709551616) (_hb : b < 18446744073709551616) (h : -1000000000 < ahd a b) : ahd a (add1 b) = ahd a b - 1 := by
  unfold ahd add1 at *
  rw [IntKind.wrap_i64] at *
  rw [IntKind.wrap_i64]
  omega
section
variable {cap : Nat} {M : List Nat} {w : RWork}
theorem steal_tops {o : DOp} {k l : Nat} (hk2 : o.kind = 2) (hb : o.base = ((bas cap k l : Nat) : Int)) (hc : o.cap = cap) (c0 : 0 < cap) (hl : l < 8) (hlen : M.length = 1 + 16 * (2 + cap)) (hk : k < 2) (u : Nat) {k' l' : Nat} (hl' : l' < 8) :
    getA (stepD o M u).2.1 ((bas cap k' l' : Nat) : Int) = getA M ((bas cap k' l' : Nat) : Int) ∨ getA (stepD o M u).2.1 ((bas cap k' l' : Nat) : Int) = add1 (getA M ((bas cap k' l' : Nat) : Int)) := by
  by_cases e : k' = k ∧ l' = l
  · obtain ⟨rfl, rfl⟩ := e
    have hfit := bas_end (cap := cap) hk hl
    obtain ⟨base, cp, kind, steps, b, t, x, won, done, err⟩ := o
    simp only at hk2 hb hc
    subst hk2 hb hc
    have ff : ¬ (false = true) := by decide
    cases done with
    | true => exact .inl rfl
    | false =>
      match steps with
      | 0 => exact .inl rfl
      | 1 => exact .inl rfl
      | 2 => exact .inl rfl
      | n + 3 =>
        cases hq : wins M ((bas cp k' l' : Nat) : Int) t
        · left; simp only [stepD, if_neg ff, hq]
        · right
          simp only [stepD, if_neg ff, hq, if_true]
          have ht : getA M ((bas cp k' l' : Nat) : Int) = t := by unfold wins at hq; simp at hq; exact hq.2
          rw [gs_same (by omega), ht]
  · left
    obtain ⟨_, e4⟩ := stepD_else (W := M) o hb hc c0 u
    refine e4 _ ?_
    rcases bas_apart (cap := cap) hl' hl (fun h => e ⟨h.1.symm, h.2.symm⟩) with q | q
    · left; omega
    · right; omega
theorem push_tops {o : DOp} {k l : Nat} (hk2 : o.kind = 0) (hb : o.base = ((bas cap k l : Nat) : Int)) (hc : o.cap = cap) (c0 : 0 < cap) (hl : l < 8) (u : Nat) {k' l' : Nat} (hl' : l' < 8) :
    getA (stepD o M u).2.1 ((bas cap k' l' : Nat) : Int) = getA M ((bas cap k' l' : Nat) : Int) := by
  by_cases e : k' = k ∧ l' = l
  · obtain ⟨rfl, rfl⟩ := e
    obtain ⟨base, cp, kind, steps, b, t, x, won, done, err⟩ := o
    simp only at hk2 hb hc
    subst hk2 hb hc
    cases done with
    | true => rfl
    | false =>
      match steps with
      | 0 => rfl
      | 1 => rfl
      | 2 => exact gs_other (by have := Nat.mod_lt b c0; show plc ((bas cp k' l' : Nat) : Int) cp b ≠ _; unfold plc; omega) _
      | n + 3 => exact gs_other (by show ((bas cp k' l' : Nat) : Int) + 1 ≠ _; omega) _
  · obtain ⟨_, e4⟩ := stepD_else (W := M) o hb hc c0 u
    refine e4 _ ?_
    rcases bas_apart (cap := cap) hl' hl (fun h => e ⟨h.1.symm, h.2.symm⟩) with q | q
    · left; omega
    · right; omega
/-- How far the bottom that a refused push read is ahead of the top. -/
def dist (cap : Nat) (M : List Nat) (w : RWork) : Int := ahd w.from_ (getA M ((bas cap w.kind w.level : Nat) : Int))
def Swp (w : RWork) : Prop := w.next = .sweeping ∨ w.next = .asking ∨ w.next = .again
/-- What a sweep knows. -/
structure SwI (cap : Nat) (M : List Nat) (w : RWork) (i : Nat) : Prop where
  full : Swp w → w.full = true ∧ -(i : Int) ≤ dist cap M w ∧ dist cap M w ≤ (cap : Int)
  ahead : w.next = .sweeping → ∀ o, w.op = some o → 1 ≤ o.steps → 0 < ahd w.from_ o.t
theorem SwI.not (h : ¬ Swp w) (i : Nat) : SwI cap M w i := ⟨fun e => absurd e h, fun e => absurd (.inl e) h⟩
/-- The tops may have grown. -/
theorem SwI.grow {M' : List Nat} {i : Nat} (h : SwI cap M w i) (hi : i < 100000) (hf : w.from_ < 18446744073709551616) (hM : Small M) (hl : w.level < 8)
    (ht : ∀ k' l', l' < 8 → getA M' ((bas cap k' l' : Nat) : Int) = getA M ((bas cap k' l' : Nat) : Int) ∨ getA M' ((bas cap k' l' : Nat) : Int) = add1 (getA M ((bas cap k' l' : Nat) : Int))) : SwI cap M' w (i + 1) := by
  refine ⟨fun e => ?_, h.ahead⟩
  obtain ⟨h1, h2, h3⟩ := h.full e
  refine ⟨h1, ?_⟩
  unfold dist at *
  rcases ht w.kind w.level hl with e | e
  · rw [e]; omega
  · rw [e, ahd_add1 hf (hM.getA _) (by omega)]; omega
theorem SwI.up {i : Nat} (h : SwI cap M w i) {i' : Nat} (hi : i ≤ i') : SwI cap M w i' := ⟨fun e => by obtain ⟨a, b, c⟩ := h.full e; exact ⟨a, by omega, c⟩, h.ahead⟩
/-- How much an owner's work has still to do. -/
def mu (cap : Nat) (M : List Nat) (w : RWork) : Nat :=
  let o := w.op.getD (newD 0 1 0 0)
  let d := (dist cap M w).toNat
  match w.next with
  | .signing => 1
  | .emptying => 1
  | .popping => 7 - o.steps
  | .worst => 8
  | .taking => 6 - o.steps
  | .choosing => 7
  | .pushing => if w.full = true then 6 - o.steps else 5206 - o.steps
  | .sweeping => d * 20 + 12 - o.steps + (if 1 ≤ o.steps ∧ o.t ≠ getA M ((bas cap w.kind w.level : Nat) : Int) then 20 else 0)
  | .asking => d * 20 + 18
  | .again => d * 20 + 17 - o.steps
  | _ => 0
end
section
variable {good : Nat → Bool} {r : RRack} {w : RWork} {M : List Nat} {u : Nat} {o : DOp}
theorem eq_pushing (hd : w.done = false) (hn : w.next = .pushing) (h1 : w.op = some o) : stepR good r w M u = (if (stepD o M u).1.done = false then (r, { w with steps := w.steps + 1, op := some (stepD o M u).1 }, (stepD o M u).2.1, (stepD o M u).2.2)
    else if (stepD o M u).1.err = 6 then
      (if w.full = true then (r, { w with steps := w.steps + 1, op := some (stepD o M u).1, done := true, err := 6 }, (stepD o M u).2.1, (stepD o M u).2.2)
       else (r, { w with steps := w.steps + 1, full := true, from_ := (stepD o M u).1.b, op := some (newD (r.at w.kind w.level) r.cap 2 0), next := .sweeping }, (stepD o M u).2.1, (stepD o M u).2.2))
    else
      (if put (r.set w.kind) w.level true ≠ r.set w.kind ∧ w.kind = 0 then (r.put w.kind (put (r.set w.kind) w.level true), { w with steps := w.steps + 1, op := some (stepD o M u).1, there := true, next := .signing }, (stepD o M u).2.1, (stepD o M u).2.2)
       else (r.put w.kind (put (r.set w.kind) w.level true), { w with steps := w.steps + 1, op := some (stepD o M u).1, there := true, done := true, err := 0 }, (stepD o M u).2.1, (stepD o M u).2.2))) := by
  unfold stepR
  rw [if_neg (by rw [hd]; simp)]
  unfold phaseR
  simp only [hn, h1, Option.getD_some]
  rfl
theorem eq_again (hd : w.done = false) (hn : w.next = .again) (h1 : w.op = some o) : stepR good r w M u = (if (stepD o M u).1.done = true then (r, { w with steps := w.steps + 1, holds := false, op := some (newD (r.at w.kind w.level) r.cap 2 0), next := .sweeping }, (stepD o M u).2.1, (stepD o M u).2.2)
    else (r, { w with steps := w.steps + 1, op := some (stepD o M u).1 }, (stepD o M u).2.1, (stepD o M u).2.2)) := by
  unfold stepR
  rw [if_neg (by rw [hd]; simp)]
  unfold phaseR
  simp only [hn, h1, Option.getD_some]
  rfl
theorem eq_asking (hd : w.done = false) (hn : w.next = .asking) (hg : ∀ x, good x = true) : stepR good r w M u = (r, { w with steps := w.steps + 1, op := some (newD (r.at w.kind w.level) r.cap 0 w.swept), next := .again }, M, u) := by
  unfold stepR
  rw [if_neg (by rw [hd]; simp)]
  unfold phaseR
  simp only [hn]
  rw [if_pos (hg _)]
  rfl
theorem eq_sweeping (hd : w.done = false) (hn : w.next = .sweeping) (h1 : w.op = some o) : stepR good r w M u = (if ((stepD o M u).1.steps = 1 ∧ ahd w.from_ (stepD o M u).1.t ≤ 0) ∨ (resD (stepD o M u).1).2 = 7 then (r, { w with steps := w.steps + 1, op := some (newD (r.at w.kind w.level) r.cap 0 w.x), next := .pushing }, (stepD o M u).2.1, (stepD o M u).2.2)
    else if (resD (stepD o M u).1).2 = 8 then (r, { w with steps := w.steps + 1, op := some (newD (r.at w.kind w.level) r.cap 2 0) }, (stepD o M u).2.1, (stepD o M u).2.2)
    else if (resD (stepD o M u).1).2 = 0 then (r, { w with steps := w.steps + 1, op := some (stepD o M u).1, swept := (resD (stepD o M u).1).1, holds := true, next := .asking }, (stepD o M u).2.1, (stepD o M u).2.2)
    else (r, { w with steps := w.steps + 1, op := some (stepD o M u).1 }, (stepD o M u).2.1, (stepD o M u).2.2)) := by
  unfold stepR
  rw [if_neg (by rw [hd]; simp)]
  unfold phaseR
  simp only [hn, h1, Option.getD_some]
  rfl
theorem eq_choosing (hd : w.done = false) (hn : w.next = .choosing) (p2 : w.kind = 0) : stepR good r w M u = (if bestR r = 8 then (r, { w with steps := w.steps + 1, level := 8, done := true, err := 7 }, M, u)
    else (chR r (bestR r), { w with steps := w.steps + 1, level := bestR r, kind := chK r (bestR r), op := some (newD (r.at (chK r (bestR r)) (bestR r)) r.cap 2 0), next := .taking }, M, u)) := by
  unfold stepR
  rw [if_neg (by rw [hd]; simp)]
  unfold phaseR
  simp only [hn]
  by_cases h8 : bestR r = 8
  · rw [if_pos h8, if_pos h8]
  · rw [if_neg h8, if_neg h8]
    have e : (if (r.s0.testBit (bestR r) && r.s1.testBit (bestR r)) = true then r.turn else if r.s1.testBit (bestR r) = true then 1 else w.kind) = chK r (bestR r) := by rw [p2]; rfl
    rw [e]
    rfl
theorem eq_taking (hd : w.done = false) (hn : w.next = .taking) (h1 : w.op = some o) : stepR good r w M u = (if (stepD o M u).1.done = false then (r, { w with steps := w.steps + 1, op := some (stepD o M u).1 }, (stepD o M u).2.1, (stepD o M u).2.2)
    else if (resD (stepD o M u).1).2 ≠ 7 then (r, { w with steps := w.steps + 1, op := some (stepD o M u).1, x := (resD (stepD o M u).1).1, done := true, err := (resD (stepD o M u).1).2 }, (stepD o M u).2.1, (stepD o M u).2.2)
    else (if put (r.set w.kind) w.level false ≠ r.set w.kind ∧ w.kind = 0 then (r.put w.kind (put (r.set w.kind) w.level false), { w with steps := w.steps + 1, op := some (stepD o M u).1, next := .emptying }, (stepD o M u).2.1, (stepD o M u).2.2)
       else (r.put w.kind (put (r.set w.kind) w.level false), { w with steps := w.steps + 1, op := some (stepD o M u).1, done := true, err := 8 }, (stepD o M u).2.1, (stepD o M u).2.2))) := by
  unfold stepR
  rw [if_neg (by rw [hd]; simp)]
  unfold phaseR
  simp only [hn, h1, Option.getD_some]
theorem eq_worst (hd : w.done = false) (hn : w.next = .worst) : stepR good r w M u = (match worstOf r.s0 with
      | none => (r, { w with steps := w.steps + 1, done := true, err := 7 }, M, u)
      | some l => (r, { w with steps := w.steps + 1, level := l, op := some (newD (r.at w.kind l) r.cap 1 0), next := .popping }, M, u)) := by
  unfold stepR
  rw [if_neg (by rw [hd]; simp)]
  unfold phaseR
  simp only [hn]
  rfl
theorem eq_popping (hd : w.done = false) (hn : w.next = .popping) (h1 : w.op = some o) : stepR good r w M u = (if (stepD o M u).1.done = true then (r, { w with steps := w.steps + 1, op := some (stepD o M u).1, x := (resD (stepD o M u).1).1, done := true, err := (resD (stepD o M u).1).2 }, (stepD o M u).2.1, (stepD o M u).2.2)
    else (r, { w with steps := w.steps + 1, op := some (stepD o M u).1 }, (stepD o M u).2.1, (stepD o M u).2.2)) := by
  unfold stepR
  rw [if_neg (by rw [hd]; simp)]
  unfold phaseR
  simp only [hn, h1, Option.getD_some]
theorem eq_signing (hd : w.done = false) (hn : w.next = .signing) : stepR good r w M u = (r, { w with steps := w.steps + 1, done := true, err := 0 }, setA M r.base r.s0, tick M r.base u) := by
  unfold stepR
  rw [if_neg (by rw [hd]; simp)]
  unfold phaseR
  simp only [hn]
theorem eq_emptying (hd : w.done = false) (hn : w.next = .emptying) : stepR good r w M u = (r, { w with steps := w.steps + 1, done := true, err := 8 }, setA M r.base r.s0, tick M r.base u) := by
  unfold stepR
  rw [if_neg (by rw [hd]; simp)]
  unfold phaseR
  simp only [hn]
end
theorem stepD_succ {o : DOp} (W : List Nat) (u : Nat) (ok : OkOp o) (hd : o.done = false) : (stepD o W u).1.steps = o.steps + 1 := by
  obtain ⟨base, cp, kind, steps, b, t, x, won, done, err⟩ := o
  have hs := ok.steps hd
  simp only at hd hs
  subst hd
  have ff : ¬ (false = true) := by decide
  match kind, steps with
  | 0, 0 => rfl
  | 0, 1 => simp only [stepD, if_neg ff]; split <;> rfl
  | 0, 2 => rfl
  | 0, 3 => rfl
  | 0, n + 4 => exact absurd hs (by rw [if_neg (by decide)]; omega)
  | 1, 0 => rfl
  | 1, 1 => rfl
  | 1, 2 => rfl
  | 1, 3 =>
    by_cases hq : 0 < ahd t b
    · simp only [stepD, if_neg ff, if_pos hq]
    · simp only [stepD, if_neg ff, if_neg hq]; split <;> rfl
  | 1, 4 => rfl
  | 1, 5 => rfl
  | 1, n + 6 => exact absurd hs (by rw [if_pos rfl]; omega)
  | n + 2, 0 => rfl
  | n + 2, 1 => simp only [stepD, if_neg ff]; split <;> rfl
  | n + 2, 2 => rfl
  | n + 2, 3 => rfl
  | n + 2, m + 4 => exact absurd hs (by rw [if_neg (by omega)]; omega)
/-- A push that is refused: what it read. -/
theorem push_refused {o : DOp} (W : List Nat) (u : Nat) (hk : o.kind = 0) (hd : o.done = false) (ok : OkOp o) (hd' : (stepD o W u).1.done = true) (he : (stepD o W u).1.err = 6) : (stepD o W u).1.b = o.b ∧ o.steps = 1 ∧ (o.cap : Int) ≤ ahd o.b (getA W o.base) ∧ (stepD o W u).2.1 = W := by
  obtain ⟨base, cp, kind, steps, b, t, x, won, done, err⟩ := o
  have he0 := ok.err hd
  simp only at hd hk he0
  subst hd hk he0
  have ff : ¬ (false = true) := by decide
  match steps with
  | 0 => cases hd'
  | 1 =>
    by_cases hq : (cp : Int) ≤ ahd b (getA W base)
    · refine ⟨?_, rfl, hq, rfl⟩
      simp only [stepD, if_neg ff, if_pos hq]
    · simp only [stepD, if_neg ff, if_neg hq] at hd'
      cases hd'
  | 2 => cases hd'
  | n + 3 => exact absurd (show (0 : Int) = 6 from he) (by decide)
section
variable {cap : Nat} {r : RRack} {M : List Nat} {ws : Nat → Option RWork} {A : AAs} {Q : Nat → Nat → List Nat} {N : Nat} {c : Nat → Nat → Bool} {w : RWork}
/-- What a push read is at most so far ahead of the top. -/
theorem QS.far (h : QS cap M A Q N c) (hN : N < 1000000) {k l : Nat} (hk : k < 2) (hl : l < 8) {o : DOp} (ho : A k l 0 = some (at0 o)) (hkd : o.kind = 0) (hd : o.done = false) (hs : 1 ≤ o.steps) : ahd o.b (getA M ((bas cap k l : Nat) : Int)) ≤ (cap : Int) := by
  obtain ⟨t, b, l', t0, I, _⟩ := h.st k l hk hl
  have e0 : getA (vw M (bas cap k l) cap) (0 : Nat) = getA M ((bas cap k l : Nat) : Int) := vw_get h.pw.le.2 (j := 0) (by omega)
  obtain ⟨_, _, _, hh⟩ := I.own _ ho
  obtain ⟨_, h1, _, _⟩ := (hh hd).1 hkd
  have hlt : l' = t := by
    by_cases e : l' = t
    · exact e
    · obtain ⟨o', a1, a2, _⟩ := I.won e
      rw [ho] at a1; cases a1
      rw [show (at0 o).kind = o.kind from rfl, hkd] at a2; cases a2
  have hr := I.room
  have tb := I.tb
  have bN := I.bN
  rw [← e0, I.top, show o.b = num f0 b from h1 hs, ahd_num (by omega) (by omega)]
  omega
theorem Swp.nope (h : ¬ (w.next = .sweeping ∨ w.next = .asking ∨ w.next = .again)) : ¬ Swp w := h
set_option maxHeartbeats 1000000 in
theorem OW.own_mu (h : OW cap r M ws A Q N c) (hN : N < 1000000) (hw : ws 0 = some w) (hd : w.done = false) (good : Nat → Bool) (hg : ∀ x, good x = true) (u : Nat) {i : Nat} (hi : i < 50000) (hS : SwI cap M w i) :
    (stepR good r w M u).2.1.done = true ∨ (SwI cap (stepR good r w M u).2.2.1 (stepR good r w M u).2.1 (i + 1) ∧ mu cap (stepR good r w M u).2.2.1 (stepR good r w M u).2.1 < mu cap M w) := by
  have O := h.own w hw hd
  have hcp := h.cp
  subst hcp
  have c0 : 0 < r.cap := by have := h.q.pw.le; omega
  have c1 : r.cap ≤ 256 := h.q.pw.le.2
  rcases O.nx with (hn | hn | hn | hn | hn) | hn | hn | hn | hn | hn
  · -- pushing
    obtain ⟨p1, p2, o, ho, hx⟩ := O.pu hn
    obtain ⟨h1, h2, h3, h4, h5, h6, h7, h8⟩ := ho
    rw [eq_pushing hd hn h1]
    have hsu := stepD_succ M u h4 h3
    have hlt := h4.steps h3
    rw [if_neg (by omega)] at hlt
    by_cases q1 : (stepD o M u).1.done = false
    · rw [if_pos q1]
      refine .inr ⟨SwI.not (by unfold Swp; simp [hn]) _, ?_⟩
      unfold mu
      simp only [hn, h1, Option.getD_some, hsu]
      split <;> omega
    · rw [if_neg q1]
      have q1' : (stepD o M u).1.done = true := by simpa using q1
      by_cases q2 : (stepD o M u).1.err = 6
      · rw [if_pos q2]
        by_cases hf : w.full = true
        · rw [if_pos hf]; exact .inl rfl
        · rw [if_neg hf]
          right
          obtain ⟨r1, r2, r3, r4⟩ := push_refused M u h2 h3 h4 q1' q2
          have hfar := h.q.far hN O.kind h8 h7 h2 h3 (by omega)
          rw [h5, h6] at r3
          have hdist : dist r.cap M { w with steps := w.steps + 1, full := true, from_ := (stepD o M u).1.b, op := some (newD (r.at w.kind w.level) r.cap 2 0), next := .sweeping } = ahd o.b (getA M ((bas r.cap w.kind w.level : Nat) : Int)) := by unfold dist; rw [show ({ w with steps := w.steps + 1, full := true, from_ := (stepD o M u).1.b, op := some (newD (r.at w.kind w.level) r.cap 2 0), next := .sweeping } : RWork).from_ = o.b from r1]
          show SwI r.cap (stepD o M u).2.1 _ _ ∧ _
          rw [r4]
          refine ⟨⟨fun _ => ⟨rfl, by rw [hdist]; omega, by rw [hdist]; exact hfar⟩, fun _ o' ho' hs' => ?_⟩, ?_⟩
          · cases ho'; exact absurd hs' (by show ¬ 1 ≤ 0; omega)
          · have e1 : mu r.cap M w = 5206 - o.steps := by unfold mu; simp only [hn, h1, Option.getD_some]; rw [if_neg hf]
            rw [e1]
            unfold mu
            simp only [Option.getD_some]
            rw [hdist, if_neg (by simp [newD])]
            show _ + 12 - 0 + 0 < _
            omega
      · rw [if_neg q2]
        split
        · right
          refine ⟨SwI.not (by unfold Swp; simp) _, ?_⟩
          have e1 : 2 ≤ mu r.cap M w := by unfold mu; simp only [hn, h1, Option.getD_some]; split <;> omega
          have e2 : mu r.cap (stepD o M u).2.1 { w with steps := w.steps + 1, op := some (stepD o M u).1, there := true, next := .signing } = 1 := rfl
          show mu r.cap (stepD o M u).2.1 { w with steps := w.steps + 1, op := some (stepD o M u).1, there := true, next := .signing } < _
          rw [e2]; omega
        · exact .inl rfl
  · rw [eq_signing hd hn]; exact .inl rfl
  · -- sweeping
    obtain ⟨p1, p2, o, ho⟩ := O.sw_ hn
    obtain ⟨h1, h2, h3, h4, h5, h6, h7, h8⟩ := ho
    obtain ⟨f1, f2, f3⟩ := hS.full (.inl hn)
    have hsu := stepD_succ M u h4 h3
    have hlt := h4.steps h3
    rw [if_neg (by omega)] at hlt
    have htop := fun k' l' (hl' : l' < 8) => steal_tops (M := M) h2 h5 h6 c0 h8 h.q.len O.kind u (k' := k') hl'
    rw [eq_sweeping hd hn h1]
    have hmu : mu r.cap M w = (dist r.cap M w).toNat * 20 + 12 - o.steps + (if 1 ≤ o.steps ∧ o.t ≠ getA M ((bas r.cap w.kind w.level : Nat) : Int) then 20 else 0) := by
      unfold mu; simp only [hn, h1, Option.getD_some]
    have PU : ∀ M2, mu r.cap M2 { w with steps := w.steps + 1, op := some (newD (r.at w.kind w.level) r.cap 0 w.x), next := .pushing } = 6 := fun M2 => by unfold mu; simp only [f1, if_true, Option.getD_some]; rfl
    have hfit := h.q.fits O.kind h8
    by_cases hA : ((stepD o M u).1.steps = 1 ∧ ahd w.from_ (stepD o M u).1.t ≤ 0) ∨ (resD (stepD o M u).1).2 = 7
    · rw [if_pos hA]
      right
      refine ⟨SwI.not (by unfold Swp; simp) _, ?_⟩
      show mu r.cap (stepD o M u).2.1 { w with steps := w.steps + 1, op := some (newD (r.at w.kind w.level) r.cap 0 w.x), next := .pushing } < _
      rw [PU, hmu]
      omega
    · rw [if_neg hA]
      -- the step itself
      obtain ⟨base, cp, kind, steps, b, t, x, won, done, err⟩ := o
      have he0 := h4.err h3
      simp only at h2 h3 h5 h6 hlt he0
      subst h2 h3 h5 h6 he0
      have ff : ¬ (false = true) := by decide
      rcases (show steps = 0 ∨ steps = 1 ∨ steps = 2 ∨ steps = 3 by omega) with rfl | rfl | rfl | rfl
      · -- the top is read
        have e : stepD ⟨((bas r.cap w.kind w.level : Nat) : Int), r.cap, 2, 0, b, t, x, won, false, 0⟩ M u = (⟨((bas r.cap w.kind w.level : Nat) : Int), r.cap, 2, 1, b, getA M ((bas r.cap w.kind w.level : Nat) : Int), x, won, false, 0⟩, M, tick M ((bas r.cap w.kind w.level : Nat) : Int) u) := rfl
        rw [e] at hA ⊢
        rw [rdone_not rfl] at hA ⊢
        rw [if_neg (by decide), if_neg (by decide)]
        right
        have hpos : 0 < ahd w.from_ (getA M ((bas r.cap w.kind w.level : Nat) : Int)) := by
          rcases Int.lt_or_le 0 (ahd w.from_ (getA M ((bas r.cap w.kind w.level : Nat) : Int))) with q | q
          · exact q
          · exact absurd (.inl ⟨rfl, q⟩) hA
        refine ⟨⟨fun _ => ⟨f1, by show -((i + 1 : Nat) : Int) ≤ dist r.cap M w; omega, f3⟩, fun _ o' ho' _ => by cases ho'; exact hpos⟩, ?_⟩
        rw [hmu]
        unfold mu
        simp only [hn, Option.getD_some]
        rw [if_neg (by simp), if_neg (by simp)]
        show (dist r.cap M w).toNat * 20 + 12 - 1 + 0 < _
        omega
      · -- the bottom is read
        by_cases hq : ahd (getA M (((bas r.cap w.kind w.level : Nat) : Int) + 1)) t ≤ 0
        · have e : (stepD ⟨((bas r.cap w.kind w.level : Nat) : Int), r.cap, 2, 1, b, t, x, won, false, 0⟩ M u).1 = ⟨((bas r.cap w.kind w.level : Nat) : Int), r.cap, 2, 2, getA M (((bas r.cap w.kind w.level : Nat) : Int) + 1), t, x, won, true, 7⟩ := by
            simp only [stepD, if_neg ff, if_pos hq]
          rw [e] at hA
          exact absurd (.inr rfl) hA
        · have e : stepD ⟨((bas r.cap w.kind w.level : Nat) : Int), r.cap, 2, 1, b, t, x, won, false, 0⟩ M u = (⟨((bas r.cap w.kind w.level : Nat) : Int), r.cap, 2, 2, getA M (((bas r.cap w.kind w.level : Nat) : Int) + 1), t, x, won, false, 0⟩, M, tick M (((bas r.cap w.kind w.level : Nat) : Int) + 1) u) := by
            simp only [stepD, if_neg ff, if_neg hq]
          rw [e]
          rw [rdone_not rfl, if_neg (by decide), if_neg (by decide)]
          right
          have hah := hS.ahead hn _ h1 (by show 1 ≤ 1; omega)
          refine ⟨⟨fun _ => ⟨f1, by show -((i + 1 : Nat) : Int) ≤ dist r.cap M w; omega, f3⟩, fun _ o' ho' _ => by cases ho'; exact hah⟩, ?_⟩
          rw [hmu]
          unfold mu
          simp only [hn, Option.getD_some]
          have hst : (1 ≤ 2 ∧ t ≠ getA M ((bas r.cap w.kind w.level : Nat) : Int)) ↔ (1 ≤ 1 ∧ t ≠ getA M ((bas r.cap w.kind w.level : Nat) : Int)) := by simp
          show (dist r.cap M w).toNat * 20 + 12 - 2 + (if 1 ≤ 2 ∧ t ≠ getA M ((bas r.cap w.kind w.level : Nat) : Int) then 20 else 0) < (dist r.cap M w).toNat * 20 + 12 - 1 + (if 1 ≤ 1 ∧ t ≠ getA M ((bas r.cap w.kind w.level : Nat) : Int) then 20 else 0)
          by_cases hs : t ≠ getA M ((bas r.cap w.kind w.level : Nat) : Int)
          · rw [if_pos ⟨by omega, hs⟩, if_pos ⟨by omega, hs⟩]; omega
          · rw [if_neg (fun e => hs e.2), if_neg (fun e => hs e.2)]; omega
      · -- the word is read
        have e : stepD ⟨((bas r.cap w.kind w.level : Nat) : Int), r.cap, 2, 2, b, t, x, won, false, 0⟩ M u = (⟨((bas r.cap w.kind w.level : Nat) : Int), r.cap, 2, 3, b, t, getA M (plc ((bas r.cap w.kind w.level : Nat) : Int) r.cap t), won, false, 0⟩, M, tick M (plc ((bas r.cap w.kind w.level : Nat) : Int) r.cap t) u) := rfl
        rw [e]
        rw [rdone_not rfl, if_neg (by decide), if_neg (by decide)]
        right
        have hah := hS.ahead hn _ h1 (by show 1 ≤ 2; omega)
        refine ⟨⟨fun _ => ⟨f1, by show -((i + 1 : Nat) : Int) ≤ dist r.cap M w; omega, f3⟩, fun _ o' ho' _ => by cases ho'; exact hah⟩, ?_⟩
        rw [hmu]
        unfold mu
        simp only [hn, Option.getD_some]
        show (dist r.cap M w).toNat * 20 + 12 - 3 + (if 1 ≤ 3 ∧ t ≠ getA M ((bas r.cap w.kind w.level : Nat) : Int) then 20 else 0) < (dist r.cap M w).toNat * 20 + 12 - 2 + (if 1 ≤ 2 ∧ t ≠ getA M ((bas r.cap w.kind w.level : Nat) : Int) then 20 else 0)
        by_cases hs : t ≠ getA M ((bas r.cap w.kind w.level : Nat) : Int)
        · rw [if_pos ⟨by omega, hs⟩, if_pos ⟨by omega, hs⟩]; omega
        · rw [if_neg (fun e => hs e.2), if_neg (fun e => hs e.2)]; omega
      · -- the top is taken, or not
        have hah : 0 < ahd w.from_ t := hS.ahead hn _ h1 (by show 1 ≤ 3; omega)
        cases hq : wins M ((bas r.cap w.kind w.level : Nat) : Int) t
        · have e : stepD ⟨((bas r.cap w.kind w.level : Nat) : Int), r.cap, 2, 3, b, t, x, won, false, 0⟩ M u = (⟨((bas r.cap w.kind w.level : Nat) : Int), r.cap, 2, 4, b, t, x, won, true, 8⟩, M, tick M ((bas r.cap w.kind w.level : Nat) : Int) u) := by
            simp only [stepD, if_neg ff, hq]
            try rfl
          rw [e]
          have hne : t ≠ getA M ((bas r.cap w.kind w.level : Nat) : Int) := by
            unfold wins at hq
            rw [hasA_yes (by omega)] at hq
            simp at hq
            exact fun e => hq e.symm
          rw [show (resD (⟨((bas r.cap w.kind w.level : Nat) : Int), r.cap, 2, 4, b, t, x, won, true, 8⟩ : DOp)).2 = 8 from rfl, if_pos rfl]
          right
          refine ⟨⟨fun _ => ⟨f1, by show -((i + 1 : Nat) : Int) ≤ dist r.cap M w; omega, f3⟩, fun _ o' ho' hs' => by cases ho'; exact absurd hs' (by show ¬ 1 ≤ 0; omega)⟩, ?_⟩
          have e2 : mu r.cap M { w with steps := w.steps + 1, op := some (newD (r.at w.kind w.level) r.cap 2 0) } = (dist r.cap M w).toNat * 20 + 12 - 0 + (if 1 ≤ 0 ∧ (newD (r.at w.kind w.level) r.cap 2 0).t ≠ getA M ((bas r.cap w.kind w.level : Nat) : Int) then 20 else 0) := by unfold mu; simp only [hn, Option.getD_some]; rfl
          refine Nat.lt_of_le_of_lt (Nat.le_of_eq e2) ?_
          rw [if_neg (by omega), hmu, if_pos ⟨by show 1 ≤ 3; omega, hne⟩]
          show _ < (dist r.cap M w).toNat * 20 + 12 - 3 + 20
          omega
        · have ht : getA M ((bas r.cap w.kind w.level : Nat) : Int) = t := by unfold wins at hq; simp at hq; exact hq.2
          have e : stepD ⟨((bas r.cap w.kind w.level : Nat) : Int), r.cap, 2, 3, b, t, x, won, false, 0⟩ M u = (⟨((bas r.cap w.kind w.level : Nat) : Int), r.cap, 2, 4, b, t, x, won, true, 0⟩, setA M ((bas r.cap w.kind w.level : Nat) : Int) (add1 t), tick M ((bas r.cap w.kind w.level : Nat) : Int) u) := by
            simp only [stepD, if_neg ff, hq]
            try rfl
          rw [e]
          rw [show (resD (⟨((bas r.cap w.kind w.level : Nat) : Int), r.cap, 2, 4, b, t, x, won, true, 0⟩ : DOp)) = (x, 0) from rfl, if_neg (show ¬ ((0 : Int) = 8) by decide), if_pos rfl]
          right
          have hdist : ahd w.from_ (getA (setA M ((bas r.cap w.kind w.level : Nat) : Int) (add1 t)) ((bas r.cap w.kind w.level : Nat) : Int)) = dist r.cap M w - 1 := by
            rw [gs_same (by omega)]
            unfold dist
            rw [ht]
            exact ahd_add1 O.fr h4.t (by omega)
          have hd0 : 0 < dist r.cap M w := by unfold dist; rw [ht]; exact hah
          refine ⟨⟨fun _ => ⟨f1, ?_, ?_⟩, fun e => by cases e⟩, ?_⟩
          · unfold dist at hdist ⊢; show -((i + 1 : Nat) : Int) ≤ ahd w.from_ (getA (setA M ((bas r.cap w.kind w.level : Nat) : Int) (add1 t)) ((bas r.cap w.kind w.level : Nat) : Int)); unfold dist at f2; omega
          · unfold dist at hdist f3 ⊢; show ahd w.from_ (getA (setA M ((bas r.cap w.kind w.level : Nat) : Int) (add1 t)) ((bas r.cap w.kind w.level : Nat) : Int)) ≤ _; omega
          · rw [hmu]
            have e2 : mu r.cap (setA M ((bas r.cap w.kind w.level : Nat) : Int) (add1 t)) { w with steps := w.steps + 1, op := some ⟨((bas r.cap w.kind w.level : Nat) : Int), r.cap, 2, 4, b, t, x, won, true, 0⟩, swept := x, holds := true, next := .asking } = (ahd w.from_ (getA (setA M ((bas r.cap w.kind w.level : Nat) : Int) (add1 t)) ((bas r.cap w.kind w.level : Nat) : Int))).toNat * 20 + 18 := rfl
            refine Nat.lt_of_le_of_lt (Nat.le_of_eq e2) ?_
            rw [hdist]
            simp only
            omega
  · -- asking
    rw [eq_asking hd hn hg]
    obtain ⟨f1, f2, f3⟩ := hS.full (.inr (.inl hn))
    refine .inr ⟨⟨fun _ => ⟨f1, by show -((i + 1 : Nat) : Int) ≤ dist r.cap M w; omega, f3⟩, fun e => by cases e⟩, ?_⟩
    unfold mu
    simp only [hn, Option.getD_some]
    show (dist r.cap M w).toNat * 20 + 17 - 0 < (dist r.cap M w).toNat * 20 + 18
    omega
  · -- again
    obtain ⟨p1, p2, p3, o, ho, hx⟩ := O.ag hn
    obtain ⟨h1, h2, h3, h4, h5, h6, h7, h8⟩ := ho
    obtain ⟨f1, f2, f3⟩ := hS.full (.inr (.inr hn))
    have hsu := stepD_succ M u h4 h3
    have hlt := h4.steps h3
    rw [if_neg (by omega)] at hlt
    have htop := push_tops (M := M) h2 h5 h6 c0 h8 u (k' := w.kind) h8
    have hdist : ahd w.from_ (getA (stepD o M u).2.1 ((bas r.cap w.kind w.level : Nat) : Int)) = dist r.cap M w := by rw [htop]; rfl
    rw [eq_again hd hn h1]
    by_cases q1 : (stepD o M u).1.done = true
    · rw [if_pos q1]
      right
      refine ⟨⟨fun _ => ⟨f1, ?_, ?_⟩, fun _ o' ho' hs' => by cases ho'; exact absurd hs' (by show ¬ 1 ≤ 0; omega)⟩, ?_⟩
      · show -((i + 1 : Nat) : Int) ≤ ahd w.from_ (getA (stepD o M u).2.1 ((bas r.cap w.kind w.level : Nat) : Int)); rw [hdist]; omega
      · show ahd w.from_ (getA (stepD o M u).2.1 ((bas r.cap w.kind w.level : Nat) : Int)) ≤ _; rw [hdist]; exact f3
      · have e1 : mu r.cap M w = (dist r.cap M w).toNat * 20 + 17 - o.steps := by unfold mu; simp only [hn, h1, Option.getD_some]
        have e2 : mu r.cap (stepD o M u).2.1 { w with steps := w.steps + 1, holds := false, op := some (newD (r.at w.kind w.level) r.cap 2 0), next := .sweeping } = (ahd w.from_ (getA (stepD o M u).2.1 ((bas r.cap w.kind w.level : Nat) : Int))).toNat * 20 + 12 - 0 + (if 1 ≤ 0 ∧ (newD (r.at w.kind w.level) r.cap 2 0).t ≠ getA (stepD o M u).2.1 ((bas r.cap w.kind w.level : Nat) : Int) then 20 else 0) := rfl
        refine Nat.lt_of_le_of_lt (Nat.le_of_eq e2) ?_
        rw [hdist, e1, if_neg (by omega)]
        omega
    · rw [if_neg q1]
      right
      refine ⟨⟨fun _ => ⟨f1, ?_, ?_⟩, fun e => by rw [show ({ w with steps := w.steps + 1, op := some (stepD o M u).1 } : RWork).next = .again from hn] at e; cases e⟩, ?_⟩
      · show -((i + 1 : Nat) : Int) ≤ ahd w.from_ (getA (stepD o M u).2.1 ((bas r.cap w.kind w.level : Nat) : Int)); rw [hdist]; omega
      · show ahd w.from_ (getA (stepD o M u).2.1 ((bas r.cap w.kind w.level : Nat) : Int)) ≤ _; rw [hdist]; exact f3
      · have e1 : mu r.cap M w = (dist r.cap M w).toNat * 20 + 17 - o.steps := by unfold mu; simp only [hn, h1, Option.getD_some]
        have e2 : mu r.cap (stepD o M u).2.1 { w with steps := w.steps + 1, op := some (stepD o M u).1 } = (ahd w.from_ (getA (stepD o M u).2.1 ((bas r.cap w.kind w.level : Nat) : Int))).toNat * 20 + 17 - (stepD o M u).1.steps := by unfold mu; simp only [hn, Option.getD_some]; rfl
        show mu r.cap (stepD o M u).2.1 { w with steps := w.steps + 1, op := some (stepD o M u).1 } < _
        rw [e2, e1, hdist, hsu]
        omega
  · -- choosing
    obtain ⟨p1, p2⟩ := O.ch hn
    rw [eq_choosing hd hn p2]
    split
    · exact .inl rfl
    · refine .inr ⟨SwI.not (by unfold Swp; simp) _, ?_⟩
      have e1 : mu r.cap M w = 7 := by unfold mu; simp only [hn]
      rw [e1]
      show 6 - 0 < 7
      omega
  · -- taking
    obtain ⟨p1, o, ho⟩ := O.ta hn
    obtain ⟨h1, h2, h3, h4, h5, h6, h7, h8⟩ := ho
    have hsu := stepD_succ M u h4 h3
    have hlt := h4.steps h3
    rw [if_neg (by omega)] at hlt
    have e1 : mu r.cap M w = 6 - o.steps := by unfold mu; simp only [hn, h1, Option.getD_some]
    rw [eq_taking hd hn h1, e1]
    split
    · refine .inr ⟨SwI.not (by unfold Swp; simp [hn]) _, ?_⟩
      unfold mu
      simp only [hn, Option.getD_some, hsu]
      omega
    · split
      · exact .inl rfl
      · split
        · refine .inr ⟨SwI.not (by unfold Swp; simp) _, ?_⟩
          show 1 < _
          omega
        · exact .inl rfl
  · rw [eq_emptying hd hn]; exact .inl rfl
  · -- worst
    rw [eq_worst hd hn]
    cases worstOf r.s0 with
    | none => exact .inl rfl
    | some l =>
      refine .inr ⟨SwI.not (by unfold Swp; simp) _, ?_⟩
      have e1 : mu r.cap M w = 8 := by unfold mu; simp only [hn]
      rw [e1]
      show 7 - 0 < 8
      omega
  · -- popping
    obtain ⟨p1, o, ho⟩ := O.po hn
    obtain ⟨h1, h2, h3, h4, h5, h6, h7, h8⟩ := ho
    have hsu := stepD_succ M u h4 h3
    have hlt := h4.steps h3
    rw [if_pos h2] at hlt
    have e1 : mu r.cap M w = 7 - o.steps := by unfold mu; simp only [hn, h1, Option.getD_some]
    rw [eq_popping hd hn h1, e1]
    split
    · exact .inl rfl
    · refine .inr ⟨SwI.not (by unfold Swp; simp [hn]) _, ?_⟩
      unfold mu
      simp only [hn, Option.getD_some, hsu]
      omega
end
end Bosun

/- rack: RackOnce, plainly: what holds between two rounds of the law. No program in sight. -/
namespace Bosun
open Go
def updS (sg : Nat → Nat) (x v : Nat) : Nat → Nat := fun y => if y = x then v else sg y
/-- Words that are somewhere, each once, and how the law has them. -/
structure Acc (T : List Nat) (sg : Nat → Nat) (nx : Nat) : Prop where
  nodup : T.Nodup
  mem : ∀ y, y ∈ T ↔ sg y = 1
  rng : ∀ y, sg y = 1 → 1 ≤ y ∧ y < nx
theorem Acc.perm {T T' : List Nat} {sg : Nat → Nat} {nx : Nat} (h : Acc T sg nx) (p : T.Perm T') : Acc T' sg nx :=
  ⟨p.nodup_iff.1 h.nodup, fun y => by rw [← p.mem_iff]; exact h.mem y, h.rng⟩
theorem Acc.drop {T T' : List Nat} {sg : Nat → Nat} {nx x : Nat} (h : Acc T sg nx) (p : T.Perm (x :: T')) {v : Nat} (hv : v ≠ 1) : Acc T' (updS sg x v) nx ∧ sg x = 1 := by
  have h' := h.perm p
  have hn := List.nodup_cons.1 h'.nodup
  have hx : sg x = 1 := (h'.mem x).1 (by simp)
  refine ⟨⟨hn.2, fun y => ?_, fun y hy => ?_⟩, hx⟩
  · unfold updS
    by_cases e : y = x
    · subst e; rw [if_pos rfl]; exact ⟨fun hy => absurd hy hn.1, fun hy => absurd hy hv⟩
    · rw [if_neg e, ← h'.mem y]; simp [e]
  · unfold updS at hy
    by_cases e : y = x
    · rw [if_pos e] at hy; exact absurd hy hv
    · rw [if_neg e] at hy; exact h.rng y hy
theorem Acc.add {T : List Nat} {sg : Nat → Nat} {nx : Nat} (h : Acc T sg nx) (hnx : 1 ≤ nx) : Acc (T ++ [nx]) (updS sg nx 1) (nx + 1) := by
  have hni : nx ∉ T := fun hm => by have := (h.rng nx ((h.mem nx).1 hm)).2; omega
  refine ⟨?_, fun y => ?_, fun y hy => ?_⟩
  · rw [List.nodup_append]
    exact ⟨h.nodup, by simp, fun a ha b hb => by simp at hb; subst hb; rintro rfl; exact hni ha⟩
  · unfold updS
    by_cases e : y = nx
    · subst e; simp
    · rw [if_neg e, ← h.mem y]; simp [e]
  · unfold updS at hy
    by_cases e : y = nx
    · omega
    · rw [if_neg e] at hy; have := h.rng y hy; omega
section
variable {cap : Nat} {r : RRack} {M : List Nat} {ws : Nat → Option RWork} {A : AAs} {Q : Nat → Nat → List Nat} {N : Nat} {c : Nat → Nat → Bool}
def Free0 (ws : Nat → Option RWork) : Prop := ∀ w, ws 0 = some w → w.done = true
theorem OW.idle_free (h : OW cap r M ws A Q N c) (hf : Free0 ws) : ∀ k l, k < 2 → l < 8 → Idle0 (A k l 0) := by
  intro k l hk hl
  rcases h.idle k l hk hl with q | ⟨w', q1, q2, _⟩
  · exact q
  · rw [hf w' q1] at q2; cases q2
theorem hand_free (hf : Free0 ws) : handO (ws 0) = [] := by
  cases hw : ws 0 with
  | none => rfl
  | some w => show handW w = []; unfold handW; rw [if_pos (.inl (hf w hw))]
theorem OW.rob (h : OW cap r M ws A Q N c) {j : Nat} (j1 : 1 ≤ j) : OW cap r M (updW ws j robW) A Q N c :=
  h.thf_same j1 (fun _ => ⟨rfl, (by show 0 < 8; omega), (by show 0 < _; omega), (by show 0 < _; omega), (by show 0 < _; omega), rfl, .inl rfl, fun e => (by rcases e with e | e <;> cases e), fun e => (by cases e)⟩)
theorem OW.take (h : OW cap r M ws A Q N c) (hf : Free0 ws) : OW cap r M (updW ws 0 takeW) A Q N c :=
  h.own_same h.base h.cp h.ok h.q (h.idle_free hf) (fun _ => { kind := (by show 0 < 2; omega), level := (by show 0 < 8; omega), x := (by show 0 < _; omega), fr := (by show 0 < _; omega), sw := (by show 0 < _; omega), nx := .inr (.inl rfl), err := rfl, pu := fun e => (by cases e), ag := fun e => (by cases e), as_ := fun e => (by cases e), sw_ := fun e => (by cases e), si := fun e => (by cases e), ta := fun e => (by cases e), po := fun e => (by cases e), ch := fun _ => ⟨rfl, rfl⟩, em := fun e => (by cases e), wo := fun e => (by cases e) })
theorem OW.shed (h : OW cap r M ws A Q N c) (hf : Free0 ws) : OW cap r M (updW ws 0 shedW) A Q N c :=
  h.own_same h.base h.cp h.ok h.q (h.idle_free hf) (fun _ => { kind := (by show 0 < 2; omega), level := (by show 0 < 8; omega), x := (by show 0 < _; omega), fr := (by show 0 < _; omega), sw := (by show 0 < _; omega), nx := .inr (.inr (.inr (.inr (.inl rfl)))), err := rfl, pu := fun e => (by cases e), ag := fun e => (by cases e), as_ := fun e => (by cases e), sw_ := fun e => (by cases e), si := fun e => (by cases e), ta := fun e => (by cases e), po := fun e => (by cases e), ch := fun e => (by cases e), em := fun e => (by cases e), wo := fun _ => ⟨rfl, rfl, rfl⟩ })
theorem OW.put (h : OW cap r M ws A Q N c) (hf : Free0 ws) {x l : Nat} (pin : Bool) (hl : l < 8) (hx : x < 18446744073709551616) : ∃ A', OW cap r M (updW ws 0 (putW r x l pin)) A' Q N c := by
  obtain ⟨k, hk⟩ : ∃ k, k = (if pin = true then 1 else 0) := ⟨_, rfl⟩
  have hk2 : k < 2 := by rw [hk]; split <;> omega
  have hcp := h.cp
  subst hcp
  have hbas := bas_at h.base k l
  have he : putW r x l pin = ⟨.pushing, x, l, k, some (newD (r.at k l) r.cap 0 x), 0, 0, false, false, false, false, 0, false, 0⟩ := by rw [hk]; rfl
  have hid := h.idle_free hf
  have q5 := h.q.new0 (x := x) hk2 hl (show 0 ≤ 1 by omega) (hid _ _ hk2 hl) (r.at k l)
  rw [he]
  refine ⟨_, h.own_upd (.inl rfl) h.base rfl h.ok q5 (fun k' l' hk hl _ => hid k' l' hk hl) (.inr ⟨rfl, .inl rfl, rfl, rfl⟩) (fun _ => ?_)⟩
  have hnew := opOn_new (w' := ⟨.pushing, x, l, k, some (newD (r.at k l) r.cap 0 x), 0, 0, false, false, false, false, 0, false, 0⟩) (j := 0) (kd := 0) (x := x) h.q.pw (by omega) hx hk2 hl A rfl rfl (by rw [hbas])
  rw [← hbas] at hnew
  exact { kind := hk2, level := hl, x := hx, fr := (by show 0 < _; omega), sw := (by show 0 < _; omega), nx := .inl (.inl rfl), err := rfl, pu := fun _ => ⟨rfl, rfl, _, hnew, rfl⟩, ag := fun e => (by cases e), as_ := fun e => (by cases e), sw_ := fun e => (by cases e), si := fun e => (by cases e), ta := fun e => (by cases e), po := fun e => (by cases e), ch := fun e => (by cases e), em := fun e => (by cases e), wo := fun e => (by cases e) }
end
/-- What holds between two rounds of the law RackOnce. i: how many rounds were made. -/
structure LO (cap : Nat) (r : RRack) (M : List Nat) (ws : Nat → Option RWork) (sg : Nat → Nat) (nx : Nat) (pt : Bool) (i : Nat) : Prop where
  ow : ∃ A Q N c, OW cap r M ws A Q N c ∧ Acc (allQ Q ++ handO (ws 0)) sg nx ∧ N ≤ i + 1
  sw : ∀ w, ws 0 = some w → w.done = false → SwI cap M w i ∧ (isPut w ↔ pt = true) ∧ (isPut w → w.x + 1 = nx)
  n1 : 1 ≤ nx
  ni : nx ≤ i + 1
  st : ∀ y, sg y = 0 ∨ sg y = 1 ∨ sg y = 2
theorem OW.thief_tops {cap : Nat} {r : RRack} {M : List Nat} {ws : Nat → Option RWork} {A : AAs} {Q : Nat → Nat → List Nat} {N : Nat} {c : Nat → Nat → Bool} (h : OW cap r M ws A Q N c) {j : Nat} (j1 : 1 ≤ j) (j4 : j < 4) {w : RWork} (hw : ws j = some w) (hd : w.done = false) (good : Nat → Bool) (hg : ∀ x, good x = true) (u : Nat) :
    ∀ k' l', l' < 8 → getA (stepR good r w M u).2.2.1 ((bas cap k' l' : Nat) : Int) = getA M ((bas cap k' l' : Nat) : Int) ∨ getA (stepR good r w M u).2.2.1 ((bas cap k' l' : Nat) : Int) = add1 (getA M ((bas cap k' l' : Nat) : Int)) := by
  have T := h.thf j j1 j4 w hw hd
  intro k' l' hl'
  rcases T.nx with hn | hn | hn
  · left
    unfold stepR
    rw [if_neg (by rw [hd]; simp)]
    unfold phaseR
    simp only [hn]
    split <;> rfl
  · obtain ⟨o, h1, h2, h3, h4, h5, h6, h7, h8⟩ := T.ro (.inl hn)
    have e : (stepR good r w M u).2.2.1 = (stepD o M u).2.1 := by
      unfold stepR
      rw [if_neg (by rw [hd]; simp)]
      unfold phaseR
      simp only [hn, h1, Option.getD_some]
      split
      · rfl
      · split <;> rfl
    rw [e]
    exact steal_tops h2 h5 h6 (by have := h.q.pw.le; omega) h8 h.q.len (by rw [T.kind]; omega) u hl'
  · left
    unfold stepR
    rw [if_neg (by rw [hd]; simp)]
    unfold phaseR
    simp only [hn, hg, if_true]
theorem allQ_len (cap : Nat) {Q : Nat → Nat → List Nat} : (allQ Q).length = (allQ Q).length := rfl
section
variable {cap : Nat} {r : RRack} {M : List Nat} {ws : Nat → Option RWork} {sg : Nat → Nat} {nx : Nat} {pt : Bool} {i : Nat}
/-- Nothing happens in a round but what it says. -/
theorem LO.begin_rob (h : LO cap r M ws sg nx pt i) {j : Nat} (j1 : 1 ≤ j) : LO cap r M (updW ws j robW) sg nx pt (i + 1) := by
  obtain ⟨A, Q, N, c, o, a, hn⟩ := h.ow
  have e0 : updW ws j robW 0 = ws 0 := updW_other _ _ (by omega)
  refine ⟨⟨A, Q, N, c, o.rob j1, by rw [e0]; exact a, by omega⟩, fun w hw hd => ?_, h.n1, by have := h.ni; omega, h.st⟩
  rw [e0] at hw
  obtain ⟨s1, s2, s3⟩ := h.sw w hw hd
  exact ⟨s1.up (by omega), s2, s3⟩
theorem LO.begin_take (h : LO cap r M ws sg nx pt i) (hf : Free0 ws) : LO cap r M (updW ws 0 takeW) sg nx false (i + 1) := by
  obtain ⟨A, Q, N, c, o, a, hn⟩ := h.ow
  rw [hand_free hf] at a
  refine ⟨⟨A, Q, N, c, o.take hf, by rw [updW_same]; exact a, by omega⟩, fun w hw hd => ?_, h.n1, by have := h.ni; omega, h.st⟩
  rw [updW_same] at hw; cases hw
  have hp : ¬ isPut takeW := notPut (.inl rfl)
  exact ⟨SwI.not (by unfold Swp takeW; simp) _, ⟨fun e => absurd e hp, fun e => by cases e⟩, fun e => absurd e hp⟩
theorem LO.begin_shed (h : LO cap r M ws sg nx pt i) (hf : Free0 ws) : LO cap r M (updW ws 0 shedW) sg nx false (i + 1) := by
  obtain ⟨A, Q, N, c, o, a, hn⟩ := h.ow
  rw [hand_free hf] at a
  refine ⟨⟨A, Q, N, c, o.shed hf, by rw [updW_same]; exact a, by omega⟩, fun w hw hd => ?_, h.n1, by have := h.ni; omega, h.st⟩
  rw [updW_same] at hw; cases hw
  have hp : ¬ isPut shedW := notPut (.inr (.inr (.inr (.inl rfl))))
  exact ⟨SwI.not (by unfold Swp shedW; simp) _, ⟨fun e => absurd e hp, fun e => by cases e⟩, fun e => absurd e hp⟩
theorem LO.begin_put (h : LO cap r M ws sg nx pt i) (hf : Free0 ws) {l : Nat} (pin : Bool) (hl : l < 8) (hi : i < 1000) : LO cap r M (updW ws 0 (putW r nx l pin)) (updS sg nx 1) (nx + 1) true (i + 1) := by
  obtain ⟨A, Q, N, c, o, a, hn⟩ := h.ow
  rw [hand_free hf, List.append_nil] at a
  obtain ⟨A', o'⟩ := o.put hf pin hl (x := nx) (by have := h.ni; omega)
  refine ⟨⟨A', Q, N, c, o', by rw [updW_same]; exact a.add h.n1, by omega⟩, fun w hw hd => ?_, by omega, by have := h.ni; omega, fun y => ?_⟩
  · rw [updW_same] at hw; cases hw
    have hp : isPut (putW r nx l pin) := .inl rfl
    exact ⟨SwI.not (by unfold Swp putW; simp) _, ⟨fun _ => rfl, fun _ => hp⟩, fun _ => rfl⟩
  · unfold updS; split
    · exact .inr (.inl rfl)
    · exact h.st y
/-- How words stand behind what a work told. -/
def goesF (sg : Nat → Nat) (x : Nat) (e : Int) (put : Bool) : Nat → Nat :=
  if e = 14 ∨ (put = true ∧ e = 0) ∨ (put = false ∧ e ≠ 0) then sg else updS sg x (if put = true then 0 else 2)
/-- A thief's round. -/
theorem LO.thief (h : LO cap r M ws sg nx pt i) (hi : i < 1000) {j : Nat} (j1 : 1 ≤ j) (j4 : j < 4) {w : RWork} (hw : ws j = some w) (hd : w.done = false) (good : Nat → Bool) (hg : ∀ x, good x = true) (u : Nat) :
    (stepR good r w M u).1 = r ∧ LO cap r (stepR good r w M u).2.2.1 (updW ws j (stepR good r w M u).2.1) (goesF sg (resR (stepR good r w M u).2.1).1 (resR (stepR good r w M u).2.1).2.2 false) nx pt (i + 1) ∧
      ((resR (stepR good r w M u).2.1).2.2 = 0 → sg (resR (stepR good r w M u).2.1).1 = 1 ∧ 1 ≤ (resR (stepR good r w M u).2.1).1 ∧ (resR (stepR good r w M u).2.1).1 < nx) := by
  obtain ⟨A, Q, N, c, o, a, hn⟩ := h.ow
  have e0 : ∀ w', updW ws j w' 0 = ws 0 := fun w' => updW_other _ _ (by omega)
  have htop := o.thief_tops j1 j4 hw hd good hg u
  obtain ⟨hr, A', Q', c', o', hh⟩ := o.thief (by omega) j1 j4 hw hd good hg u
  have SWN : ∀ w0, updW ws j (stepR good r w M u).2.1 0 = some w0 → w0.done = false → SwI cap (stepR good r w M u).2.2.1 w0 (i + 1) ∧ (isPut w0 ↔ pt = true) ∧ (isPut w0 → w0.x + 1 = nx) := by
    intro w0 hw0 hd0
    rw [e0] at hw0
    obtain ⟨s1, s2, s3⟩ := h.sw w0 hw0 hd0
    have O := o.own w0 hw0 hd0
    exact ⟨s1.grow (by omega) O.fr o.q.small O.level htop, s2, s3⟩
  rcases hh with ⟨q1, q2⟩ | ⟨q1, q2⟩
  · have eg : goesF sg (resR (stepR good r w M u).2.1).1 (resR (stepR good r w M u).2.1).2.2 false = sg := by unfold goesF; rw [if_pos (.inr (.inr ⟨rfl, q1⟩))]
    rw [eg]
    exact ⟨hr, ⟨⟨A', Q', N, c', o', by rw [e0]; exact a.perm (q2.symm.append_right _), by omega⟩, SWN, h.n1, by have := h.ni; omega, h.st⟩, fun e => absurd e q1⟩
  · have eg : goesF sg (resR (stepR good r w M u).2.1).1 (resR (stepR good r w M u).2.1).2.2 false = updS sg (resR (stepR good r w M u).2.1).1 2 := by unfold goesF; rw [if_neg (by rw [q1]; simp)]; rfl
    rw [eg]
    obtain ⟨a2, hx⟩ := a.drop (x := (resR (stepR good r w M u).2.1).1) (T' := allQ Q' ++ handO (ws 0)) (v := 2) ((q2.append_right (handO (ws 0))).trans (by simp)) (by omega)
    refine ⟨hr, ⟨⟨A', Q', N, c', o', by rw [e0]; exact a2, by omega⟩, SWN, h.n1, by have := h.ni; omega, fun y => ?_⟩, fun _ => ⟨hx, a.rng _ hx⟩⟩
    unfold updS; split
    · exact .inr (.inr rfl)
    · exact h.st y
/-- An owner's round. px: the word that the law looks at. -/
theorem LO.owner (h : LO cap r M ws sg nx pt i) (hi : i < 20000) {w : RWork} (hw : ws 0 = some w) (hd : w.done = false) (good : Nat → Bool) (hg : ∀ x, good x = true) (u : Nat) :
    LO cap (stepR good r w M u).1 (stepR good r w M u).2.2.1 (updW ws 0 (stepR good r w M u).2.1) (goesF sg (if pt = true then nx - 1 else (resR (stepR good r w M u).2.1).1) (resR (stepR good r w M u).2.1).2.2 pt) nx pt (i + 1) ∧
      (¬ ((resR (stepR good r w M u).2.1).2.2 = 14 ∨ (pt = true ∧ (resR (stepR good r w M u).2.1).2.2 = 0) ∨ (pt = false ∧ (resR (stepR good r w M u).2.1).2.2 ≠ 0)) → sg (if pt = true then nx - 1 else (resR (stepR good r w M u).2.1).1) = 1 ∧ 1 ≤ (if pt = true then nx - 1 else (resR (stepR good r w M u).2.1).1) ∧ (if pt = true then nx - 1 else (resR (stepR good r w M u).2.1).1) < nx) ∧
      ((stepR good r w M u).2.1.done = true ∨ mu cap (stepR good r w M u).2.2.1 (stepR good r w M u).2.1 < mu cap M w) := by
  obtain ⟨A, Q, N, c, o, a, hn⟩ := h.ow
  obtain ⟨s1, s2, s3⟩ := h.sw w hw hd
  have hmu := o.own_mu (by omega) hw hd good hg u (by omega) s1
  obtain ⟨A', Q', N', c', n1, o', i1, i2, hh⟩ := o.owner (by omega) hw hd good hg u
  have hha : handO (ws 0) = handW w := by rw [hw]; rfl
  rw [hha] at a
  have SWN : ∀ w0, updW ws 0 (stepR good r w M u).2.1 0 = some w0 → w0.done = false → SwI cap (stepR good r w M u).2.2.1 w0 (i + 1) ∧ (isPut w0 ↔ pt = true) ∧ (isPut w0 → w0.x + 1 = nx) := by
    intro w0 hw0 hd0
    rw [updW_same] at hw0; cases hw0
    rcases hmu with q | ⟨q, _⟩
    · rw [q] at hd0; cases hd0
    · exact ⟨q, (i1 hd0).trans s2, fun e => by rw [i2 ((i1 hd0).1 e)]; exact s3 ((i1 hd0).1 e)⟩
  have MU : (stepR good r w M u).2.1.done = true ∨ mu cap (stepR good r w M u).2.2.1 (stepR good r w M u).2.1 < mu cap M w := hmu.imp id (fun q => q.2)
  have hdone : ∀ {w' : RWork}, w'.done = true → handW w' = [] := fun e => by unfold handW; rw [if_pos (.inl e)]
  generalize stepR good r w M u = s at o' i1 i2 hh SWN MU ⊢
  have hnx := h.ni
  rcases hh with ⟨q1, q2⟩ | ⟨q1, q2, q3, q4⟩ | ⟨q1, q2, q3, q4⟩ | ⟨q1, q2, q3, q4⟩ | ⟨q1, q2, q3, q3', q4⟩
  · have er : (resR s.2.1).2.2 = 14 := by rw [resR_not q1]
    rw [er]
    have eg : ∀ x, goesF sg x 14 pt = sg := fun x => by unfold goesF; rw [if_pos (.inl rfl)]
    rw [eg]
    exact ⟨⟨⟨A', Q', N', c', o', by rw [updW_same]; exact a.perm q2, by omega⟩, SWN, h.n1, by omega, h.st⟩, fun e => absurd (.inl rfl) e, MU⟩
  · have hp := s2.1 q2
    subst hp
    have er : (resR s.2.1).2.2 = 0 := by rw [resR_ok q1 q3]
    rw [er]
    have eg : ∀ x, goesF sg x 0 true = sg := fun x => by unfold goesF; rw [if_pos (.inr (.inl ⟨rfl, rfl⟩))]
    rw [eg]
    refine ⟨⟨⟨A', Q', N', c', o', ?_, by omega⟩, SWN, h.n1, by omega, h.st⟩, fun e => absurd (.inr (.inl ⟨rfl, rfl⟩)) e, MU⟩
    rw [updW_same]
    show Acc (allQ Q' ++ handW s.2.1) sg nx
    rw [hdone q1, List.append_nil]
    exact a.perm q4
  · have hp := s2.1 q2
    subst hp
    have er : (resR s.2.1).2.2 = 6 := by rw [resR_err q1 (by rw [q3]; decide)]; exact q3
    rw [er, if_pos rfl]
    have hx : nx - 1 = w.x := by have := s3 q2; omega
    rw [hx]
    have eg : goesF sg w.x 6 true = updS sg w.x 0 := by unfold goesF; rw [if_neg (by simp)]; rfl
    rw [eg]
    obtain ⟨a2, hxx⟩ := a.drop (x := w.x) (T' := allQ Q') (v := 0) q4 (by omega)
    refine ⟨⟨⟨A', Q', N', c', o', ?_, by omega⟩, SWN, h.n1, by omega, fun y => ?_⟩, fun _ => ⟨hxx, a.rng _ hxx⟩, MU⟩
    · rw [updW_same]
      show Acc (allQ Q' ++ handW s.2.1) _ nx
      rw [hdone q1, List.append_nil]
      exact a2
    · unfold updS; split
      · exact .inl rfl
      · exact h.st y
  · have hp : pt = false := by cases hq : pt; rfl; exact absurd (s2.2 hq) q2
    subst hp
    have er : resR s.2.1 = (s.2.1.x, (s.2.1.level : Int), 0) := resR_ok q1 q3
    rw [er]
    simp only [Bool.false_eq_true, if_false]
    have eg : goesF sg s.2.1.x 0 false = updS sg s.2.1.x 2 := by unfold goesF; rw [if_neg (by simp)]; rfl
    rw [eg]
    obtain ⟨a2, hxx⟩ := a.drop (x := s.2.1.x) (T' := allQ Q') (v := 2) q4 (by omega)
    refine ⟨⟨⟨A', Q', N', c', o', ?_, by omega⟩, SWN, h.n1, by omega, fun y => ?_⟩, fun _ => ⟨hxx, a.rng _ hxx⟩, MU⟩
    · rw [updW_same]
      show Acc (allQ Q' ++ handW s.2.1) _ nx
      rw [hdone q1, List.append_nil]
      exact a2
    · unfold updS; split
      · exact .inr (.inr rfl)
      · exact h.st y
  · have hp : pt = false := by cases hq : pt; rfl; exact absurd (s2.2 hq) q2
    subst hp
    have er : (resR s.2.1).2.2 = s.2.1.err := by rw [resR_err q1 q3]
    rw [er]
    have eg : ∀ x, goesF sg x s.2.1.err false = sg := fun x => by unfold goesF; rw [if_pos (.inr (.inr ⟨rfl, q3⟩))]
    rw [eg]
    refine ⟨⟨⟨A', Q', N', c', o', ?_, by omega⟩, SWN, h.n1, by omega, h.st⟩, fun e => absurd (.inr (.inr ⟨rfl, q3⟩)) e, MU⟩
    rw [updW_same]
    show Acc (allQ Q' ++ handW s.2.1) sg nx
    rw [hdone q1, List.append_nil]
    exact a.perm q4
/-- What is left is what the law says. -/
theorem LO.left (h : LO cap r M ws sg nx pt i) (hi : i < 20000) (hf : Free0 ws) : (allTo16 r M 16).Nodup ∧ (∀ y, y ∈ allTo16 r M 16 ↔ sg y = 1) ∧ (∀ y, sg y = 1 → 1 ≤ y ∧ y < nx) := by
  obtain ⟨A, Q, N, c, o, a, hn⟩ := h.ow
  rw [hand_free hf, List.append_nil] at a
  have hcp := o.cp
  subst hcp
  have e : allTo16 r M 16 = allQ Q := by
    unfold allTo16 allQ
    rw [List.flatMap_def, List.flatMap_def]
    congr 1
    refine List.map_congr_left fun c hc => ?_
    have hc := List.mem_range.1 hc
    rw [bas_at o.base]
    exact o.q.all (by omega) (by omega) (by omega) (o.idle_free hf _ _ (by omega) (by omega))
  rw [e]
  exact ⟨a.nodup, a.mem, a.rng⟩
end
end Bosun

/- rack: RackOnce, plainly: a work of the owner to its end. No program in sight. -/
namespace Bosun
open Go
/-- No work tells 14 of itself, when it is done. -/
def NE (w : RWork) : Prop := w.err ≠ 14 ∧ ∀ o, w.op = some o → o.err ≠ 14
theorem stepD_err {o : DOp} (W : List Nat) (u : Nat) (h : o.err ≠ 14) : (stepD o W u).1.err ≠ 14 := by
  obtain ⟨base, cap, kind, steps, b, t, x, won, done, err⟩ := o
  simp only at h
  unfold stepD
  dsimp only
  split
  · exact h
  · split <;> (try exact h) <;> (try (show (0 : Int) ≠ 14; decide)) <;> (split <;> first | exact h | (show (6 : Int) ≠ 14; decide) | (show (7 : Int) ≠ 14; decide) | (show (8 : Int) ≠ 14; decide) | (show (0 : Int) ≠ 14; decide) | (split <;> first | exact h | (show (0 : Int) ≠ 14; decide)) | skip)
theorem resD_ne {o : DOp} (hd : o.done = true) (h : o.err ≠ 14) : (resD o).2 ≠ 14 := by
  unfold resD
  rw [if_neg (by rw [hd]; simp)]
  split
  · exact h
  · show (0 : Int) ≠ 14; decide
theorem stepR_ne (good : Nat → Bool) (r : RRack) (w : RWork) (M : List Nat) (u : Nat) (h : NE w) : NE (stepR good r w M u).2.1 ∧ (stepR good r w M u).2.1.steps ≤ w.steps + 1 := by
  unfold stepR
  split
  · exact ⟨h, Nat.le_succ _⟩
  obtain ⟨o, ho⟩ : ∃ o, o = w.op.getD (newD 0 1 0 0) := ⟨_, rfl⟩
  have e : o.err ≠ 14 := by
    rw [ho]
    cases hw : w.op with
    | none => show (0 : Int) ≠ 14; decide
    | some o => exact h.2 o hw
  obtain ⟨s, hs⟩ : ∃ s, s = stepD o M u := ⟨_, rfl⟩
  have e1 : s.1.err ≠ 14 := by rw [hs]; exact stepD_err M u e
  have e2 : s.1.done = true → (resD s.1).2 ≠ 14 := fun hd => resD_ne hd e1
  obtain ⟨h1, h2⟩ := h
  have e3 : ∀ o', some s.1 = some o' → o'.err ≠ 14 := fun o' q => by cases q; exact e1
  have n0 : ∀ (a : Int) (b c d : Nat) o', some (newD a b c d) = some o' → o'.err ≠ 14 := fun a b c d o' q => by cases q; show (0 : Int) ≠ 14; decide
  obtain ⟨next, x, level, kind, op, from_, swept, full, holds, there, sheds, steps, done, err⟩ := w
  unfold phaseR opR NE
  dsimp only at *
  rw [← ho]
  simp only [← hs]
  have N0 : (0 : Int) ≠ 14 := by decide
  have N6 : (6 : Int) ≠ 14 := by decide
  have N7 : (7 : Int) ≠ 14 := by decide
  have N8 : (8 : Int) ≠ 14 := by decide
  have N10 : (10 : Int) ≠ 14 := by decide
  cases next <;> dsimp only
  case taking =>
    split
    · exact ⟨⟨h1, e3⟩, Nat.le_refl _⟩
    · rename_i hd
      split
      · exact ⟨⟨e2 (by simpa using hd), e3⟩, Nat.le_refl _⟩
      · split
        · exact ⟨⟨h1, e3⟩, Nat.le_refl _⟩
        · exact ⟨⟨N8, e3⟩, Nat.le_refl _⟩
  case robbing =>
    split
    · rename_i hd; exact ⟨⟨e2 hd, e3⟩, Nat.le_refl _⟩
    · split <;> exact ⟨⟨h1, e3⟩, Nat.le_refl _⟩
  case popping =>
    split
    · rename_i hd; exact ⟨⟨e2 hd, e3⟩, Nat.le_refl _⟩
    · exact ⟨⟨h1, e3⟩, Nat.le_refl _⟩
  all_goals (repeat' split)
  all_goals first
    | exact ⟨⟨h1, e3⟩, Nat.le_refl _⟩
    | exact ⟨⟨h1, h2⟩, Nat.le_refl _⟩
    | exact ⟨⟨h1, n0 _ _ _ _⟩, Nat.le_refl _⟩
    | exact ⟨⟨N0, e3⟩, Nat.le_refl _⟩
    | exact ⟨⟨N0, h2⟩, Nat.le_refl _⟩
    | exact ⟨⟨N6, e3⟩, Nat.le_refl _⟩
    | exact ⟨⟨N7, h2⟩, Nat.le_refl _⟩
    | exact ⟨⟨N8, h2⟩, Nat.le_refl _⟩
    | exact ⟨⟨N8, e3⟩, Nat.le_refl _⟩
    | exact ⟨⟨N10, h2⟩, Nat.le_refl _⟩
theorem res14 {w : RWork} (h : NE w) : (resR w).2.2 = 14 ↔ w.done = false := by
  cases hd : w.done with
  | false => rw [resR_not hd]; simp
  | true =>
    unfold resR
    rw [if_neg (by rw [hd]; simp)]
    split
    · exact Iff.intro (fun e => absurd e h.1) (fun e => absurd e (by simp))
    · exact Iff.intro (fun e => absurd e (by show ¬ (0 : Int) = 14; decide)) (fun e => absurd e (by simp))
section
variable {cap : Nat} {A : AAs} {Q : Nat → Nat → List Nat} {w : RWork}
theorem OwnR.fit (h : OwnR cap A Q w) : Fit w := by
  refine ⟨h.x, h.fr, h.sw, fun hn => ?_, fun hn => ?_, fun hn => ?_, fun hn => ?_, fun hn => (h.wo hn).2.2⟩
  · rcases hn with hn | hn
    · obtain ⟨_, _, o, ho, _⟩ := h.pu hn; exact ⟨o, ho.1, ho.2.1, ho.2.2.1⟩
    · obtain ⟨_, _, _, o, ho, _⟩ := h.ag hn; exact ⟨o, ho.1, ho.2.1, ho.2.2.1⟩
  · rcases hn with hn | hn | hn | hn
    · obtain ⟨_, _, o, ho⟩ := h.sw_ hn; exact ⟨o, ho.1, ho.2.1, ho.2.2.1⟩
    · obtain ⟨_, o, ho⟩ := h.ta hn; exact ⟨o, ho.1, ho.2.1, ho.2.2.1⟩
    · have := h.nx; unfold isPut at this; simp [hn] at this
    · have := h.nx; unfold isPut at this; simp [hn] at this
  · have := h.nx; unfold isPut at this; simp [hn] at this
  · obtain ⟨_, o, ho⟩ := h.po hn; exact ⟨o, ho.1, ho.2.1, ho.2.2.1⟩
theorem OwnR.asks (h : OwnR cap A Q w) (ha : Asks w) : isPut w := by
  rcases ha with hn | hn
  · exact .inr (.inr (.inr (.inl hn)))
  · have := h.nx; unfold isPut at this; simp [hn] at this
theorem ThfR.fit {j : Nat} (h : ThfR cap A j w) : Fit w := by
  refine ⟨h.x, h.fr, h.sw, fun hn => ?_, fun hn => ?_, h.mi, fun hn => ?_, fun hn => ?_⟩
  · have := h.nx; rcases hn with hn | hn <;> simp [hn] at this
  · rcases hn with hn | hn | hn | hn
    · have := h.nx; simp [hn] at this
    · have := h.nx; simp [hn] at this
    · obtain ⟨o, ho⟩ := h.ro (.inl hn); exact ⟨o, ho.1, ho.2.1, ho.2.2.1⟩
    · obtain ⟨o, ho⟩ := h.ro (.inr hn); exact ⟨o, ho.1, ho.2.1, ho.2.2.1⟩
  · have := h.nx; simp [hn] at this
  · have := h.nx; simp [hn] at this
theorem mu_le {M : List Nat} {i : Nat} (hc : cap ≤ 256) (h : SwI cap M w i) : mu cap M w ≤ 5206 := by
  unfold mu
  dsimp only
  have hd : Swp w → (dist cap M w).toNat ≤ 256 := fun e => by have := (h.full e).2.2; omega
  have hs : w.next = .sweeping → (dist cap M w).toNat ≤ 256 := fun e => hd (.inl e)
  have ha : w.next = .asking → (dist cap M w).toNat ≤ 256 := fun e => hd (.inr (.inl e))
  have hg : w.next = .again → (dist cap M w).toNat ≤ 256 := fun e => hd (.inr (.inr e))
  generalize (dist cap M w).toNat = d at hs ha hg ⊢
  cases hn : w.next <;> dsimp only
  case sweeping => have := hs hn; split <;> omega
  case asking => have := ha hn; omega
  case again => have := hg hn; omega
  case pushing => split <;> omega
  all_goals omega
end
section
variable {cap : Nat} {r : RRack} {M : List Nat} {ws : Nat → Option RWork} {sg : Nat → Nat} {nx : Nat} {pt : Bool} {i : Nat}
theorem LO.fit0 (h : LO cap r M ws sg nx pt i) {w : RWork} (hw : ws 0 = some w) (hd : w.done = false) : Fit w ∧ (Asks w → pt = true) := by
  obtain ⟨A, Q, N, c, o, a, hn⟩ := h.ow
  have O := o.own w hw hd
  exact ⟨O.fit, fun ha => (h.sw w hw hd).2.1.1 (O.asks ha)⟩
theorem LO.fitJ (h : LO cap r M ws sg nx pt i) {j : Nat} (j1 : 1 ≤ j) (j4 : j < 4) {w : RWork} (hw : ws j = some w) (hd : w.done = false) : Fit w := by
  obtain ⟨A, Q, N, c, o, a, hn⟩ := h.ow
  exact (o.thf j j1 j4 w hw hd).fit
theorem LO.cap256 (h : LO cap r M ws sg nx pt i) : cap ≤ 256 ∧ 0 < cap := by
  obtain ⟨A, Q, N, c, o, a, hn⟩ := h.ow
  exact ⟨o.q.pw.le.2, o.q.pw.le.1⟩
/-- How the law looks at what a work told. -/
def pxOf (pt : Bool) (nx : Nat) (w : RWork) : Nat := if pt = true then nx - 1 else (resR w).1
def Tells (sg : Nat → Nat) (nx : Nat) (x : Nat) (e : Int) (put : Bool) : Prop := ¬ (e = 14 ∨ (put = true ∧ e = 0) ∨ (put = false ∧ e ≠ 0)) → sg x = 1 ∧ 1 ≤ x ∧ x < nx
theorem LO.whole (good : Nat → Bool) (hg : ∀ x, good x = true) : ∀ (m : Nat) (r : RRack) (w : RWork) (M : List Nat) (u : Nat) (ws : Nat → Option RWork) (i : Nat), LO cap r M ws sg nx pt i → ws 0 = some w → w.done = false → NE w → w.steps + m < 1000000 → mu cap M w ≤ m → i + m < 19000 →
    ∃ n, n ≤ m + 1 ∧ (itR good n (r, w, M, u)).2.1.done = true ∧ NE (itR good n (r, w, M, u)).2.1 ∧ (∀ k, k < n → (itR good k (r, w, M, u)).2.1.done = false → (itR good k (r, w, M, u)).2.1.steps < 1000000 ∧ Fit (itR good k (r, w, M, u)).2.1 ∧ (Asks (itR good k (r, w, M, u)).2.1 → pt = true)) ∧
      LO cap (itR good n (r, w, M, u)).1 (itR good n (r, w, M, u)).2.2.1 (updW ws 0 (itR good n (r, w, M, u)).2.1) (goesF sg (pxOf pt nx (itR good n (r, w, M, u)).2.1) (resR (itR good n (r, w, M, u)).2.1).2.2 pt) nx pt (i + n) ∧
      Tells sg nx (pxOf pt nx (itR good n (r, w, M, u)).2.1) (resR (itR good n (r, w, M, u)).2.1).2.2 pt := by
  intro m
  induction m with
  | zero =>
    intro r w M u ws i h hw hd hne hst hmu hi
    obtain ⟨l1, l2, l3⟩ := h.owner (by omega) hw hd good hg u
    have hn := (stepR_ne good r w M u hne).1
    refine ⟨1, by omega, ?_, hn, fun k hk _ => ?_, l1, l2⟩
    · rcases l3 with q | q
      · exact q
      · omega
    · obtain rfl : k = 0 := by omega
      exact ⟨by show w.steps < _; omega, h.fit0 hw hd⟩
  | succ m ih =>
    intro r w M u ws i h hw hd hne hst hmu hi
    obtain ⟨l1, l2, l3⟩ := h.owner (by omega) hw hd good hg u
    obtain ⟨hn, hs⟩ := stepR_ne good r w M u hne
    have h0 : w.steps < 1000000 ∧ Fit w ∧ (Asks w → pt = true) := ⟨by omega, h.fit0 hw hd⟩
    cases hd1 : (stepR good r w M u).2.1.done with
    | true =>
      refine ⟨1, by omega, hd1, hn, fun k hk _ => ?_, l1, l2⟩
      obtain rfl : k = 0 := by omega
      exact h0
    | false =>
      have hlt : mu cap (stepR good r w M u).2.2.1 (stepR good r w M u).2.1 < mu cap M w := by
        rcases l3 with q | q
        · rw [hd1] at q; cases q
        · exact q
      have e14 : (resR (stepR good r w M u).2.1).2.2 = 14 := by rw [resR_not hd1]
      have eg : ∀ x, goesF sg x 14 pt = sg := fun x => by unfold goesF; rw [if_pos (.inl rfl)]
      rw [e14, eg] at l1
      obtain ⟨n, n1, n2, n3, n4, n5, n6⟩ := ih (stepR good r w M u).1 (stepR good r w M u).2.1 (stepR good r w M u).2.2.1 (stepR good r w M u).2.2.2 (updW ws 0 (stepR good r w M u).2.1) (i + 1) l1 (updW_same _ _ _) hd1 hn (by omega) (by omega) (by omega)
      rw [updW_twice] at n5
      refine ⟨n + 1, by omega, n2, n3, fun k hk hkd => ?_, ?_, n6⟩
      · cases k with
        | zero => exact h0
        | succ k => exact n4 k (by omega) hkd
      · rw [show i + (n + 1) = i + 1 + n by omega]; exact n5
/-- What the law looks at, one word after the other. -/
def markL (sg : Nat → Nat) : List Nat → Nat → Nat
  | [] => sg
  | y :: l => markL (updS sg y 3) l
theorem markL_app (sg : Nat → Nat) (l : List Nat) (y : Nat) : markL sg (l ++ [y]) = updS (markL sg l) y 3 := by
  induction l generalizing sg with
  | nil => rfl
  | cons a l ih => exact ih _
theorem markL_get (l : List Nat) : ∀ (sg : Nat → Nat) (x : Nat), markL sg l x = if x ∈ l then 3 else sg x := by
  induction l with
  | nil => intro sg x; rfl
  | cons a l ih =>
    intro sg x
    show markL (updS sg a 3) l x = _
    rw [ih]
    by_cases h1 : x ∈ l
    · rw [if_pos h1, if_pos (List.mem_cons_of_mem _ h1)]
    · rw [if_neg h1]
      unfold updS
      by_cases h2 : x = a
      · subst h2; rw [if_pos rfl, if_pos (by simp)]
      · rw [if_neg h2, if_neg (by simp [h1, h2])]
theorem LO.start {cap : Nat} (hc : Pow2 cap) : LO cap ⟨0, cap, 0, 0, 0⟩ (List.replicate (1 + 16 * (2 + cap)) 0) (fun _ => none) (fun _ => 0) 1 false 0 := by
  have e : allQ (fun _ _ => []) = [] := rfl
  refine ⟨⟨fun _ _ _ => none, fun _ _ => [], 1, fun _ _ => false, ⟨rfl, rfl, ⟨by show 0 < 256; omega, by show 0 < 256; omega, by show 0 < 2; omega⟩, QS.zero hc, fun k l _ _ => .inl (.inl rfl), fun w h => (by cases h), fun j _ _ w h => (by cases h)⟩, ⟨?_, fun y => ?_, fun y h => (by cases h)⟩, by omega⟩, fun w h => (by cases h), by omega, by omega, fun y => .inl rfl⟩
  · rw [e]; exact List.nodup_nil
  · rw [e]; exact Iff.intro (fun h => by cases h) (fun h => by cases h)
end
end Bosun
