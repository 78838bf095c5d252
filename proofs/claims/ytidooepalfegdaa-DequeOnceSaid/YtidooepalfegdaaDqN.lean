/- What holds between two steps of the loop of DequeOnce: the memory, the works, the words that went. -/
import Derived.Test.YtidooepalfegdaaDqO3
import Derived.Test.YtidooepalfegdaaDqM
namespace Bosun
open Go
/-- A row of 200 truths. -/
def goneR (f : Nat → Bool) : Array Value := ((List.range 200).map fun i => Value.bool (f i)).toArray
theorem goneR_size (f : Nat → Bool) : (goneR f).size = 200 := by simp [goneR]
theorem goneR_get (f : Nat → Bool) {j : Nat} (h : j < 200) : (goneR f)[j]? = some (.bool (f j)) := by simp [goneR, h]
def updB (f : Nat → Bool) (k : Nat) : Nat → Bool := fun j => if j = k then true else f j
theorem goneR_set (f : Nat → Bool) (k : Nat) : (goneR f).setIfInBounds k (.bool true) = goneR (updB f k) := by
  apply Array.ext_getElem?
  intro i
  rw [Array.getElem?_setIfInBounds]
  by_cases hi : i < 200
  · rw [goneR_get _ hi, goneR_get _ hi, goneR_size]
    unfold updB
    by_cases e : k = i
    · subst e; rw [if_pos rfl, if_pos hi, if_pos rfl]
    · rw [if_neg e, if_neg (Ne.symm e)]
  · have h1 : (goneR f)[i]? = none := Array.getElem?_eq_none (by rw [goneR_size]; omega)
    have h2 : (goneR (updB f k))[i]? = none := Array.getElem?_eq_none (by rw [goneR_size]; omega)
    rw [h1, h2, goneR_size]
    by_cases e : k = i
    · rw [if_pos e, if_neg (by omega)]
    · rw [if_neg e]
theorem goneR_none : Array.replicate 200 (Value.bool false) = goneR (fun _ => false) := by
  apply Array.ext_getElem?
  intro i
  by_cases hi : i < 200
  · rw [goneR_get _ hi]; simp [hi]
  · rw [Array.getElem?_eq_none (by simp; omega), Array.getElem?_eq_none (by rw [goneR_size]; omega)]
theorem updB_prop (f : Nat → Bool) (k : Nat) : (fun y => f y = true ∨ y = k) = fun y => updB f k y = true := by
  funext y
  unfold updB
  by_cases e : y = k
  · simp [e]
  · simp [e]
/-- The start: nothing was pushed. -/
theorem St.zero {cap : Nat} (hc : Pow2 cap) : St 18446744073709551615 cap (List.replicate 260 0) (fun _ => none) [] 1 false := by
  have hn : num 18446744073709551615 1 = 0 := by unfold num; omega
  have hz : ∀ a, getA (List.replicate 260 0) a = 0 := fun a => by
    by_cases h : hasA (List.replicate 260 0) a = true
    · obtain ⟨h0, h1⟩ := hasA_iff.1 h
      obtain ⟨k, rfl⟩ := Int.eq_ofNat_of_zero_le h0
      rw [getA_yes (by omega), List.getElem_replicate]
    · have hf : hasA (List.replicate 260 0) a = false := by cases hq : hasA (List.replicate 260 0) a; rfl; exact absurd hq h
      exact getA_no hf
  refine ⟨1, 1, 1, 1, ⟨hc, by rw [List.length_replicate], Small.zeros 260, by omega, by omega, by omega, by omega, by omega, by omega, ?_, ?_, ?_, fun h => absurd rfl h, (fun o h => by cases h), (fun k _ o h => by cases h)⟩, (listOf_nil _ _ _ _).symm⟩
  · rw [hz, hn]
  · rw [hz]; simp only [Bool.false_eq_true, if_false]; exact hn.symm
  · exact ⟨(fun h => by cases h), (fun ⟨o, h, _⟩ => by cases h)⟩
end Bosun
namespace Go.Proofs.Ytidooepalfegdaa
open Go.RowKit Bosun
structure SO (w0 w : World) (lim bm bw db ab nb cap f : Nat) (A : Nat → Option DOp) (gb : Nat → Nat) (W : List Nat) (u : Nat) (L : List Nat) (N : Nat) (c mp : Bool) (p last : Nat) (gr : Nat → Bool) : Prop where
  mem : IsMem w bm bw W u
  d : Blk w db #[.int .i64 0, .int .i64 (cap : Nat)] 28
  arr : Blk w ab (ptrA A gb) 36
  gone : Blk w nb (goneR gr) 4
  ops : ∀ k, k < 6 → ∀ o, A k = some o → IsOp w (gb k) o ∧ OkOp o ∧ lim ≤ gb k
  apart : ∀ j k, j < 6 → k < 6 → j ≠ k → A j ≠ none → A k ≠ none → gb j ≠ gb k
  st : St f cap W A L N c
  gh : Gh L (fun y => gr y = true) p last
  pN : p < N
  own : ∀ o, A 0 = some o → o.done = false → (o.kind = 0 ∧ mp = true ∧ o.x = p + 1) ∨ (o.kind = 1 ∧ mp = false)
  low : bm < lim ∧ bw < lim ∧ db < lim ∧ ab < lim ∧ nb < lim
  lo : w0.heap.size ≤ bm ∧ w0.heap.size ≤ bw ∧ w0.heap.size ≤ db ∧ w0.heap.size ≤ ab ∧ w0.heap.size ≤ nb ∧ w0.heap.size ≤ lim
  size : lim ≤ w.heap.size
  chg : Chg [] w0 w
section
variable {w0 w : World} {lim bm bw db ab nb cap f : Nat} {A : Nat → Option DOp} {gb : Nat → Nat} {W : List Nat} {u : Nat} {L : List Nat} {N : Nat} {c mp : Bool} {p last : Nat} {gr : Nat → Bool}
theorem SO.keep {w' : World} (h : SO w0 w lim bm bw db ab nb cap f A gb W u L N c mp p last gr) (hc : Chg [] w w') : SO w0 w' lim bm bw db ab nb cap f A gb W u L N c mp p last gr :=
  { h with mem := h.mem.keep hc, d := h.d.chg hc (by simp), arr := h.arr.chg hc (by simp), gone := h.gone.chg hc (by simp), ops := fun k hk o ho => ⟨(h.ops k hk o ho).1.chg hc (by simp), (h.ops k hk o ho).2⟩, size := Nat.le_trans h.size hc.size, chg := h.chg.then hc (by simp) }
theorem SO.more (h : SO w0 w lim bm bw db ab nb cap f A gb W u L N c mp p last gr) : SO w0 w lim bm bw db ab nb cap f A gb W u L (N + 1) c mp p last gr := { h with st := h.st.up, pN := Nat.lt_succ_of_lt h.pN }
/-- The owner's next act is noted, none being under way. -/
theorem SO.mined (h : SO w0 w lim bm bw db ab nb cap f A gb W u L N c mp p last gr) (hA : A 0 = none ∨ ∃ o, A 0 = some o ∧ o.done = true) (mp' : Bool) : SO w0 w lim bm bw db ab nb cap f A gb W u L N c mp' p last gr :=
  have ho : ∀ o, A 0 = some o → o.done = false → (o.kind = 0 ∧ mp' = true ∧ o.x = p + 1) ∨ (o.kind = 1 ∧ mp' = false) := fun o ho hd => by
    rcases hA with e | ⟨o', e, e2⟩
    · rw [e] at ho; cases ho
    · rw [e] at ho; cases ho; rw [e2] at hd; cases hd
  { h with own := ho }
/-- A new work stands in the row. -/
theorem SO.new (h : SO w0 w lim bm bw db ab nb cap f A gb W u L N c mp p last gr) {k : Nat} (hk : k < 6) (hA : A k = none ∨ ∃ o, A k = some o ∧ o.done = true) {o : DOp} {g : Nat} {w1 w' : World} (hc : Chg [] w w1) (hg : w.heap.size ≤ g) (ho : IsOp w1 g o) (ok : OkOp o)
    (e1 : o.base = 0) (e2 : o.cap = cap) (e3 : if k = 0 then (o.kind = 0 ∧ mp = true ∧ o.x = p + 1) ∨ (o.kind = 1 ∧ mp = false) else o.kind = 2) (e4 : o.steps = 0) (e5 : o.done = false)
    (hw : w' = w1.setCell ⟨ab, k, none⟩ (.pointer (some ⟨g, 0, none⟩))) : SO w0 w' lim bm bw db ab nb cap f (updA A k o) (updG gb k g) W u L N c mp p last gr := by
  have h1 := h.keep hc
  have hs := h.size
  have lg := ho.lt
  have CS : Chg [ab] w1 w' := by rw [hw]; exact (Chg.refl _ _).setCell (.inl (by simp)) _
  have lo := h.lo
  have low := h.low
  have hall : ∀ j, j < 6 → ∀ o, A j = some o → gb j < w.heap.size := fun j hj o ho => (h.ops j hj o ho).1.lt
  refine ⟨h1.mem.chg CS (by simp; exact (blk_ne h1.mem.head h1.arr (by decide))) (by simp; exact (blk_ne h1.mem.row h1.arr (by decide))), h1.d.chg CS (by simp; exact blk_ne h1.d h1.arr (by decide)), ?_, h1.gone.chg CS (by simp; exact blk_ne h1.gone h1.arr (by decide)), ?_, ?_, ?_, h.gh, h.pN, ?_, h.low, h.lo, Nat.le_trans h1.size CS.size, h1.chg.then CS (fun g' hg' => .inr (by simp at hg'; omega))⟩
  · rw [hw, ← ptrA_set A gb hk o g]; exact h1.arr.setCell k _
  · intro j hj o' ho'
    by_cases e : j = k
    · subst e
      rw [updA_same] at ho'; cases ho'
      have : updG gb j g j = g := if_pos rfl
      rw [this]
      exact ⟨ho.chg CS (by simp; exact blk_ne ho h1.arr (by decide)), ok, by omega⟩
    · rw [updA_other A o e] at ho'
      have : updG gb k g j = gb j := if_neg e
      rw [this]
      obtain ⟨a1, a2, a3⟩ := h1.ops j hj o' ho'
      exact ⟨a1.chg CS (by simp; omega), a2, a3⟩
  · intro i j hi hj hne ai aj
    have gi : ∀ i, i < 6 → i ≠ k → updA A k o i ≠ none → updG gb k g i = gb i ∧ gb i < w.heap.size := fun i hi e ai => by
      rw [updA_other A o e] at ai
      refine ⟨if_neg e, ?_⟩
      cases ha : A i with
      | none => exact absurd ha ai
      | some o' => exact hall i hi o' ha
    by_cases ei : i = k
    · have ej : j ≠ k := fun e => hne (by rw [ei, e])
      obtain ⟨q1, q2⟩ := gi j hj ej aj
      rw [q1, ei, show updG gb k g k = g from if_pos rfl]; omega
    · obtain ⟨p1, p2⟩ := gi i hi ei ai
      by_cases ej : j = k
      · rw [p1, ej, show updG gb k g k = g from if_pos rfl]; omega
      · obtain ⟨q1, q2⟩ := gi j hj ej aj
        rw [p1, q1]
        exact h.apart i j hi hj hne (by rw [updA_other A o ei] at ai; exact ai) (by rw [updA_other A o ej] at aj; exact aj)
  · refine h.st.new hA o e1 e2 ?_ e4 e5
    by_cases k0 : k = 0
    · rw [if_pos k0] at e3 ⊢; rcases e3 with e | e <;> omega
    · rw [if_neg k0] at e3 ⊢; exact e3
  · intro o' ho' hd
    by_cases k0 : k = 0
    · subst k0
      rw [updA_same] at ho'; cases ho'
      rw [if_pos rfl] at e3; exact e3
    · rw [updA_other A o (Ne.symm k0)] at ho'
      exact h.own o' ho' hd
/-- Behind a step of a work. -/
theorem SO.next (h : SO w0 w lim bm bw db ab nb cap f A gb W u L N c mp p last gr) {k : Nat} (hk : k < 6) {o : DOp} (ho : A k = some o) (_hd : o.done = false) {o' : DOp} {W' : List Nat} {u' : Nat} {w1 w' : World} (hi : IsOp w1 (gb k) o') (ok' : OkOp o') (hm : IsMem w1 bm bw W' u') (hc : Chg [gb k, bm, bw] w w1)
    {L' : List Nat} {c' : Bool} {p' last' : Nat} {gr' : Nat → Bool} (hst : St f cap W' (updA A k o') L' (N + 1) c') (hgh : Gh L' (fun y => gr' y = true) p' last') (hp : p' < N + 1) (hown : k = 0 → o'.done = false → (o'.kind = 0 ∧ mp = true ∧ o'.x = p' + 1) ∨ (o'.kind = 1 ∧ mp = false)) (hpp : k ≠ 0 → p' = p)
    (hg : Blk w' nb (goneR gr') 4) (hc2 : Chg [nb] w1 w') : SO w0 w' lim bm bw db ab nb cap f (updA A k o') gb W' u' L' (N + 1) c' mp p' last' gr' := by
  obtain ⟨hi0, ok, hl⟩ := h.ops k hk o ho
  have lo := h.lo
  have low := h.low
  have n1 : ∀ g ∈ [gb k, bm, bw], g ≠ db ∧ g ≠ ab ∧ g ≠ nb := by
    intro g hg
    simp at hg
    rcases hg with rfl | rfl | rfl
    · exact ⟨by omega, by omega, by omega⟩
    · exact ⟨blk_ne h.mem.head h.d (by decide), blk_ne h.mem.head h.arr (by decide), blk_ne h.mem.head h.gone (by decide)⟩
    · exact ⟨blk_ne h.mem.row h.d (by decide), blk_ne h.mem.row h.arr (by decide), blk_ne h.mem.row h.gone (by decide)⟩
  have d1 := h.d.chg hc (fun hg => (n1 _ hg).1 rfl)
  have a1 := h.arr.chg hc (fun hg => (n1 _ hg).2.1 rfl)
  have hin : ∀ g, g ∈ [gb k, bm, bw] → g ∈ ([] : List Nat) ∨ w0.heap.size ≤ g := fun g hg => .inr (by simp at hg; omega)
  have nn : nb ≠ bm ∧ nb ≠ bw ∧ nb ≠ db ∧ nb ≠ ab := ⟨blk_ne h.gone h.mem.head (by decide), blk_ne h.gone h.mem.row (by decide), blk_ne h.gone h.d (by decide), blk_ne h.gone h.arr (by decide)⟩
  refine ⟨hm.chg hc2 (by simp; omega) (by simp; omega), d1.chg hc2 (by simp; omega), ?_, hg, ?_, ?_, hst, hgh, hp, ?_, h.low, h.lo, Nat.le_trans h.size (Nat.le_trans hc.size hc2.size), (h.chg.then hc hin).then hc2 (fun g hg => .inr (by simp at hg; omega))⟩
  · rw [ptrA_upd A gb o _ ho]; exact a1.chg hc2 (by simp; omega)
  · intro j hj o2 ho2
    by_cases e : j = k
    · subst e
      rw [updA_same] at ho2; cases ho2
      exact ⟨hi.chg hc2 (by simp; omega), ok', hl⟩
    · rw [updA_other A _ e] at ho2
      obtain ⟨a1, a2, a3⟩ := h.ops j hj o2 ho2
      have ne := h.apart j k hj hk e (by rw [ho2]; simp) (by rw [ho]; simp)
      exact ⟨(a1.chg hc (by simp; omega)).chg hc2 (by simp; omega), a2, a3⟩
  · intro i j hi hj hne ai aj
    have gi : ∀ i, updA A k o' i ≠ none → A i ≠ none := fun i ai => by
      by_cases e : i = k
      · rw [e, ho]; simp
      · rw [updA_other A _ e] at ai; exact ai
    exact h.apart i j hi hj hne (gi i ai) (gi j aj)
  · intro o2 ho2 hd2
    by_cases k0 : k = 0
    · subst k0
      rw [updA_same] at ho2; cases ho2
      exact hown rfl hd2
    · rw [updA_other A _ (Ne.symm k0)] at ho2
      rw [hpp k0]
      exact h.own o2 ho2 hd2
/-- What the step makes of the words. -/
theorem SO.what (hN : N < 1000000) (h : SO w0 w lim bm bw db ab nb cap f A gb W u L N c mp p last gr) {k : Nat} (hk : k < 6) {o : DOp} (ho : A k = some o) (hd : o.done = false) :
    ((resD (stepD o W u).1).2 ≠ 0 ∧ (k = 0 → (stepD o W u).1.done = false → ((stepD o W u).1.kind = 0 ∧ mp = true ∧ (stepD o W u).1.x = p + 1) ∨ ((stepD o W u).1.kind = 1 ∧ mp = false)) ∧ ∃ c', St f cap (stepD o W u).2.1 (updA A k (stepD o W u).1) L (N + 1) c') ∨
    ((resD (stepD o W u).1).2 = 0 ∧ k = 0 ∧ mp = true ∧ (stepD o W u).1.done = true ∧ ∃ L' c', St f cap (stepD o W u).2.1 (updA A k (stepD o W u).1) L' (N + 1) c' ∧ Gh L' (fun y => gr y = true) (p + 1) last) ∨
    ((resD (stepD o W u).1).2 = 0 ∧ (k = 0 → mp = false) ∧ (stepD o W u).1.done = true ∧ last < (resD (stepD o W u).1).1 ∧ (resD (stepD o W u).1).1 ≤ p ∧ gr (resD (stepD o W u).1).1 = false ∧ ∃ L' c', St f cap (stepD o W u).2.1 (updA A k (stepD o W u).1) L' (N + 1) c' ∧
      Gh L' (fun y => updB gr (resD (stepD o W u).1).1 y = true) p (if 0 < k then (resD (stepD o W u).1).1 else last)) := by
  obtain ⟨_, ok, _⟩ := h.ops k hk o ho
  have hdone : (resD (stepD o W u).1).2 = 0 → (stepD o W u).1.done = true := fun h1 => by
    cases e : (stepD o W u).1.done with
    | true => rfl
    | false => unfold resD at h1; rw [if_pos e] at h1; exact absurd h1 (by decide)
  rcases once_step h.st hN h.gh ho hd (ok.err hd) ok.x (mp := mp) (fun e => by subst e; exact h.own o ho hd) u with ⟨a, c2, b, _⟩ | ⟨a, b, c2, d, e⟩ | ⟨a, b, c2, d, e, L2, c3, g1, g2⟩
  · refine .inl ⟨a, fun k0 hd' => ?_, c2, b⟩
    subst k0
    have hkd := stepD_kind o W u
    rcases h.own o ho hd with ⟨q1, q2, q3⟩ | ⟨q1, q2⟩
    · refine .inl ⟨hkd.trans q1, q2, ?_⟩
      obtain ⟨_, hh⟩ := h.st.push hN ho q1 hd (ok.err hd) ok.x u
      rcases hh with ⟨_, h2, _⟩ | ⟨h1, _⟩ | ⟨h1, _⟩
      · rw [h2, q3]
      · rw [h1] at hd'; cases hd'
      · rw [h1] at hd'; cases hd'
    · exact .inr ⟨hkd.trans q1, q2⟩
  · exact .inr (.inl ⟨a, b, c2, d, e⟩)
  · refine .inr (.inr ⟨a, b, hdone a, c2, d, ?_, L2, c3, g1, ?_⟩)
    · cases hq : gr (resD (stepD o W u).1).1 with
      | false => rfl
      | true => exact absurd hq e
    · rw [← updB_prop]; exact g2
end
end Go.Proofs.Ytidooepalfegdaa
