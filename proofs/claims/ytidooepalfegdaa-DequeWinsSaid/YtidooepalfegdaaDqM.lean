/- What holds between two steps of the law's loop: the memory, the works, the shelf. -/
import Derived.Test.YtidooepalfegdaaDqSh4
import Derived.Test.YtidooepalfegdaaDqB
import Derived.Test.YtidooepalfegdaaStru
namespace Bosun
open Go
theorem stepD_kind (o : DOp) (W : List Nat) (u : Nat) : (stepD o W u).1.kind = o.kind := by
  obtain ⟨base, cap, kind, steps, b, t, x, won, done, err⟩ := o
  unfold stepD
  split
  · rfl
  · split <;> (try rfl) <;> (split <;> (try rfl) <;> (split <;> rfl))
theorem stepD_steps {o : DOp} (ok : OkOp o) (hd : o.done = false) (W : List Nat) (u : Nat) : (stepD o W u).1.steps = o.steps + 1 := by
  have hk := ok.kind
  have hst := ok.steps hd
  clear ok
  obtain ⟨base, cap, kind, steps, b, t, x, won, done, err⟩ := o
  simp only at hk hst hd
  subst hd
  rcases (show kind = 0 ∨ kind = 1 ∨ kind = 2 by omega) with rfl | rfl | rfl
  · have hst : steps < 4 := hst
    rcases (show steps = 0 ∨ steps = 1 ∨ steps = 2 ∨ steps = 3 by omega) with rfl | rfl | rfl | rfl
    · rfl
    · show (if (cap : Int) ≤ ahd b (getA W base) then _ else _ : DOp).steps = _; split <;> rfl
    · rfl
    · rfl
  · have hst : steps < 6 := hst
    rcases (show steps = 0 ∨ steps = 1 ∨ steps = 2 ∨ steps = 3 ∨ steps = 4 ∨ steps = 5 by omega) with rfl | rfl | rfl | rfl | rfl | rfl
    · rfl
    · rfl
    · rfl
    · show (if 0 < ahd t b then _ else _ : DOp × List Nat × Nat).1.steps = _
      split
      · rfl
      · show (if 0 < ahd b t then _ else _ : DOp).steps = _; split <;> rfl
    · rfl
    · rfl
  · have hst : steps < 4 := hst
    rcases (show steps = 0 ∨ steps = 1 ∨ steps = 2 ∨ steps = 3 by omega) with rfl | rfl | rfl | rfl
    · rfl
    · show (if ahd (getA W (base + 1)) t ≤ 0 then _ else _ : DOp).steps = _; split <;> rfl
    · rfl
    · rfl
/-- The cells of a row of works. -/
def ptrA (A : Nat → Option DOp) (gb : Nat → Nat) : Array Value := ((List.range 6).map fun k => Value.pointer (if (A k).isSome then some ⟨gb k, 0, none⟩ else none)).toArray
theorem ptrA_size (A : Nat → Option DOp) (gb : Nat → Nat) : (ptrA A gb).size = 6 := by simp [ptrA]
theorem ptrA_get (A : Nat → Option DOp) (gb : Nat → Nat) {k : Nat} (h : k < 6) : (ptrA A gb)[k]? = some (.pointer (if (A k).isSome then some ⟨gb k, 0, none⟩ else none)) := by simp [ptrA, h]
def updG (gb : Nat → Nat) (k g : Nat) : Nat → Nat := fun j => if j = k then g else gb j
theorem ptrA_set (A : Nat → Option DOp) (gb : Nat → Nat) {k : Nat} (_ : k < 6) (o : DOp) (g : Nat) : (ptrA A gb).setIfInBounds k (.pointer (some ⟨g, 0, none⟩)) = ptrA (updA A k o) (updG gb k g) := by
  apply Array.ext_getElem?
  intro i
  rw [Array.getElem?_setIfInBounds]
  by_cases hi : i < 6
  · rw [ptrA_get _ _ hi, ptrA_get _ _ hi, ptrA_size]
    by_cases e : k = i
    · subst e
      rw [if_pos rfl, if_pos hi, updA_same]
      simp [updG]
    · rw [if_neg e, updA_other A o (Ne.symm e)]
      simp [updG, Ne.symm e]
  · rw [if_neg (by omega), Array.getElem?_eq_none (by rw [ptrA_size]; omega), Array.getElem?_eq_none (by rw [ptrA_size]; omega)]
theorem ptrA_upd (A : Nat → Option DOp) (gb : Nat → Nat) {k : Nat} (o o' : DOp) (h : A k = some o) : ptrA (updA A k o') gb = ptrA A gb := by
  unfold ptrA
  congr 1
  refine List.map_congr_left fun j _ => ?_
  by_cases e : j = k
  · subst e; rw [updA_same, h]; rfl
  · rw [updA_other A o' e]
theorem ptrA_none (gb : Nat → Nat) : Array.replicate 6 (Value.pointer none) = ptrA (fun _ => none) gb := by
  apply Array.ext_getElem?
  intro i
  by_cases hi : i < 6
  · rw [ptrA_get _ _ hi]; simp [hi]
  · rw [Array.getElem?_eq_none (by simp; omega), Array.getElem?_eq_none (by rw [ptrA_size]; omega)]
end Bosun
namespace Go.Proofs.Ytidooepalfegdaa
open Go.RowKit Bosun
theorem blk_ne {w : World} {g g' : Nat} {cs cs' : Array Value} {t t' : TypeId} (h : Blk w g cs t) (h' : Blk w g' cs' t') (ht : t ≠ t') : g ≠ g' := by
  intro e
  subst e
  exact ht (h.inj h').2
structure SM (w0 w : World) (lim bm bw db mb ab sb cap f : Nat) (A : Nat → Option DOp) (gb : Nat → Nat) (W : List Nat) (u : Nat) (L : List Nat) (N : Nat) (c mp : Bool) (mx : Nat) : Prop where
  mem : IsMem w bm bw W u
  d : Blk w db #[.int .i64 0, .int .i64 (cap : Nat)] 28
  mine : ∃ who, Blk w mb #[.int .u8 who, .bool mp, .int .u64 (mx : Nat)] 35
  arr : Blk w ab (ptrA A gb) 36
  ops : ∀ k, k < 6 → ∀ o, A k = some o → IsOp w (gb k) o ∧ OkOp o ∧ lim ≤ gb k
  apart : ∀ j k, j < 6 → k < 6 → j ≠ k → A j ≠ none → A k ≠ none → gb j ≠ gb k
  sh : IsSh w sb lim (shOf cap L c)
  st : St f cap W A L N c
  own : ∀ o, A 0 = some o → o.done = false → (o.kind = 0 ∧ mp = true ∧ o.x = mx) ∨ (o.kind = 1 ∧ mp = false)
  low : bm < lim ∧ bw < lim ∧ db < lim ∧ mb < lim ∧ ab < lim ∧ sb < lim
  lo : w0.heap.size ≤ bm ∧ w0.heap.size ≤ bw ∧ w0.heap.size ≤ db ∧ w0.heap.size ≤ mb ∧ w0.heap.size ≤ ab ∧ w0.heap.size ≤ sb ∧ w0.heap.size ≤ lim
  size : lim ≤ w.heap.size
  chg : Chg [] w0 w
theorem IsSh.ne {w : World} {sb lim g : Nat} {s : Shf} {cs : Array Value} {t : TypeId} (h : IsSh w sb lim s) (hb : Blk w g cs t) (ht : t ≠ 86) : sb ≠ g := by
  obtain ⟨v, h1, _⟩ := h
  exact blk_ne h1 hb (Ne.symm ht)
section
variable {w0 w : World} {lim bm bw db mb ab sb cap f : Nat} {A : Nat → Option DOp} {gb : Nat → Nat} {W : List Nat} {u : Nat} {L : List Nat} {N : Nat} {c mp : Bool} {mx : Nat}
theorem SM.keep {w' : World} (h : SM w0 w lim bm bw db mb ab sb cap f A gb W u L N c mp mx) (hc : Chg [] w w') : SM w0 w' lim bm bw db mb ab sb cap f A gb W u L N c mp mx :=
  { h with mem := h.mem.keep hc, d := h.d.chg hc (by simp), mine := by obtain ⟨who, hm⟩ := h.mine; exact ⟨who, hm.chg hc (by simp)⟩, arr := h.arr.chg hc (by simp), ops := fun k hk o ho => ⟨(h.ops k hk o ho).1.chg hc (by simp), (h.ops k hk o ho).2⟩, sh := h.sh.keep hc, size := Nat.le_trans h.size hc.size, chg := h.chg.then hc (by simp) }
theorem SM.more (h : SM w0 w lim bm bw db mb ab sb cap f A gb W u L N c mp mx) : SM w0 w lim bm bw db mb ab sb cap f A gb W u L (N + 1) c mp mx := { h with st := h.st.more }
/-- A new work stands in the row. w1: behind its making; w': behind the store. -/
theorem SM.new (h : SM w0 w lim bm bw db mb ab sb cap f A gb W u L N c mp mx) {k : Nat} (hk : k < 6) (hA : A k = none ∨ ∃ o, A k = some o ∧ o.done = true) {o : DOp} {g : Nat} {w1 w' : World} (hc : Chg [] w w1) (hg : w.heap.size ≤ g) (ho : IsOp w1 g o) (ok : OkOp o)
    (e1 : o.base = 0) (e2 : o.cap = cap) (e3 : if k = 0 then (o.kind = 0 ∧ mp = true ∧ o.x = mx) ∨ (o.kind = 1 ∧ mp = false) else o.kind = 2) (e4 : o.steps = 0) (e5 : o.done = false)
    (hw : w' = w1.setCell ⟨ab, k, none⟩ (.pointer (some ⟨g, 0, none⟩))) : SM w0 w' lim bm bw db mb ab sb cap f (updA A k o) (updG gb k g) W u L N c mp mx := by
  have h1 := h.keep hc
  have hs := h.size
  have lg := ho.lt
  have CS : Chg [ab] w1 w' := by rw [hw]; exact (Chg.refl _ _).setCell (.inl (by simp)) _
  obtain ⟨who, hm⟩ := h1.mine
  have lo := h.lo
  have low := h.low
  have hall : ∀ j, j < 6 → ∀ o, A j = some o → gb j < w.heap.size := fun j hj o ho => (h.ops j hj o ho).1.lt
  refine ⟨h1.mem.chg CS (by simp; exact (blk_ne h1.mem.head h1.arr (by decide))) (by simp; exact (blk_ne h1.mem.row h1.arr (by decide))), h1.d.chg CS (by simp; exact blk_ne h1.d h1.arr (by decide)), ⟨who, hm.chg CS (by simp; exact blk_ne hm h1.arr (by decide))⟩, ?_, ?_, ?_, ?_, ?_, ?_, h.low, h.lo, Nat.le_trans h1.size CS.size, h1.chg.then CS (fun g' hg' => .inr (by simp at hg'; omega))⟩
  · rw [hw, ← ptrA_set A gb hk o g]; exact h1.arr.setCell k _
  · intro j hj o' ho'
    by_cases e : j = k
    · subst e
      rw [updA_same] at ho'; cases ho'
      have : updG gb j g j = g := if_pos rfl
      rw [this]
      exact ⟨ho.chg CS (by simp; exact blk_ne ho h1.arr (by decide)), ok, by omega⟩
    · rw [updA_other A o e] at ho'
      have : updG gb k g j = gb j := if_neg e
      rw [this]
      obtain ⟨a1, a2, a3⟩ := h1.ops j hj o' ho'
      exact ⟨a1.chg CS (by simp; omega), a2, a3⟩
  · intro i j hi hj hne ai aj
    have gi : ∀ i, i < 6 → i ≠ k → updA A k o i ≠ none → updG gb k g i = gb i ∧ gb i < w.heap.size := fun i hi e ai => by
      rw [updA_other A o e] at ai
      refine ⟨if_neg e, ?_⟩
      cases ha : A i with
      | none => exact absurd ha ai
      | some o' => exact hall i hi o' ha
    by_cases ei : i = k
    · have ej : j ≠ k := fun e => hne (by rw [ei, e])
      obtain ⟨q1, q2⟩ := gi j hj ej aj
      rw [q1, ei, show updG gb k g k = g from if_pos rfl]; omega
    · obtain ⟨p1, p2⟩ := gi i hi ei ai
      by_cases ej : j = k
      · rw [p1, ej, show updG gb k g k = g from if_pos rfl]; omega
      · obtain ⟨q1, q2⟩ := gi j hj ej aj
        rw [p1, q1]
        exact h.apart i j hi hj hne (by rw [updA_other A o ei] at ai; exact ai) (by rw [updA_other A o ej] at aj; exact aj)
  · exact h1.sh.chg CS (by simp; exact h1.sh.ne h1.arr (by decide)) (fun g' hg' => .inr ⟨ptrA A gb, 36, by simp at hg'; rw [hg']; exact h1.arr, by decide⟩)
  · refine h.st.new hA o e1 e2 ?_ e4 e5
    by_cases k0 : k = 0
    · rw [if_pos k0] at e3 ⊢; rcases e3 with e | e <;> omega
    · rw [if_neg k0] at e3 ⊢; exact e3
  · intro o' ho' hd
    by_cases k0 : k = 0
    · subst k0
      rw [updA_same] at ho'; cases ho'
      rw [if_pos rfl] at e3; exact e3
    · rw [updA_other A o (Ne.symm k0)] at ho'
      exact h.own o' ho' hd
/-- Behind a step of a work, and the shelf's. -/
theorem SM.next (hN : N < 1000000) (h : SM w0 w lim bm bw db mb ab sb cap f A gb W u L N c mp mx) {k : Nat} (hk : k < 6) {o : DOp} (ho : A k = some o) (hd : o.done = false) {w1 w2 w' : World} (hi : IsOp w1 (gb k) (stepD o W u).1) (hm : IsMem w1 bm bw (stepD o W u).2.1 (stepD o W u).2.2) (hc : Chg [gb k, bm, bw] w w1) (hc1 : Chg [] w1 w2)
    {L' : List Nat} {c' : Bool} (hst : St f cap (stepD o W u).2.1 (updA A k (stepD o W u).1) L' (N + 1) c') (hs : IsSh w' sb lim (shOf cap L' c')) (hc2 : Chg [sb] w2 w') : SM w0 w' lim bm bw db mb ab sb cap f (updA A k (stepD o W u).1) gb (stepD o W u).2.1 (stepD o W u).2.2 L' (N + 1) c' mp mx := by
  obtain ⟨hi0, ok, hl⟩ := h.ops k hk o ho
  have lo := h.lo
  have low := h.low
  obtain ⟨who, hm0⟩ := h.mine
  have n1 : ∀ g ∈ [gb k, bm, bw], g ≠ db ∧ g ≠ mb ∧ g ≠ ab ∧ g ≠ sb := by
    intro g hg
    simp at hg
    rcases hg with rfl | rfl | rfl
    · exact ⟨by omega, by omega, by omega, by omega⟩
    · exact ⟨blk_ne h.mem.head h.d (by decide), blk_ne h.mem.head hm0 (by decide), blk_ne h.mem.head h.arr (by decide), Ne.symm (h.sh.ne h.mem.head (by decide))⟩
    · exact ⟨blk_ne h.mem.row h.d (by decide), blk_ne h.mem.row hm0 (by decide), blk_ne h.mem.row h.arr (by decide), Ne.symm (h.sh.ne h.mem.row (by decide))⟩
  have d1 := (h.d.chg hc (fun hg => (n1 _ hg).1 rfl)).chg hc1 (by simp)
  have m1 := (hm0.chg hc (fun hg => (n1 _ hg).2.1 rfl)).chg hc1 (by simp)
  have a1 := (h.arr.chg hc (fun hg => (n1 _ hg).2.2.1 rfl)).chg hc1 (by simp)
  have i2 := hi.chg hc1 (by simp)
  have s0 : IsSh w sb lim (shOf cap L c) := h.sh
  have sne : ∀ {g : Nat} {cs : Array Value} {t : TypeId}, Blk w' g cs t → t ≠ 86 → g ∉ [sb] := fun hb ht hg => by simp at hg; exact hs.ne hb ht hg.symm
  have hin : ∀ g, g ∈ [gb k, bm, bw] → g ∈ ([] : List Nat) ∨ w0.heap.size ≤ g := fun g hg => .inr (by simp at hg; omega)
  have sbn : sb ≠ bm ∧ sb ≠ bw ∧ sb ≠ db ∧ sb ≠ mb ∧ sb ≠ ab := ⟨s0.ne h.mem.head (by decide), s0.ne h.mem.row (by decide), s0.ne h.d (by decide), s0.ne hm0 (by decide), s0.ne h.arr (by decide)⟩
  refine ⟨(hm.keep hc1).chg hc2 (by simp; omega) (by simp; omega), d1.chg hc2 (by simp; omega), ⟨who, m1.chg hc2 (by simp; omega)⟩, ?_, ?_, ?_, hs, hst, ?_, h.low, h.lo, Nat.le_trans h.size (Nat.le_trans hc.size (Nat.le_trans hc1.size hc2.size)), ((h.chg.then hc hin).then hc1 (by simp)).then hc2 (fun g hg => .inr (by simp at hg; omega))⟩
  · rw [ptrA_upd A gb o _ ho]; exact a1.chg hc2 (by simp; omega)
  · intro j hj o' ho'
    by_cases e : j = k
    · subst e
      rw [updA_same] at ho'; cases ho'
      exact ⟨i2.chg hc2 (by simp; omega), okStep ok h.mem.small, hl⟩
    · rw [updA_other A _ e] at ho'
      obtain ⟨a1, a2, a3⟩ := h.ops j hj o' ho'
      have ne := h.apart j k hj hk e (by rw [ho']; simp) (by rw [ho]; simp)
      exact ⟨((a1.chg hc (by simp; omega)).chg hc1 (by simp)).chg hc2 (by simp; omega), a2, a3⟩
  · intro i j hi hj hne ai aj
    have gi : ∀ i, updA A k (stepD o W u).1 i ≠ none → A i ≠ none := fun i ai => by
      by_cases e : i = k
      · rw [e, ho]; simp
      · rw [updA_other A _ e] at ai; exact ai
    exact h.apart i j hi hj hne (gi i ai) (gi j aj)
  · intro o' ho' hd'
    by_cases k0 : k = 0
    · subst k0
      rw [updA_same] at ho'; cases ho'
      have hkd := stepD_kind o W u
      rcases h.own o ho hd with ⟨q1, q2, q3⟩ | ⟨q1, q2⟩
      · refine .inl ⟨hkd.trans q1, q2, ?_⟩
        obtain ⟨_, hh⟩ := h.st.push hN ho q1 hd (ok.err hd) ok.x u
        rcases hh with ⟨_, h2, _⟩ | ⟨h1, _⟩ | ⟨h1, _⟩
        · rw [h2, q3]
        · rw [h1] at hd'; cases hd'
        · rw [h1] at hd'; cases hd'
      · exact .inr ⟨hkd.trans q1, q2⟩
    · rw [updA_other A _ (Ne.symm k0)] at ho'
      exact h.own o' ho' hd'
/-- The owner's next act is noted. -/
theorem SM.mined (h : SM w0 w lim bm bw db mb ab sb cap f A gb W u L N c mp mx) (hA : A 0 = none ∨ ∃ o, A 0 = some o ∧ o.done = true) {w' : World} {who : Int} {p : Bool} {x : Nat} (hb : Blk w' mb #[.int .u8 who, .bool p, .int .u64 (x : Nat)] 35) (hc : Chg [mb] w w') :
    SM w0 w' lim bm bw db mb ab sb cap f A gb W u L N c p x := by
  obtain ⟨who0, hm⟩ := h.mine
  have lo := h.lo
  have low := h.low
  refine ⟨h.mem.chg hc (by simp; exact blk_ne h.mem.head hm (by decide)) (by simp; exact blk_ne h.mem.row hm (by decide)), h.d.chg hc (by simp; exact blk_ne h.d hm (by decide)), ⟨who, hb⟩, h.arr.chg hc (by simp; exact blk_ne h.arr hm (by decide)), fun k hk o ho => ?_, h.apart, h.sh.chg hc (by simp; exact h.sh.ne hm (by decide)) (fun g' hg' => .inl (by simp at hg'; omega)), h.st, ?_, h.low, h.lo, Nat.le_trans h.size hc.size, h.chg.then hc (fun g hg => .inr (by simp at hg; omega))⟩
  · obtain ⟨a1, a2, a3⟩ := h.ops k hk o ho
    exact ⟨a1.chg hc (by simp; omega), a2, a3⟩
  · intro o ho hd
    rcases hA with e | ⟨o', e, e2⟩
    · rw [e] at ho; cases ho
    · rw [e] at ho; cases ho; rw [e2] at hd; cases hd
theorem SM.after (hN : N < 1000000) (h : SM w0 w lim bm bw db mb ab sb cap f A gb W u L N c mp mx) {k : Nat} (hk : k < 6) {o : DOp} (ho : A k = some o) (hd : o.done = false) :
    After f cap sb lim (gb k) k (stepD o W u).1 mp mx (stepD o W u).2.1 A N L c := by
  obtain ⟨_, ok, _⟩ := h.ops k hk o ho
  by_cases k0 : k = 0
  · subst k0
    rcases h.own o ho hd with ⟨q1, q2, q3⟩ | ⟨q1, q2⟩
    · subst q2 q3
      exact after_push h.st hN ho q1 hd (ok.err hd) ok.x u sb lim (gb 0)
    · subst q2
      exact after_pop h.st hN ho q1 hd (ok.err hd) u sb lim (gb 0) mx
  · exact after_steal h.st hN (by omega) ho hd (ok.err hd) u sb lim (gb k) mp mx
end
end Go.Proofs.Ytidooepalfegdaa
