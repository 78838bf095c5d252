/- deque: what holds between two steps of DequePlays' loop. -/
import Derived.Test.YtcempigpphmchaaDqLk
import Derived.Test.YtcempigpphmchaaDqR2
import Derived.Test.YtcempigpphmchaaDqB0
import Derived.Test.YtcempigpphmchaaDq8
import Derived.Test.YtcempigpphmchaaStru
namespace Bosun
open Go
def updA (A : Nat → Option DOp) (k : Nat) (o : DOp) : Nat → Option DOp := fun j => if j = k then some o else A j
theorem updA_same (A : Nat → Option DOp) (k : Nat) (o : DOp) : updA A k o k = some o := if_pos rfl
theorem updA_other (A : Nat → Option DOp) {k j : Nat} (o : DOp) (h : j ≠ k) : updA A k o j = A j := if_neg h
/-- The cells of a row of works. -/
def ptrA (A : Nat → Option DOp) (gb : Nat → Nat) : Array Value := ((List.range 6).map fun k => Value.pointer (if (A k).isSome then some ⟨gb k, 0, none⟩ else none)).toArray
theorem ptrA_size (A : Nat → Option DOp) (gb : Nat → Nat) : (ptrA A gb).size = 6 := by simp [ptrA]
theorem ptrA_get (A : Nat → Option DOp) (gb : Nat → Nat) {k : Nat} (h : k < 6) : (ptrA A gb)[k]? = some (.pointer (if (A k).isSome then some ⟨gb k, 0, none⟩ else none)) := by simp [ptrA, h]
def updG (gb : Nat → Nat) (k g : Nat) : Nat → Nat := fun j => if j = k then g else gb j
theorem ptrA_set (A : Nat → Option DOp) (gb : Nat → Nat) {k : Nat} (_ : k < 6) (o : DOp) (g : Nat) : (ptrA A gb).setIfInBounds k (.pointer (some ⟨g, 0, none⟩)) = ptrA (updA A k o) (updG gb k g) := by
  apply Array.ext_getElem?
  intro i
  rw [Array.getElem?_setIfInBounds]
  by_cases hi : i < 6
  · rw [ptrA_get _ _ hi, ptrA_get _ _ hi, ptrA_size]
    by_cases e : k = i
    · subst e
      rw [if_pos rfl, if_pos hi, updA_same]
      simp [updG]
    · rw [if_neg e, updA_other A o (Ne.symm e)]
      simp [updG, Ne.symm e]
  · rw [if_neg (by omega), Array.getElem?_eq_none (by rw [ptrA_size]; omega), Array.getElem?_eq_none (by rw [ptrA_size]; omega)]
theorem ptrA_upd (A : Nat → Option DOp) (gb : Nat → Nat) {k : Nat} (o o' : DOp) (h : A k = some o) : ptrA (updA A k o') gb = ptrA A gb := by
  unfold ptrA
  congr 1
  refine List.map_congr_left fun j _ => ?_
  by_cases e : j = k
  · subst e; rw [updA_same, h]; rfl
  · rw [updA_other A o' e]
theorem ptrA_none (gb : Nat → Nat) : Array.replicate 6 (Value.pointer none) = ptrA (fun _ => none) gb := by
  apply Array.ext_getElem?
  intro i
  by_cases hi : i < 6
  · rw [ptrA_get _ _ hi]; simp [hi]
  · rw [Array.getElem?_eq_none (by simp; omega), Array.getElem?_eq_none (by rw [ptrA_size]; omega)]
theorem wlen_if {c : Prop} [Decidable c] {W W' : List Nat} (h : W'.length = W.length) : (if c then W' else W).length = W.length := by split <;> simp [h]
theorem stepD_len (o : DOp) (W : List Nat) (u : Nat) : (stepD o W u).2.1.length = W.length := by
  obtain ⟨base, cap, kind, steps, b, t, x, won, done, err⟩ := o
  unfold stepD
  split
  · rfl
  · split <;> (try rfl) <;> (try exact setA_length _ _ _) <;> (try (exact wlen_if (setA_length _ _ _))) <;> (split <;> first | rfl | exact setA_length _ _ _)
end Bosun
namespace Go.Proofs.Ytcempigpphmchaa
open Go.RowKit Bosun
theorem not3 {g a b c : Nat} (h1 : g ≠ a) (h2 : g ≠ b) (h3 : g ≠ c) : g ∉ [a, b, c] := by simp [h1, h2, h3]
theorem not2 {g a b : Nat} (h1 : g ≠ a) (h2 : g ≠ b) : g ∉ [a, b] := by simp [h1, h2]
theorem blk_ne {w : World} {g g' : Nat} {cs cs' : Array Value} {t t' : TypeId} (h : Blk w g cs t) (h' : Blk w g' cs' t') (ht : t ≠ t') : g ≠ g' := by
  intro e
  subst e
  exact ht (h.inj h').2
structure SP (w0 w : World) (lim bm bw rm rw db rb ab bb : Nat) (base : Int) (cap : Nat) (A : Nat → Option DOp) (gb hb : Nat → Nat) (W : List Nat) (u : Nat) : Prop where
  mem : IsMem w bm bw W u
  ref : IsRef w rm rw W u
  d : Blk w db #[.int .i64 base, .int .i64 (cap : Nat)] 33
  r : Blk w rb #[.int .i64 base, .int .i64 (cap : Nat)] 36
  arr : Blk w ab (ptrA A gb) 44
  brr : Blk w bb (ptrA A hb) 48
  ops : ∀ k, k < 6 → ∀ o, A k = some o → IsOp w (gb k) o ∧ IsROp w (hb k) o ∧ OkOp o ∧ lim ≤ gb k ∧ lim ≤ hb k
  apart : ∀ j k, j < 6 → k < 6 → j ≠ k → A j ≠ none → A k ≠ none → gb j ≠ gb k ∧ hb j ≠ hb k
  wne : bw ≠ rw
  len : W.length = 20
  low : bm < lim ∧ bw < lim ∧ rm < lim ∧ rw < lim ∧ db < lim ∧ rb < lim ∧ ab < lim ∧ bb < lim
  lo : w0.heap.size ≤ bm ∧ w0.heap.size ≤ bw ∧ w0.heap.size ≤ rm ∧ w0.heap.size ≤ rw ∧ w0.heap.size ≤ db ∧ w0.heap.size ≤ rb ∧ w0.heap.size ≤ ab ∧ w0.heap.size ≤ bb ∧ w0.heap.size ≤ lim
  size : lim ≤ w.heap.size
  chg : Chg [] w0 w
section
variable {w0 w : World} {lim bm bw rm rw db rb ab bb : Nat} {base : Int} {cap : Nat} {A : Nat → Option DOp} {gb hb : Nat → Nat} {W : List Nat} {u : Nat}
theorem SP.keep {w' : World} (h : SP w0 w lim bm bw rm rw db rb ab bb base cap A gb hb W u) (hc : Chg [] w w') : SP w0 w' lim bm bw rm rw db rb ab bb base cap A gb hb W u :=
  { h with mem := h.mem.keep hc, ref := h.ref.keep hc, d := h.d.chg hc (by simp), r := h.r.chg hc (by simp), arr := h.arr.chg hc (by simp), brr := h.brr.chg hc (by simp), ops := fun k hk o ho => ⟨(h.ops k hk o ho).1.chg hc (by simp), (h.ops k hk o ho).2.1.chg hc (by simp), (h.ops k hk o ho).2.2⟩, size := Nat.le_trans h.size hc.size, chg := h.chg.then hc (by simp) }
/-- A row of works is another block than what else is kept. -/
theorem SP.nab (h : SP w0 w lim bm bw rm rw db rb ab bb base cap A gb hb W u) : ab ≠ bm ∧ ab ≠ bw ∧ ab ≠ rm ∧ ab ≠ rw ∧ ab ≠ db ∧ ab ≠ rb ∧ ab ≠ bb :=
  ⟨blk_ne h.arr h.mem.head (by decide), blk_ne h.arr h.mem.row (by decide), blk_ne h.arr h.ref.head (by decide), blk_ne h.arr h.ref.row (by decide), blk_ne h.arr h.d (by decide), blk_ne h.arr h.r (by decide), blk_ne h.arr h.brr (by decide)⟩
theorem SP.nbb (h : SP w0 w lim bm bw rm rw db rb ab bb base cap A gb hb W u) : bb ≠ bm ∧ bb ≠ bw ∧ bb ≠ rm ∧ bb ≠ rw ∧ bb ≠ db ∧ bb ≠ rb ∧ bb ≠ ab :=
  ⟨blk_ne h.brr h.mem.head (by decide), blk_ne h.brr h.mem.row (by decide), blk_ne h.brr h.ref.head (by decide), blk_ne h.brr h.ref.row (by decide), blk_ne h.brr h.d (by decide), blk_ne h.brr h.r (by decide), blk_ne h.brr h.arr (by decide)⟩
theorem SP.nmem (h : SP w0 w lim bm bw rm rw db rb ab bb base cap A gb hb W u) : bm ≠ rm ∧ bm ≠ rw ∧ bw ≠ rm ∧ bm ≠ db ∧ bm ≠ rb ∧ bw ≠ db ∧ bw ≠ rb ∧ rm ≠ db ∧ rm ≠ rb ∧ rw ≠ db ∧ rw ≠ rb :=
  ⟨blk_ne h.mem.head h.ref.head (by decide), blk_ne h.mem.head h.ref.row (by decide), blk_ne h.mem.row h.ref.head (by decide), blk_ne h.mem.head h.d (by decide), blk_ne h.mem.head h.r (by decide), blk_ne h.mem.row h.d (by decide), blk_ne h.mem.row h.r (by decide), blk_ne h.ref.head h.d (by decide), blk_ne h.ref.head h.r (by decide), blk_ne h.ref.row h.d (by decide), blk_ne h.ref.row h.r (by decide)⟩
/-- Two new works stand in the rows. -/
theorem SP.new (h : SP w0 w lim bm bw rm rw db rb ab bb base cap A gb hb W u) {k : Nat} (hk : k < 6) {o : DOp} {g r : Nat} {w1 w' : World} (hc : Chg [] w w1) (hg : w.heap.size ≤ g) (hr : w.heap.size ≤ r) (ho : IsOp w1 g o) (hq : IsROp w1 r o) (ok : OkOp o)
    (hw : w' = (w1.setCell ⟨ab, k, none⟩ (.pointer (some ⟨g, 0, none⟩))).setCell ⟨bb, k, none⟩ (.pointer (some ⟨r, 0, none⟩))) : SP w0 w' lim bm bw rm rw db rb ab bb base cap (updA A k o) (updG gb k g) (updG hb k r) W u := by
  have h1 := h.keep hc
  have hs := h.size
  have NA := Lib.hid h.nab
  have NB := Lib.hid h.nbb
  have low := h.low
  have lo := h.lo
  have CS : Chg [ab, bb] w1 w' := by rw [hw]; exact ((Chg.refl _ _).setCell (.inl (by simp)) _).setCell (.inl (by simp)) _
  have hall : ∀ j, j < 6 → ∀ o, A j = some o → gb j < w.heap.size ∧ hb j < w.heap.size := fun j hj o ho => ⟨(h.ops j hj o ho).1.lt, (h.ops j hj o ho).2.1.lt⟩
  obtain ⟨a1, a2, a3, a4, a5, a6, a7⟩ := id NA.out
  obtain ⟨b1, b2, b3, b4, b5, b6, b7⟩ := id NB.out
  refine ⟨h1.mem.chg CS (not2 a1.symm b1.symm) (not2 a2.symm b2.symm), h1.ref.chg CS (not2 a3.symm b3.symm) (not2 a4.symm b4.symm), h1.d.chg CS (not2 a5.symm b5.symm), h1.r.chg CS (not2 a6.symm b6.symm), ?_, ?_, ?_, ?_, h.wne, h.len, h.low, h.lo, Nat.le_trans h1.size CS.size, h1.chg.then CS (fun g' hg' => .inr (by simp at hg'; omega))⟩
  · rw [hw, ← ptrA_set A gb hk o g]; exact Blk.setCell_other (h1.arr.setCell k _) _ a7
  · rw [hw, ← ptrA_set A hb hk o r]; exact Blk.setCell (Blk.setCell_other h1.brr _ b7) k _
  · clear a1 a2 a3 a4 a5 a6 a7 b1 b2 b3 b4 b5 b6 b7
    intro j hj o' ho'
    by_cases e : j = k
    · subst e
      rw [updA_same] at ho'; cases ho'
      have e1 : updG gb j g j = g := if_pos rfl
      have e2 : updG hb j r j = r := if_pos rfl
      rw [e1, e2]
      exact ⟨ho.chg CS (by simp; omega), hq.chg CS (by simp; omega), ok, by omega, by omega⟩
    · rw [updA_other A o e] at ho'
      have e1 : updG gb k g j = gb j := if_neg e
      have e2 : updG hb k r j = hb j := if_neg e
      rw [e1, e2]
      obtain ⟨a1, a2, a3, a4, a5⟩ := h1.ops j hj o' ho'
      exact ⟨a1.chg CS (by simp; omega), a2.chg CS (by simp; omega), a3, a4, a5⟩
  · clear a1 a2 a3 a4 a5 a6 a7 b1 b2 b3 b4 b5 b6 b7
    intro i j hi hj hne ai aj
    have gi : ∀ i, i < 6 → i ≠ k → updA A k o i ≠ none → updG gb k g i = gb i ∧ updG hb k r i = hb i ∧ gb i < w.heap.size ∧ hb i < w.heap.size ∧ A i ≠ none := fun i hi e ai => by
      rw [updA_other A o e] at ai
      cases ha : A i with
      | none => exact absurd ha ai
      | some o' => exact ⟨if_neg e, if_neg e, (hall i hi o' ha).1, (hall i hi o' ha).2, by simp⟩
    have gk : updG gb k g k = g ∧ updG hb k r k = r := ⟨if_pos rfl, if_pos rfl⟩
    by_cases ei : i = k
    · have ej : j ≠ k := fun e => hne (by rw [ei, e])
      obtain ⟨q1, q2, q3, q4, _⟩ := gi j hj ej aj
      rw [q1, q2, ei, gk.1, gk.2]; omega
    · obtain ⟨p1, p2, p3, p4, p5⟩ := gi i hi ei ai
      by_cases ej : j = k
      · rw [p1, p2, ej, gk.1, gk.2]; omega
      · obtain ⟨q1, q2, q3, q4, q5⟩ := gi j hj ej aj
        rw [p1, p2, q1, q2]
        exact h.apart i j hi hj hne p5 q5
/-- Behind a step of both works. -/
theorem SP.step (h : SP w0 w lim bm bw rm rw db rb ab bb base cap A gb hb W u) {k : Nat} (hk : k < 6) {o : DOp} (ho : A k = some o) {w1 w2 : World} (hi : IsOp w1 (gb k) (stepD o W u).1) (hm : IsMem w1 bm bw (stepD o W u).2.1 (stepD o W u).2.2) (hc : Chg [gb k, bm, bw] w w1)
    (hj : IsROp w2 (hb k) (stepD o W u).1) (hr : IsRef w2 rm rw (stepD o W u).2.1 (stepD o W u).2.2) (hd : Chg [hb k, rm, rw] w1 w2) : SP w0 w2 lim bm bw rm rw db rb ab bb base cap (updA A k (stepD o W u).1) gb hb (stepD o W u).2.1 (stepD o W u).2.2 := by
  obtain ⟨hi0, hj0, ok, hl, hl2⟩ := h.ops k hk o ho
  have NA := Lib.hid h.nab
  have NB := Lib.hid h.nbb
  have NM := Lib.hid h.nmem
  have low := h.low
  have lo := h.lo
  have WNE := Lib.hid h.wne
  have NGH := Lib.hid (blk_ne hi0 hj0 (by decide) : gb k ≠ hb k)
  have hin : ∀ g, g ∈ [gb k, bm, bw] → g ∈ ([] : List Nat) ∨ w0.heap.size ≤ g := fun g hg => .inr (by simp at hg; omega)
  have hin2 : ∀ g, g ∈ [hb k, rm, rw] → g ∈ ([] : List Nat) ∨ w0.heap.size ≤ g := fun g hg => .inr (by simp at hg; omega)
  obtain ⟨m1, m2, m3, m4, m5, m6, m7, m8, m9, m10, m11⟩ := id NM.out
  have M := Lib.hid (And.intro (not3 (by omega) m1 m2 : bm ∉ [hb k, rm, rw]) (And.intro (not3 (by omega) m3 WNE.out : bw ∉ [hb k, rm, rw]) (And.intro (not3 (by omega) m4.symm m6.symm : db ∉ [gb k, bm, bw]) (And.intro (not3 (by omega) m8.symm m10.symm : db ∉ [hb k, rm, rw]) (And.intro (not3 (by omega) m5.symm m7.symm : rb ∉ [gb k, bm, bw]) (not3 (by omega) m9.symm m11.symm : rb ∉ [hb k, rm, rw]))))))
  clear m1 m2 m3 m4 m5 m6 m7 m8 m9 m10 m11
  refine ⟨hm.chg hd M.out.1 M.out.2.1, hr, (h.d.chg hc M.out.2.2.1).chg hd M.out.2.2.2.1, (h.r.chg hc M.out.2.2.2.2.1).chg hd M.out.2.2.2.2.2, ?_, ?_, ?_, ?_, h.wne, by rw [stepD_len]; exact h.len, h.low, h.lo, Nat.le_trans h.size (Nat.le_trans hc.size hd.size), (h.chg.then hc hin).then hd hin2⟩
  · rw [ptrA_upd A gb o _ ho]; exact (h.arr.chg hc (not3 (by omega) NA.out.1 NA.out.2.1)).chg hd (not3 (by omega) NA.out.2.2.1 NA.out.2.2.2.1)
  · rw [ptrA_upd A hb o _ ho]; exact (h.brr.chg hc (not3 (by omega) NB.out.1 NB.out.2.1)).chg hd (not3 (by omega) NB.out.2.2.1 NB.out.2.2.2.1)
  · intro j hj' o' ho'
    by_cases e : j = k
    · subst e
      rw [updA_same] at ho'; cases ho'
      exact ⟨hi.chg hd (not3 NGH.out (by omega) (by omega)), hj, okStep ok h.mem.small, hl, hl2⟩
    · rw [updA_other A _ e] at ho'
      obtain ⟨a1, a2, a3, a4, a5⟩ := h.ops j hj' o' ho'
      have ne := h.apart j k hj' hk e (by rw [ho']; simp) (by rw [ho]; simp)
      have n1 : gb j ≠ hb k := blk_ne a1 hj0 (by decide)
      have n2 : hb j ≠ gb k := blk_ne a2 hi0 (by decide)
      exact ⟨(a1.chg hc (not3 ne.1 (by omega) (by omega))).chg hd (not3 n1 (by omega) (by omega)), (a2.chg hc (not3 n2 (by omega) (by omega))).chg hd (not3 ne.2 (by omega) (by omega)), a3, a4, a5⟩
  · intro i j hi' hj' hne ai aj
    have gi : ∀ i, updA A k (stepD o W u).1 i ≠ none → A i ≠ none := fun i ai => by
      by_cases e : i = k
      · rw [e, ho]; simp
      · rw [updA_other A _ e] at ai; exact ai
    exact h.apart i j hi' hj' hne (gi i ai) (gi j aj)
end
end Go.Proofs.Ytcempigpphmchaa
