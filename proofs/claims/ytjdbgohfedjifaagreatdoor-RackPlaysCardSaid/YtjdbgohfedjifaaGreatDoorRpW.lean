/- rack, plays: what holds in the world between two statements of the law. -/
import Derived.Test.YtjdbgohfedjifaaGreatDoorRpLk
import Derived.Test.YtjdbgohfedjifaaGreatDoorRkF
namespace Bosun
open Go
theorem wlen_if {c : Prop} [Decidable c] {W W' : List Nat} (h : W'.length = W.length) : (if c then W' else W).length = W.length := by split <;> simp [h]
theorem stepD_len (o : DOp) (W : List Nat) (u : Nat) : (stepD o W u).2.1.length = W.length := by
  obtain ⟨base, cap, kind, steps, b, t, x, won, done, err⟩ := o
  unfold stepD
  split
  · rfl
  · split <;> (try rfl) <;> (try exact setA_length _ _ _) <;> (try (exact wlen_if (setA_length _ _ _))) <;> (split <;> first | rfl | exact setA_length _ _ _)
theorem phaseR_len (good : Nat → Bool) (r : RRack) (w : RWork) (M : List Nat) (u : Nat) : (phaseR good r w M u).2.2.1.length = M.length := by
  unfold phaseR
  cases w.next <;> simp only <;> (repeat' split) <;> simp [setA_length, stepD_len]
theorem stepR_len (good : Nat → Bool) (r : RRack) (w : RWork) (M : List Nat) (u : Nat) : (stepR good r w M u).2.2.1.length = M.length := by
  unfold stepR
  split
  · rfl
  · exact phaseR_len _ _ _ _ _
theorem phaseR_steps (good : Nat → Bool) (r : RRack) (w : RWork) (M : List Nat) (u : Nat) : (phaseR good r w M u).2.1.steps = w.steps := by
  unfold phaseR
  cases w.next <;> simp only <;> (repeat' split) <;> rfl
theorem stepR_steps (good : Nat → Bool) (r : RRack) (w : RWork) (M : List Nat) (u : Nat) : (stepR good r w M u).2.1.steps ≤ w.steps + 1 := by
  unfold stepR
  split
  · exact Nat.le_succ _
  · rw [phaseR_steps]; exact Nat.le_refl _
end Bosun
namespace Go.Proofs.YtjdbgohfedjifaaGreatDoor
open Go.RowKit Bosun
/-- Where a work lies: the page's, and the document's. -/
structure PB where
  wb : Nat
  gv : Value
  ob : Option Nat
  qb : Nat
  name : Nat
  xq : Nat
  bad : Value
  at_ : Nat
  obq : Option Nat
  oo : Option DOp
  l0 : List Nat
def updP (B : Nat → PB) (k : Nat) (b : PB) : Nat → PB := fun j => if j = k then b else B j
theorem updP_same (B : Nat → PB) (k : Nat) (b : PB) : updP B k b k = b := if_pos rfl
theorem updP_other (B : Nat → PB) {k j : Nat} (b : PB) (h : j ≠ k) : updP B k b j = B j := if_neg h
def updQ (ws : Nat → Option RWork) (k : Nat) (w : RWork) : Nat → Option RWork := fun j => if j = k then some w else ws j
theorem updQ_same (ws : Nat → Option RWork) (k : Nat) (w : RWork) : updQ ws k w k = some w := if_pos rfl
theorem updQ_other (ws : Nat → Option RWork) {k j : Nat} (w : RWork) (h : j ≠ k) : updQ ws k w j = ws j := if_neg h
def ptrP (f : PB → Nat) (ws : Nat → Option RWork) (B : Nat → PB) : Array Value := ((List.range 4).map fun k => Value.pointer (if (ws k).isSome then some ⟨f (B k), 0, none⟩ else none)).toArray
theorem ptrP_get (f : PB → Nat) (ws : Nat → Option RWork) (B : Nat → PB) {k : Nat} (h : k < 4) : (ptrP f ws B)[k]? = some (.pointer (if (ws k).isSome then some ⟨f (B k), 0, none⟩ else none)) := by simp [ptrP, h]
theorem ptrP_size (f : PB → Nat) (ws : Nat → Option RWork) (B : Nat → PB) : (ptrP f ws B).size = 4 := by simp [ptrP]
theorem ptrP_set (f : PB → Nat) (ws : Nat → Option RWork) (B : Nat → PB) {k : Nat} (_ : k < 4) (w : RWork) (b : PB) : (ptrP f ws B).setIfInBounds k (.pointer (some ⟨f b, 0, none⟩)) = ptrP f (updQ ws k w) (updP B k b) := by
  apply Array.ext_getElem?
  intro i
  rw [Array.getElem?_setIfInBounds]
  by_cases hi : i < 4
  · rw [ptrP_get _ _ _ hi, ptrP_get _ _ _ hi, ptrP_size]
    by_cases e : k = i
    · subst e; rw [if_pos rfl, if_pos hi, updQ_same, updP_same]; rfl
    · rw [if_neg e, updQ_other _ _ (Ne.symm e), updP_other _ _ (Ne.symm e)]
  · rw [Array.getElem?_eq_none (by rw [ptrP_size]; omega), Array.getElem?_eq_none (by rw [ptrP_size]; omega), if_neg (by omega)]
theorem ptrP_upd (f : PB → Nat) (ws : Nat → Option RWork) (B : Nat → PB) {k : Nat} (w w' : RWork) (h : ws k = some w) (b : PB) (hb : f b = f (B k)) : ptrP f (updQ ws k w') (updP B k b) = ptrP f ws B := by
  unfold ptrP
  congr 1
  refine List.map_congr_left fun j _ => ?_
  by_cases e : j = k
  · subst e; rw [updQ_same, h, updP_same, hb]; rfl
  · rw [updQ_other _ _ e, updP_other _ _ e]
theorem ptrP_none (f : PB → Nat) (B : Nat → PB) : Array.replicate 4 (Value.pointer none) = ptrP f (fun _ => none) B := by
  apply Array.ext_getElem?
  intro i
  by_cases hi : i < 4
  · rw [ptrP_get _ _ _ hi]; simp [hi]
  · rw [Array.getElem?_eq_none (by simp; omega), Array.getElem?_eq_none (by rw [ptrP_size]; omega)]
theorem OpAt.chgP {W W' : World} {S : List Nat} {ob : Option Nat} {o : Option DOp} (h : OpAt W ob o) (C : Chg S W W') (hS : ∀ g ∈ ob.toList, g ∉ S) : OpAt W' ob o := by
  match ob, o, h with
  | none, none, _ => trivial
  | some g, some o, h => exact ⟨h.1.chg C (hS g (by simp)), h.2⟩
theorem OpAt.blkP {W : World} {ob : Option Nat} {o : Option DOp} (h : OpAt W ob o) {g : Nat} (hg : g ∈ ob.toList) : ∃ o, IsOp W g o := by
  match ob, o, h with
  | none, none, _ => cases hg
  | some g', some o, h => simp at hg; subst hg; exact ⟨o, h.1⟩
theorem noBoxP {W : World} {g : Nat} {cs : Array Value} {t : TypeId} (h : Blk W g cs t) (ht : t ≠ 36) (v : Value) : ¬ Blk W g #[v] 36 := fun h2 => ht (Blk.inj (w := W) h h2).2
theorem Doc.rack {r r' : RRack} {w : RWork} {xq at_ : Nat} {ob : Option Nat} {oo : Option DOp} (h : Doc r w xq at_ ob oo) (hn : nameR w.next ≠ 0) : Doc r' w xq at_ ob oo :=
  ⟨h.xe, h.st.imp id (fun ⟨_, b, _⟩ => absurd (by rw [b]; rfl) hn)⟩
/-- The blocks of a page's work, and of a document's. -/
def PgS (rb bm bw : Nat) (b : PB) : List Nat := b.wb :: rb :: bm :: bw :: b.ob.toList
def DcS (sb nm nw : Nat) (b : PB) : List Nat := b.qb :: sb :: nm :: nw :: b.obq.toList
structure WkP (w0 W : World) (rb sb : Nat) (r : RRack) (b : PB) (w : RWork) : Prop where
  wk : IsWk W b.wb rb b.gv b.ob w
  op : OpAt W b.ob w.op
  qk : IsQw W b.qb sb b.name b.xq b.bad b.at_ b.obq w
  qop : ROpAt W b.obq b.oo
  kind : w.kind < 2
  level : w.done = false → w.level < 8
  steps : w.steps ≤ 1000000
  pln : Pln r w
  name : b.name = nameR w.next
  doc : Doc r w b.xq b.at_ b.obq b.oo
  lw : w0.heap.size ≤ b.wb
  lo : ∀ g ∈ b.ob.toList, w0.heap.size ≤ g
  lq : w0.heap.size ≤ b.qb
  loq : ∀ g ∈ b.obq.toList, w0.heap.size ≤ g
  bx : b.name = 0 ∨ b.name = 2 → Box W b.gv b.bad
  rd : Reads w0 b.bad (words b.l0)
theorem WkP.chg {w0 W W' : World} {rb sb : Nat} {r r' : RRack} {b : PB} {w : RWork} {S : List Nat} (h : WkP w0 W rb sb r b w) (C : Chg S W W') (h1 : b.wb ∉ S) (h2 : ∀ g ∈ b.ob.toList, g ∉ S) (h3 : b.qb ∉ S) (h4 : ∀ g ∈ b.obq.toList, g ∉ S) (h5 : ∀ g ∈ S, ∀ v, ¬ Blk W g #[v] 36) (hr : r' = r ∨ (nameR w.next ≠ 0 ∧ nameR w.next ≠ 1)) : WkP w0 W' rb sb r' b w :=
  ⟨h.wk.chg C h1, h.op.chgP C h2, h.qk.chg C h3, h.qop.chg C h4, h.kind, h.level, h.steps,
    by rcases hr with rfl | ⟨_, q⟩; exact h.pln; exact h.pln.rack q, h.name, by rcases hr with rfl | ⟨q, _⟩; exact h.doc; exact h.doc.rack q, h.lw, h.lo, h.lq, h.loq, fun q => by obtain ⟨cb, e, B⟩ := h.bx q; exact ⟨cb, e, B.chg C (fun hm => h5 cb hm _ B)⟩, h.rd⟩
/-- What holds in the world between two statements of the law. -/
structure WP (w0 W : World) (rb bm bw sb nm nw ab bb : Nat) (r : RRack) (M : List Nat) (u : Nat) (ws : Nat → Option RWork) (B : Nat → PB) (n i : Nat) : Prop where
  rest : Rest w0 W rb bm bw r M u
  sk : IsSb W sb r
  ref : IsRef W nm nw M u
  len : M.length = n
  ls : w0.heap.size ≤ sb
  ln : w0.heap.size ≤ nm
  lnw : w0.heap.size ≤ nw
  la : w0.heap.size ≤ ab
  lb : w0.heap.size ≤ bb
  ne : bw ≠ nw
  arr : Blk W ab (ptrP (·.wb) ws B) 39
  brr : Blk W bb (ptrP (·.qb) ws B) 44
  wk : ∀ j, j < 4 → ∀ w, ws j = some w → WkP w0 W rb sb r (B j) w
  thf : ∀ j, 0 < j → j < 4 → ∀ w, ws j = some w → nameR w.next = 2
  ap : ∀ j k, j < 4 → k < 4 → j ≠ k → ws j ≠ none → ws k ≠ none → (B j).wb ≠ (B k).wb ∧ (∀ g ∈ (B j).ob.toList, g ∉ (B k).ob.toList) ∧ (B j).qb ≠ (B k).qb ∧ ∀ g ∈ (B j).obq.toList, g ∉ (B k).obq.toList
  hd : ∀ j, j < 4 → ∀ w, ws j = some w → w.steps ≤ i
section
variable {w0 W W' W1 W2 W3 W4 : World} {rb bm bw sb nm nw ab bb : Nat} {r : RRack} {M : List Nat} {u : Nat} {ws : Nat → Option RWork} {B : Nat → PB} {n i : Nat}
theorem WP.pos (h : WP w0 W rb bm bw sb nm nw ab bb r M u ws B n i) (hT : TabW w0) : 0 < w0.heap.size := World.block_lt_of_cell? _ _ (hT 0 (by decide))
theorem WP.keep (h : WP w0 W rb bm bw sb nm nw ab bb r M u ws B n i) (C : Chg [] W W') : WP w0 W' rb bm bw sb nm nw ab bb r M u ws B n i :=
  ⟨⟨Blk.chg h.rest.rk C (by simp), h.rest.mem.chg C (by simp) (by simp), h.rest.ok, h.rest.tab.keep C, h.rest.chg.then C (by simp), h.rest.l1, h.rest.l2, h.rest.l3⟩, Blk.chg h.sk C (by simp), h.ref.chg C (by simp) (by simp), h.len, h.ls, h.ln, h.lnw, h.la, h.lb, h.ne, h.arr.chg C (by simp), h.brr.chg C (by simp),
    fun j hj w hw => (h.wk j hj w hw).chg C (by simp) (by simp) (by simp) (by simp) (by simp) (.inl rfl), h.thf, h.ap, h.hd⟩
theorem WP.rig (h : WP w0 W rb bm bw sb nm nw ab bb r M u ws B n i) {j : Nat} (hj : j < 4) {w : RWork} (hw : ws j = some w) : Rig W (B j).wb rb bm bw (B j).gv (B j).ob r w M u := by
  have K := h.wk j hj w hw
  exact ⟨K.wk, h.rest.rk, h.rest.mem, K.op, h.rest.ok, K.kind, K.level, K.steps⟩
theorem WP.qig (h : WP w0 W rb bm bw sb nm nw ab bb r M u ws B n i) {j : Nat} (hj : j < 4) {w : RWork} (hw : ws j = some w) : Qig W (B j).qb sb nm nw (B j).name (B j).xq (B j).bad (B j).at_ (B j).obq (B j).oo r w M u := by
  have K := h.wk j hj w hw
  exact ⟨K.qk, h.sk, h.ref, K.qop, h.rest.ok, K.kind, K.level, K.steps⟩
/-- The words told false lie still. -/
theorem WP.reads (h : WP w0 W rb bm bw sb nm nw ab bb r M u ws B n i) {j : Nat} (hj : j < 4) {w : RWork} (hw : ws j = some w) {S : List Nat} (C : Chg S W W') (hS : ∀ g ∈ S, w0.heap.size ≤ g) : Reads W' (B j).bad (words (B j).l0) :=
  (h.wk j hj w hw).rd.keep (h.rest.chg.then C (fun g hg => .inr (hS g hg)))
theorem WP.lowP (h : WP w0 W rb bm bw sb nm nw ab bb r M u ws B n i) {j : Nat} (hj : j < 4) {w : RWork} (hw : ws j = some w) : ∀ g ∈ PgS rb bm bw (B j), w0.heap.size ≤ g := by
  have K := h.wk j hj w hw
  intro g hg
  simp only [PgS, List.mem_cons] at hg
  rcases hg with rfl | rfl | rfl | rfl | hg
  · exact K.lw
  · exact h.rest.l1
  · exact h.rest.l2
  · exact h.rest.l3
  · exact K.lo g hg
theorem WP.lowD (h : WP w0 W rb bm bw sb nm nw ab bb r M u ws B n i) {j : Nat} (hj : j < 4) {w : RWork} (hw : ws j = some w) : ∀ g ∈ DcS sb nm nw (B j), w0.heap.size ≤ g := by
  have K := h.wk j hj w hw
  intro g hg
  simp only [DcS, List.mem_cons] at hg
  rcases hg with rfl | rfl | rfl | rfl | hg
  · exact K.lq
  · exact h.ls
  · exact h.ln
  · exact h.lnw
  · exact K.loq g hg
/-- What the page's blocks are. -/
theorem WP.tyP (h : WP w0 W rb bm bw sb nm nw ab bb r M u ws B n i) {j : Nat} (hj : j < 4) {w : RWork} (hw : ws j = some w) {g : Nat} {cs : Array Value} {t : TypeId} (hb : Blk W g cs t) (n1 : t ≠ 94) (n2 : t ≠ 74) (n3 : t ≠ 68) (n4 : t ≠ 35 ∨ g ≠ bw) (n5 : t ≠ 134) : g ∉ PgS rb bm bw (B j) := by
  have K := h.wk j hj w hw
  intro hg
  simp only [PgS, List.mem_cons] at hg
  rcases hg with rfl | rfl | rfl | rfl | hg
  · exact n1 (Blk.inj (w := W) hb K.wk).2
  · exact n2 (Blk.inj (w := W) hb h.rest.rk).2
  · exact n3 (Blk.inj (w := W) hb h.rest.mem.head).2
  · rcases n4 with q | q
    · exact q (Blk.inj (w := W) hb h.rest.mem.row).2
    · exact q rfl
  · obtain ⟨o, ho⟩ := K.op.blkP hg
    exact n5 (Blk.inj (w := W) hb ho).2
theorem WP.tyD (h : WP w0 W rb bm bw sb nm nw ab bb r M u ws B n i) {j : Nat} (hj : j < 4) {w : RWork} (hw : ws j = some w) {g : Nat} {cs : Array Value} {t : TypeId} (hb : Blk W g cs t) (n1 : t ≠ 43) (n2 : t ≠ 54) (n3 : t ≠ 59) (n4 : t ≠ 35 ∨ g ≠ nw) (n5 : t ≠ 108) : g ∉ DcS sb nm nw (B j) := by
  have K := h.wk j hj w hw
  intro hg
  simp only [DcS, List.mem_cons] at hg
  rcases hg with rfl | rfl | rfl | rfl | hg
  · exact n1 (Blk.inj (w := W) hb K.qk).2
  · exact n2 (Blk.inj (w := W) hb h.sk).2
  · exact n3 (Blk.inj (w := W) hb h.ref.head).2
  · rcases n4 with q | q
    · exact q (Blk.inj (w := W) hb h.ref.row).2
    · exact q rfl
  · obtain ⟨o, ho⟩ := K.qop.blk hg
    exact n5 (Blk.inj (w := W) hb ho).2
end
end Go.Proofs.YtjdbgohfedjifaaGreatDoor
