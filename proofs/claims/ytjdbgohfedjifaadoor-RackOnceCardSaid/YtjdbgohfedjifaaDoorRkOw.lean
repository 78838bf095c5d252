/- rack: RackOnce: what holds in the world between two statements of the law. -/
import Derived.Test.YtjdbgohfedjifaaDoorRkBg
import Derived.Test.YtjdbgohfedjifaaDoorRkO
namespace Go.Proofs.YtjdbgohfedjifaaDoor
open Go.RowKit Bosun
/-- Where a work lies, what tells of a word for it, where its deque's work lies. -/
structure WB where
  wb : Nat
  gv : Value
  ob : Option Nat
def updB (B : Nat → WB) (k : Nat) (b : WB) : Nat → WB := fun j => if j = k then b else B j
theorem updB_same (B : Nat → WB) (k : Nat) (b : WB) : updB B k b k = b := if_pos rfl
theorem updB_other (B : Nat → WB) {k j : Nat} (b : WB) (h : j ≠ k) : updB B k b j = B j := if_neg h
def ptrB (ws : Nat → Option RWork) (B : Nat → WB) : Array Value := ((List.range 4).map fun k => Value.pointer (if (ws k).isSome then some ⟨(B k).wb, 0, none⟩ else none)).toArray
theorem ptrB_get (ws : Nat → Option RWork) (B : Nat → WB) {k : Nat} (h : k < 4) : (ptrB ws B)[k]? = some (.pointer (if (ws k).isSome then some ⟨(B k).wb, 0, none⟩ else none)) := by simp [ptrB, h]
theorem ptrB_size (ws : Nat → Option RWork) (B : Nat → WB) : (ptrB ws B).size = 4 := by simp [ptrB]
theorem ptrB_set (ws : Nat → Option RWork) (B : Nat → WB) {k : Nat} (_ : k < 4) (w : RWork) (b : WB) : (ptrB ws B).setIfInBounds k (.pointer (some ⟨b.wb, 0, none⟩)) = ptrB (updW ws k w) (updB B k b) := by
  apply Array.ext_getElem?
  intro i
  rw [Array.getElem?_setIfInBounds]
  by_cases hi : i < 4
  · rw [ptrB_get _ _ hi, ptrB_get _ _ hi, ptrB_size]
    by_cases e : k = i
    · subst e; rw [if_pos rfl, if_pos hi, updW_same, updB_same]; rfl
    · rw [if_neg e, updW_other _ _ (Ne.symm e), updB_other _ _ (Ne.symm e)]
  · rw [Array.getElem?_eq_none (by rw [ptrB_size]; omega), Array.getElem?_eq_none (by rw [ptrB_size]; omega), if_neg (by omega)]
theorem ptrB_upd (ws : Nat → Option RWork) (B : Nat → WB) {k : Nat} (w w' : RWork) (h : ws k = some w) (b : WB) (hb : b.wb = (B k).wb) : ptrB (updW ws k w') (updB B k b) = ptrB ws B := by
  unfold ptrB
  congr 1
  refine List.map_congr_left fun j _ => ?_
  by_cases e : j = k
  · subst e; rw [updW_same, h, updB_same, hb]; rfl
  · rw [updW_other _ _ e, updB_other _ _ e]
theorem ptrB_none (B : Nat → WB) : Array.replicate 4 (Value.pointer none) = ptrB (fun _ => none) B := by
  apply Array.ext_getElem?
  intro i
  by_cases hi : i < 4
  · rw [ptrB_get _ _ hi]; simp [hi]
  · rw [Array.getElem?_eq_none (by simp; omega), Array.getElem?_eq_none (by rw [ptrB_size]; omega)]
/-- How words stand. -/
def stS (sg : Nat → Nat) : Array Value := ((List.range 300).map fun y => Value.int .i64 (sg y : Nat)).toArray
theorem stS_get (sg : Nat → Nat) {y : Nat} (h : y < 300) : (stS sg)[y]? = some (.int .i64 (sg y : Nat)) := by simp [stS, h]
theorem stS_size (sg : Nat → Nat) : (stS sg).size = 300 := by simp [stS]
theorem stS_set (sg : Nat → Nat) (x v : Nat) : (stS sg).setIfInBounds x (.int .i64 (v : Nat)) = stS (updS sg x v) := by
  apply Array.ext_getElem?
  intro i
  rw [Array.getElem?_setIfInBounds]
  by_cases hi : i < 300
  · rw [stS_get _ hi, stS_get _ hi, stS_size]
    unfold updS
    by_cases e : x = i
    · subst e; rw [if_pos rfl, if_pos hi, if_pos rfl]
    · rw [if_neg e, if_neg (Ne.symm e)]
  · rw [Array.getElem?_eq_none (by rw [stS_size]; omega), Array.getElem?_eq_none (by rw [stS_size]; omega), stS_size]
    split
    · rw [if_neg (by omega)]
    · rfl
theorem stS_zero : Array.replicate 300 (Value.int .i64 0) = stS (fun _ => 0) := by
  apply Array.ext_getElem?
  intro i
  by_cases hi : i < 300
  · rw [stS_get _ hi]; simp [hi]
  · rw [Array.getElem?_eq_none (by simp; omega), Array.getElem?_eq_none (by rw [stS_size]; omega)]
/-- A work, its closure, its deque's work. bx: whether it has a closure. -/
structure Wks (w0 W : World) (rb : Nat) (b : WB) (w : RWork) (bx : Prop) : Prop where
  wk : IsWk W b.wb rb b.gv b.ob w
  op : OpAt W b.ob w.op
  kind : w.kind < 2
  level : w.done = false → w.level < 8
  steps : w.steps ≤ 1000000
  lw : w0.heap.size ≤ b.wb
  lo : ∀ g ∈ b.ob.toList, w0.heap.size ≤ g
  bx : bx → Box W b.gv (.slice none 0 0)
theorem OpAt.chg {W W' : World} {S : List Nat} {ob : Option Nat} {o : Option DOp} (h : OpAt W ob o) (C : Chg S W W') (hS : ∀ g ∈ ob.toList, g ∉ S) : OpAt W' ob o := by
  match ob, o, h with
  | none, none, _ => trivial
  | some g, some o, h => exact ⟨h.1.chg C (hS g (by simp)), h.2⟩
theorem OpAt.blk {W : World} {ob : Option Nat} {o : Option DOp} (h : OpAt W ob o) {g : Nat} (hg : g ∈ ob.toList) : ∃ o, IsOp W g o := by
  match ob, o, h with
  | none, none, _ => cases hg
  | some g', some o, h => simp at hg; subst hg; exact ⟨o, h.1⟩
theorem Wks.chg {w0 W W' : World} {rb : Nat} {b : WB} {w : RWork} {bx : Prop} {S : List Nat} (h : Wks w0 W rb b w bx) (C : Chg S W W') (h1 : b.wb ∉ S) (h2 : ∀ g ∈ b.ob.toList, g ∉ S) (h3 : ∀ g ∈ S, ∀ v, ¬ Blk W g #[v] 42) : Wks w0 W' rb b w bx :=
  ⟨h.wk.chg C h1, h.op.chg C h2, h.kind, h.level, h.steps, h.lw, h.lo, fun q => by obtain ⟨cb, e, B⟩ := h.bx q; exact ⟨cb, e, B.chg C (fun hm => h3 cb hm _ B)⟩⟩
theorem noBox {W : World} {g : Nat} {cs : Array Value} {t : TypeId} (h : Blk W g cs t) (ht : t ≠ 42) (v : Value) : ¬ Blk W g #[v] 42 := fun h2 => ht (Blk.inj (w := W) h h2).2
/-- What holds in the world between two statements of the law. -/
structure WO (w0 W : World) (rb bm bw ab sb : Nat) (r : RRack) (M : List Nat) (u : Nat) (ws : Nat → Option RWork) (B : Nat → WB) (sg : Nat → Nat) (pt : Bool) (i : Nat) : Prop where
  rest : Rest w0 W rb bm bw r M u
  arr : Blk W ab (ptrB ws B) 34
  st : Blk W sb (stS sg) 3
  la : w0.heap.size ≤ ab
  ls : w0.heap.size ≤ sb
  wk : ∀ j, j < 4 → ∀ w, ws j = some w → Wks w0 W rb (B j) w (j = 0 → pt = true)
  ap : ∀ j k, j < 4 → k < 4 → j ≠ k → ws j ≠ none → ws k ≠ none → (B j).wb ≠ (B k).wb ∧ ∀ g ∈ (B j).ob.toList, g ∉ (B k).ob.toList
  hd : ∀ j, j < 4 → ∀ w, ws j = some w → NE w ∧ w.steps ≤ i
section
variable {w0 W W' : World} {rb bm bw ab sb : Nat} {r : RRack} {M : List Nat} {u : Nat} {ws : Nat → Option RWork} {B : Nat → WB} {sg : Nat → Nat} {pt : Bool} {i : Nat}
theorem WO.pos (h : WO w0 W rb bm bw ab sb r M u ws B sg pt i) (hT : TabW w0) : 0 < w0.heap.size := World.block_lt_of_cell? _ _ (hT 0 (by decide))
theorem Rest.away {S : List Nat} (h : Rest w0 W rb bm bw r M u) (C : Chg S W W') (hS : ∀ g ∈ S, w0.heap.size ≤ g ∧ g ≠ rb ∧ g ≠ bm ∧ g ≠ bw) (h0 : 0 ∉ S) : Rest w0 W' rb bm bw r M u :=
  ⟨Blk.chg h.rk C (fun hm => (hS _ hm).2.1 rfl), h.mem.chg C (fun hm => (hS _ hm).2.2.1 rfl) (fun hm => (hS _ hm).2.2.2 rfl), h.ok, tab_chg h.tab C h0, h.chg.then C (fun g hg => .inr (hS g hg).1), h.l1, h.l2, h.l3⟩
theorem WO.keep (h : WO w0 W rb bm bw ab sb r M u ws B sg pt i) (C : Chg [] W W') : WO w0 W' rb bm bw ab sb r M u ws B sg pt i :=
  ⟨h.rest.away C (by simp) (by simp), h.arr.chg C (by simp), h.st.chg C (by simp), h.la, h.ls, fun j hj w hw => (h.wk j hj w hw).chg C (by simp) (by simp) (by simp), h.ap, h.hd⟩
theorem WO.up (h : WO w0 W rb bm bw ab sb r M u ws B sg pt i) {i' : Nat} (hi : i ≤ i') : WO w0 W rb bm bw ab sb r M u ws B sg pt i' :=
  { h with hd := fun j hj w hw => ⟨(h.hd j hj w hw).1, by have := (h.hd j hj w hw).2; omega⟩ }
theorem WO.marks (h : WO w0 W rb bm bw ab sb r M u ws B sg pt i) (hT : TabW w0) (C : Chg [sb] W W') {sg' : Nat → Nat} (hB : Blk W' sb (stS sg') 3) : WO w0 W' rb bm bw ab sb r M u ws B sg' pt i := by
  have h0 := h.pos hT
  have a1 : sb ≠ rb := blk_ne h.st h.rest.rk (by decide)
  have a2 : sb ≠ bm := blk_ne h.st h.rest.mem.head (by decide)
  have a3 : sb ≠ bw := blk_ne h.st h.rest.mem.row (by decide)
  have a4 : ab ≠ sb := blk_ne h.arr h.st (by decide)
  have ls := h.ls
  refine ⟨h.rest.away C (fun g hg => by simp at hg; subst hg; exact ⟨ls, a1, a2, a3⟩) (by simp; omega), h.arr.chg C (by simp; exact a4), hB, h.la, h.ls, fun j hj w hw => ?_, h.ap, h.hd⟩
  have K := h.wk j hj w hw
  refine K.chg C (by simp; exact blk_ne K.wk h.st (by decide)) (fun g hg => ?_) (fun g hg v => ?_)
  · obtain ⟨o, ho⟩ := K.op.blk hg
    simp; exact blk_ne ho h.st (by decide)
  · simp at hg; subst hg; exact noBox h.st (by decide) v
theorem WO.mark (h : WO w0 W rb bm bw ab sb r M u ws B sg pt i) (hT : TabW w0) (x v : Nat) : WO w0 (W.setCell ⟨sb, x, none⟩ (.int .i64 (v : Nat))) rb bm bw ab sb r M u ws B (updS sg x v) pt i :=
  h.marks hT ((Chg.refl _ _).setCell (.inl (by simp)) _) (by rw [← stS_set]; exact h.st.setCell x _)
theorem WO.rig (h : WO w0 W rb bm bw ab sb r M u ws B sg pt i) {j : Nat} (hj : j < 4) {w : RWork} (hw : ws j = some w) : Rig W (B j).wb rb bm bw (B j).gv (B j).ob r w M u := by
  have K := h.wk j hj w hw
  exact ⟨K.wk, h.rest.rk, h.rest.mem, K.op, h.rest.ok, K.kind, K.level, K.steps⟩
theorem WO.good (h : WO w0 W rb bm bw ab sb r M u ws B sg pt i) {j : Nat} (hj : j < 4) {w : RWork} (hw : ws j = some w) (hb : j = 0 → pt = true) {W1 : World} (C : Chg ((B j).wb :: rb :: bm :: bw :: (B j).ob.toList) W W1) : GoodF W1 (B j).wb (B j).gv gT := by
  have K := h.wk j hj w hw
  obtain ⟨cb, e, Bx⟩ := K.bx hb
  rw [e, show gT = (fun x => !decide (x ∈ ([] : List Nat))) from by funext x; simp [gT]]
  have hne : cb ∉ ((B j).wb :: rb :: bm :: bw :: (B j).ob.toList) := by
    intro hm
    simp only [List.mem_cons] at hm
    rcases hm with rfl | rfl | rfl | rfl | hm
    · exact noBox K.wk (by decide) _ Bx
    · exact noBox h.rest.rk (by decide) _ Bx
    · exact noBox h.rest.mem.head (by decide) _ Bx
    · exact noBox h.rest.mem.row (by decide) _ Bx
    · obtain ⟨o, ho⟩ := K.op.blk hm
      exact noBox ho (by decide) _ Bx
  exact goodF_b1 (Bx.chg C hne) (fun hm => hne (by rw [hm]; simp)) (fun W2 _ => Reads.nil _ _ _)
/-- A step of one work. -/
theorem WO.stepped (h : WO w0 W rb bm bw ab sb r M u ws B sg pt i) (hT : TabW w0) {j : Nat} (hj : j < 4) {w : RWork} (hw : ws j = some w) {r' : RRack} {w' : RWork} {M' : List Nat} {u' : Nat} {ob' : Option Nat}
    (G : Rig W' (B j).wb rb bm bw (B j).gv ob' r' w' M' u') (C : Chg ((B j).wb :: rb :: bm :: bw :: (B j).ob.toList) W W') (ho : ob' = (B j).ob ∨ ∃ g, ob' = some g ∧ W.heap.size ≤ g) {i' : Nat} (hi : i ≤ i') (hN : NE w') (hs : w'.steps ≤ i') :
    WO w0 W' rb bm bw ab sb r' M' u' (updW ws j w') (updB B j ⟨(B j).wb, (B j).gv, ob'⟩) sg pt i' := by
  have K := h.wk j hj w hw
  have h0 := h.pos hT
  have hsz := h.rest.chg.size
  have hS : ∀ g ∈ ((B j).wb :: rb :: bm :: bw :: (B j).ob.toList), w0.heap.size ≤ g := by
    intro g hg
    simp only [List.mem_cons] at hg
    rcases hg with rfl | rfl | rfl | rfl | hg
    · exact K.lw
    · exact h.rest.l1
    · exact h.rest.l2
    · exact h.rest.l3
    · exact K.lo g hg
  have ty : ∀ {g : Nat} {cs : Array Value} {t : TypeId}, Blk W g cs t → t ≠ 81 → t ≠ 75 → t ≠ 68 → t ≠ 30 → t ≠ 91 → g ∉ ((B j).wb :: rb :: bm :: bw :: (B j).ob.toList) := by
    intro g cs t hb n1 n2 n3 n4 n5 hg
    simp only [List.mem_cons] at hg
    rcases hg with rfl | rfl | rfl | rfl | hg
    · exact n1 (Blk.inj (w := W) hb K.wk).2
    · exact n2 (Blk.inj (w := W) hb h.rest.rk).2
    · exact n3 (Blk.inj (w := W) hb h.rest.mem.head).2
    · exact n4 (Blk.inj (w := W) hb h.rest.mem.row).2
    · obtain ⟨o, ho⟩ := K.op.blk hg
      exact n5 (Blk.inj (w := W) hb ho).2
  have obl : ∀ k, k < 4 → k ≠ j → ∀ w2, ws k = some w2 → (B k).wb ≠ (B j).wb ∧ (∀ g ∈ (B k).ob.toList, g ∉ (B j).ob.toList) ∧ (∀ g ∈ (B k).ob.toList, g < W.heap.size) := by
    intro k hk hne w2 hw2
    obtain ⟨a1, a2⟩ := h.ap k j hk hj hne (by rw [hw2]; simp) (by rw [hw]; simp)
    refine ⟨a1, a2, fun g hg => ?_⟩
    obtain ⟨o, ho⟩ := (h.wk k hk w2 hw2).op.blk hg
    exact Blk.lt ho
  refine ⟨⟨G.rk, G.mem, G.ok, tab_chg h.rest.tab C (fun hm => by have := hS 0 hm; omega), h.rest.chg.then C (fun g hg => .inr (hS g hg)), h.rest.l1, h.rest.l2, h.rest.l3⟩, ?_, h.st.chg C (ty h.st (by decide) (by decide) (by decide) (by decide) (by decide)), h.la, h.ls, fun k hk w2 hw2 => ?_, fun a b ha hb hab hwa hwb => ?_, fun k hk w2 hw2 => ?_⟩
  · rw [ptrB_upd ws B w w' hw ⟨(B j).wb, (B j).gv, ob'⟩ rfl]
    exact h.arr.chg C (ty h.arr (by decide) (by decide) (by decide) (by decide) (by decide))
  · by_cases e : k = j
    · subst e
      rw [updW_same] at hw2; cases hw2
      rw [updB_same]
      refine ⟨G.wk, G.op, G.kind, G.level, G.steps, K.lw, fun g hg => ?_, fun q => ?_⟩
      · rcases ho with rfl | ⟨g', rfl, h2⟩
        · exact K.lo g hg
        · simp at hg; subst hg; omega
      · obtain ⟨cb, e, Bx⟩ := K.bx q
        exact ⟨cb, e, Bx.chg C (ty Bx (by decide) (by decide) (by decide) (by decide) (by decide))⟩
    · rw [updW_other _ _ e] at hw2
      rw [updB_other _ _ e]
      have K2 := h.wk k hk w2 hw2
      obtain ⟨o1, o2, _⟩ := obl k hk e w2 hw2
      refine K2.chg C ?_ (fun g hg => ?_) (fun g hg v hb => ?_)
      · intro hm
        simp only [List.mem_cons] at hm
        rcases hm with q | q | q | q | hm
        · exact o1 q
        · exact blk_ne K2.wk h.rest.rk (by decide) q
        · exact blk_ne K2.wk h.rest.mem.head (by decide) q
        · exact blk_ne K2.wk h.rest.mem.row (by decide) q
        · obtain ⟨o, ho⟩ := K.op.blk hm
          exact blk_ne K2.wk ho (by decide) rfl
      · obtain ⟨o, hop⟩ := K2.op.blk hg
        intro hm
        simp only [List.mem_cons] at hm
        rcases hm with rfl | rfl | rfl | rfl | hm
        · exact blk_ne hop K.wk (by decide) rfl
        · exact blk_ne hop h.rest.rk (by decide) rfl
        · exact blk_ne hop h.rest.mem.head (by decide) rfl
        · exact blk_ne hop h.rest.mem.row (by decide) rfl
        · exact o2 g hg hm
      · exact ty hb (by decide) (by decide) (by decide) (by decide) (by decide) hg
  · have key : ∀ k, k < 4 → k ≠ j → updW ws j w' k ≠ none → (B k).wb ≠ (B j).wb ∧ (∀ g ∈ (B k).ob.toList, g ∉ ob'.toList) := by
      intro k hk hne hwk
      rw [updW_other _ _ hne] at hwk
      obtain ⟨w2, hw2⟩ : ∃ w2, ws k = some w2 := by cases q : ws k with | none => exact absurd q hwk | some w2 => exact ⟨w2, rfl⟩
      obtain ⟨o1, o2, o3⟩ := obl k hk hne w2 hw2
      refine ⟨o1, fun g hg => ?_⟩
      rcases ho with rfl | ⟨g', rfl, h2⟩
      · exact o2 g hg
      · have := o3 g hg
        simp; omega
    by_cases ea : a = j
    · subst ea
      obtain ⟨o1, o2⟩ := key b hb (Ne.symm hab) hwb
      rw [updB_same, updB_other _ _ (Ne.symm hab)]
      exact ⟨Ne.symm o1, fun g hg hg2 => o2 g hg2 hg⟩
    · by_cases eb : b = j
      · subst eb
        obtain ⟨o1, o2⟩ := key a ha ea hwa
        rw [updB_same, updB_other _ _ ea]
        exact ⟨o1, o2⟩
      · rw [updB_other _ _ ea, updB_other _ _ eb]
        rw [updW_other _ _ ea] at hwa
        rw [updW_other _ _ eb] at hwb
        exact h.ap a b ha hb hab hwa hwb
  · by_cases e : k = j
    · subst e
      rw [updW_same] at hw2; cases hw2
      exact ⟨hN, hs⟩
    · rw [updW_other _ _ e] at hw2
      have := h.hd k hk w2 hw2
      exact ⟨this.1, by omega⟩
/-- A new work. -/
theorem WO.begun (h : WO w0 W rb bm bw ab sb r M u ws B sg pt i) (hT : TabW w0) {j : Nat} (hj : j < 4) {w : RWork} {W1 : World} {b : WB} (G : Rig W1 b.wb rb bm bw b.gv b.ob r w M u) (C : Chg [] W W1) (hb : W.heap.size ≤ b.wb) (ho : ∀ g ∈ b.ob.toList, W.heap.size ≤ g) {pt' : Bool} (hp : j ≠ 0 → pt' = pt) (hx : (j = 0 → pt' = true) → Box W1 b.gv (.slice none 0 0)) (hN : NE w) (hs : w.steps ≤ i)
    (hw' : W' = W1.setCell ⟨ab, j, none⟩ (.pointer (some ⟨b.wb, 0, none⟩))) : WO w0 W' rb bm bw ab sb r M u (updW ws j w) (updB B j b) sg pt' i := by
  have h1 := h.keep C
  have h0 := h.pos hT
  have hsz := h.rest.chg.size
  have CS : Chg [ab] W1 W' := by rw [hw']; exact (Chg.refl _ _).setCell (.inl (by simp)) _
  have a1 : ab ≠ rb := blk_ne h.arr h.rest.rk (by decide)
  have a2 : ab ≠ bm := blk_ne h.arr h.rest.mem.head (by decide)
  have a3 : ab ≠ bw := blk_ne h.arr h.rest.mem.row (by decide)
  have la := h.la
  have old : ∀ k, k < 4 → ∀ w2, ws k = some w2 → (B k).wb < W.heap.size ∧ (∀ g ∈ (B k).ob.toList, g < W.heap.size) := by
    intro k hk w2 hw2
    have K := h.wk k hk w2 hw2
    refine ⟨Blk.lt K.wk, fun g hg => ?_⟩
    obtain ⟨o, ho⟩ := K.op.blk hg
    exact Blk.lt ho
  refine ⟨h1.rest.away CS (fun g hg => by simp at hg; subst hg; exact ⟨la, a1, a2, a3⟩) (by simp; omega), ?_, h1.st.chg CS (by simp; exact blk_ne h.st h.arr (by decide)), h.la, h.ls, fun k hk w2 hw2 => ?_, fun a c ha hc hac hwa hwc => ?_, fun k hk w2 hw2 => ?_⟩
  · rw [hw', ← ptrB_set ws B hj w b]; exact h1.arr.setCell j _
  · by_cases e : k = j
    · subst e
      rw [updW_same] at hw2; cases hw2
      rw [updB_same]
      have K : Wks w0 W1 rb b w (k = 0 → pt' = true) := ⟨G.wk, G.op, G.kind, G.level, G.steps, by omega, fun g hg => by have := ho g hg; omega, hx⟩
      refine K.chg CS (by simp; exact blk_ne K.wk h1.arr (by decide)) (fun g hg => ?_) (fun g hg v => ?_)
      · obtain ⟨o, ho⟩ := K.op.blk hg
        simp; exact blk_ne ho h1.arr (by decide)
      · simp at hg; subst hg; exact noBox h1.arr (by decide) v
    · rw [updW_other _ _ e] at hw2
      rw [updB_other _ _ e]
      have K0 := h1.wk k hk w2 hw2
      have K : Wks w0 W1 rb (B k) w2 (k = 0 → pt' = true) := { K0 with bx := fun q => K0.bx (fun q0 => by rw [← hp (by omega)]; exact q q0) }
      refine K.chg CS (by simp; exact blk_ne K.wk h1.arr (by decide)) (fun g hg => ?_) (fun g hg v => ?_)
      · obtain ⟨o, ho⟩ := K.op.blk hg
        simp; exact blk_ne ho h1.arr (by decide)
      · simp at hg; subst hg; exact noBox h1.arr (by decide) v
  · have key : ∀ k, k < 4 → k ≠ j → updW ws j w k ≠ none → (B k).wb < W.heap.size ∧ (∀ g ∈ (B k).ob.toList, g < W.heap.size) := by
      intro k hk hne hwk
      rw [updW_other _ _ hne] at hwk
      obtain ⟨w2, hw2⟩ : ∃ w2, ws k = some w2 := by cases q : ws k with | none => exact absurd q hwk | some w2 => exact ⟨w2, rfl⟩
      exact old k hk w2 hw2
    by_cases ea : a = j
    · subst ea
      obtain ⟨o1, o2⟩ := key c hc (Ne.symm hac) hwc
      rw [updB_same, updB_other _ _ (Ne.symm hac)]
      exact ⟨by omega, fun g hg hg2 => by have := o2 g hg2; have := ho g hg; omega⟩
    · by_cases eb : c = j
      · subst eb
        obtain ⟨o1, o2⟩ := key a ha ea hwa
        rw [updB_same, updB_other _ _ ea]
        exact ⟨by omega, fun g hg hg2 => by have := o2 g hg; have := ho g hg2; omega⟩
      · rw [updB_other _ _ ea, updB_other _ _ eb]
        rw [updW_other _ _ ea] at hwa
        rw [updW_other _ _ eb] at hwc
        exact h.ap a c ha hc hac hwa hwc
  · by_cases e : k = j
    · subst e
      rw [updW_same] at hw2; cases hw2
      exact ⟨hN, hs⟩
    · rw [updW_other _ _ e] at hw2
      exact h.hd k hk w2 hw2
/-- The owner's last work is at its end. -/
theorem WO.ended (h : WO w0 W rb bm bw ab sb r M u ws B sg pt i) (hT : TabW w0) {j : Nat} (hj : j < 4) {w : RWork} (hw : ws j = some w) {s : RRack × RWork × List Nat × Nat} {ob' : Option Nat}
    (G : Rig W' (B j).wb rb bm bw (B j).gv ob' s.1 s.2.1 s.2.2.1 s.2.2.2) (C : Chg ((B j).wb :: rb :: bm :: bw :: (B j).ob.toList) W W') (ho : ob' = (B j).ob ∨ ∃ g, ob' = some g ∧ W.heap.size ≤ g) (hN : NE s.2.1) : ∃ ws' B' i', WO w0 W' rb bm bw ab sb s.1 s.2.2.1 s.2.2.2 ws' B' sg pt i' :=
  ⟨_, _, _, h.stepped hT hj hw G C ho (i' := i + s.2.1.steps) (by omega) hN (by omega)⟩
end
set_option maxHeartbeats 8000000 in
theorem wallA_any (W : World) (wb rb bm bw : Nat) (gv : Value) (ob : Option Nat) (r : RRack) (w : RWork) (M : List Nat) (u : Nat) (h : Rig W wb rb bm bw gv ob r w M u) (good : Nat → Bool) (hT : TabW W) {bx : Prop}
    (hw : w.done = false) (n : Nat) (hn : n < 9000) (hd : (itR good n (r, w, M, u)).2.1.done = true)
    (hc : ∀ k, k < n → (itR good k (r, w, M, u)).2.1.done = false → (itR good k (r, w, M, u)).2.1.steps < 1000000 ∧ Fit (itR good k (r, w, M, u)).2.1 ∧ (Asks (itR good k (r, w, M, u)).2.1 → bx))
    (hG : bx → ∀ W', Chg (wb :: rb :: bm :: bw :: ob.toList) W W' → GoodF W' wb gv good) :
    Calls Tryd.prog 10 #[.pointer (some ⟨wb, 0, none⟩), .pointer (some ⟨bm, 0, none⟩)] W fun e W' => e = .returned (.tuple #[.int .u64 ((resR (itR good n (r, w, M, u)).2.1).1 : Nat), .int .i64 (resR (itR good n (r, w, M, u)).2.1).2.1, .int .i64 (resR (itR good n (r, w, M, u)).2.1).2.2]) ∧
      ∃ ob', Rig W' wb rb bm bw gv ob' (itR good n (r, w, M, u)).1 (itR good n (r, w, M, u)).2.1 (itR good n (r, w, M, u)).2.2.1 (itR good n (r, w, M, u)).2.2.2 ∧ Chg (wb :: rb :: bm :: bw :: ob.toList) W W' ∧ (ob' = ob ∨ ∃ g, ob' = some g ∧ W.heap.size ≤ g) := by
  obtain ⟨s0, hs0⟩ : ∃ s0, s0 = (r, w, M, u) := ⟨_, rfl⟩
  rw [← hs0] at hd hc ⊢
  obtain ⟨SN, hSN⟩ : ∃ SN, SN = itR good n s0 := ⟨_, rfl⟩
  rw [← hSN] at hd ⊢
  have HH := Lib.hid (show Rig W wb rb bm bw gv ob s0.1 s0.2.1 s0.2.2.1 s0.2.2.2 ∧ TabW W ∧ 0 ∉ (wb :: rb :: bm :: bw :: ob.toList) ∧ s0.2.1.done = false from by rw [hs0]; exact ⟨h, hT, h.ne0 hT, hw⟩)
  have HC := Lib.hid hc
  have HGG := Lib.hid hG
  clear hG
  have HN := Lib.hid (And.intro hSN hd)
  clear h hT hs0 hc hd hSN hw
  go_enter Tryd.func10, Tryd.ntmps10
  go_wp2_with fail
  go_loopw [7] (fun x7 wr => ∃ (k : Nat) (s : RRack × RWork × List Nat × Nat) (obr : Option Nat), k ≤ n ∧ x7 = .int .i64 k ∧ s = itR good k s0 ∧ s.2.1.done = false ∧ Rig wr wb rb bm bw gv obr s.1 s.2.1 s.2.2.1 s.2.2.2 ∧ Chg (wb :: rb :: bm :: bw :: ob.toList) W wr ∧ (obr = ob ∨ ∃ g, obr = some g ∧ W.heap.size ≤ g)) (fun x7 _ => 9000 - (intOf x7).toNat)
  case atStart => exact ⟨0, s0, ob, by omega, rfl, rfl, HH.out.2.2.2, HH.out.1, Chg.refl _ _, .inl rfl⟩
  case round =>
    rename_i wr _
    obtain ⟨k, s, obr, hk, rfl, hs, hd1, G, C, hob⟩ := hrel
    have hkn : k < n := by
      rcases Nat.lt_or_ge k n with h | h
      · exact h
      · obtain rfl : k = n := by omega
        have := HN.out.2; rw [HN.out.1, ← hs, hd1] at this; simp at this
    have hst := HC.out k hkn
    rw [← hs] at hst
    obtain ⟨r1, w1, M1, u1⟩ := s
    have T1 : TabW wr := tab_chg HH.out.2.1 C HH.out.2.2.1
    have HST := Lib.hid (wstepA_any wr wb rb bm bw gv obr r1 w1 M1 u1 G good T1 (hst hd1).1 (fun h => (hst h).2.1) (fun h a => HGG.out ((hst h).2.2 a) _ C))
    obtain ⟨S, hS⟩ : ∃ S, S = stepR good r1 w1 M1 u1 := ⟨_, rfl⟩
    rw [← hS] at HST
    have hS' : S = itR good (k + 1) s0 := by rw [itR_succ, ← hs, hS]
    have HRES := Lib.hid (fun (W' : World) (ob' : Option Nat) (G : Rig W' wb rb bm bw gv ob' S.1 S.2.1 S.2.2.1 S.2.2.2) => wresult_any W' wb rb gv ob' S.2.1 G.wk)
    have HCH := Lib.hid (show ∀ W' ob', Chg (wb :: rb :: bm :: bw :: obr.toList) wr W' → (ob' = obr ∨ ∃ g, ob' = some g ∧ wr.heap.size ≤ g) → Chg (wb :: rb :: bm :: bw :: ob.toList) W W' ∧ (ob' = ob ∨ ∃ g, ob' = some g ∧ W.heap.size ≤ g) from by
      intro W' ob' C' h'
      have hsz := C.size
      constructor
      · refine C.then C' fun g hg => ?_
        simp only [List.mem_cons] at hg ⊢
        rcases hg with rfl | rfl | rfl | rfl | hg
        · exact .inl (.inl rfl)
        · exact .inl (.inr (.inl rfl))
        · exact .inl (.inr (.inr (.inl rfl)))
        · exact .inl (.inr (.inr (.inr (.inl rfl))))
        · rcases hob with rfl | ⟨g', rfl, h2⟩
          · exact .inl (.inr (.inr (.inr (.inr hg))))
          · simp at hg; subst hg; exact .inr h2
      · rcases h' with rfl | ⟨g', rfl, h2⟩
        · exact hob
        · exact .inr ⟨g', rfl, by omega⟩)
    have HS' := Lib.hid hS'
    clear hs G C hob T1 hst hS hS' hd1
    have hk9 : (k : Int) < 9000 := by omega
    obtain ⟨dn, hdn⟩ : ∃ dn, dn = S.2.1.done := ⟨_, rfl⟩
    rw [← hdn] at HST
    have HDN := Lib.hid hdn
    clear hdn
    cases dn with
    | false =>
      go_wp2_with (go_at_call 23; refine HST.out.mono ?_; rintro e w2 ⟨rfl, ob', G2, C2, O2⟩; have HG := Lib.hid (And.intro G2 (HCH.out _ _ C2 O2)); clear G2 C2 O2)
      go_roundw
      case rel => exact ⟨k + 1, S, ob', by omega, by go_num, HS'.out, HDN.out.symm, HG.out.1, HG.out.2.1, HG.out.2.2⟩
      case measure => simp [intOf] <;> omega
    | true =>
      have hSN : S = SN := by
        rw [HN.out.1, show n = (k + 1) + (n - (k + 1)) from by omega, itR_add, ← HS'.out, itR_done HDN.out.symm]
      subst hSN
      go_wp2_with (first
        | (go_at_call 23; refine HST.out.mono ?_; rintro e w2 ⟨rfl, ob', G2, C2, O2⟩; have HR2 := Lib.hid (HRES.out _ _ G2); have HG := Lib.hid (And.intro G2 (HCH.out _ _ C2 O2)); clear G2 C2 O2)
        | (go_at_call 24; refine HR2.out.mono ?_; rintro e w3 ⟨rfl, C3⟩))
      go_ret3
      refine ⟨rfl, ob', ⟨Blk.chg HG.out.1.wk C3 (by simp), Blk.chg HG.out.1.rk C3 (by simp), HG.out.1.mem.chg C3 (by simp) (by simp), HG.out.1.opChg (C3.mono (by simp)), HG.out.1.ok, HG.out.1.kind, HG.out.1.level, HG.out.1.steps⟩, HG.out.2.1.then C3 (by simp), HG.out.2.2⟩
end Go.Proofs.YtjdbgohfedjifaaDoor
