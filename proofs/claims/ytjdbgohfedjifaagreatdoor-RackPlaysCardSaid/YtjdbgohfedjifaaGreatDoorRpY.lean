/- rack, plays: the law's calls at a world that holds. -/
import Derived.Test.YtjdbgohfedjifaaGreatDoorRpX
import Derived.Test.YtjdbgohfedjifaaGreatDoorRpO
import Derived.Test.YtjdbgohfedjifaaGreatDoorRpAl
namespace Go.Proofs.YtjdbgohfedjifaaGreatDoor
open Go.RowKit Bosun
/-- What tells of a word for a work. -/
def goodL (l : List Nat) : Nat → Bool := fun x => !decide (x ∈ l)
section
variable {w0 W W' W1 W2 W3 W4 : World} {rb bm bw sb nm nw ab bb : Nat} {r : RRack} {M : List Nat} {u : Nat} {ws : Nat → Option RWork} {B : Nat → PB} {n i : Nat}
theorem WP.pageStep (h : WP w0 W rb bm bw sb nm nw ab bb r M u ws B n i) {k : Nat} (hk : k < 4) {w : RWork} (hA : ws k = some w) (hi : i < 1000) :
    Calls Tryz.prog 12 #[.pointer (some ⟨(B k).wb, 0, none⟩), .pointer (some ⟨bm, 0, none⟩)] W fun e W' => e = .returned (.bool (stepR (goodL (B k).l0) r w M u).2.1.done) ∧ ∃ ob', Rig W' (B k).wb rb bm bw (B k).gv ob' (stepR (goodL (B k).l0) r w M u).1 (stepR (goodL (B k).l0) r w M u).2.1 (stepR (goodL (B k).l0) r w M u).2.2.1 (stepR (goodL (B k).l0) r w M u).2.2.2 ∧ Chg (PgS rb bm bw (B k)) W W' ∧ (ob' = (B k).ob ∨ ∃ g, ob' = some g ∧ W.heap.size ≤ g) := by
  have K := h.wk k hk w hA
  have hs := h.hd k hk w hA
  refine wstepA_any W (B k).wb rb bm bw (B k).gv (B k).ob r w M u (h.rig hk hA) (goodL (B k).l0) h.rest.tab (by omega) (fun hd => K.pln.fit hd) (fun _ ha => ?_)
  have hq : (B k).name = 0 ∨ (B k).name = 2 := by
    rw [K.name]
    rcases ha with q | q <;> rw [q]
    · exact .inl rfl
    · exact .inr rfl
  obtain ⟨cb, e, Bx⟩ := K.bx hq
  rw [e]
  refine goodF_b1 Bx (blk_ne Bx K.wk (by decide)) (fun W2 C => h.reads hk hA C (fun g hg => ?_))
  simp at hg; subst hg; exact K.lw
theorem WP.docStep (h : WP w0 W rb bm bw sb nm nw ab bb r M u ws B n i) {k : Nat} (hk : k < 4) {w : RWork} (hA : ws k = some w) (hi : i < 1000) (C1 : Chg (PgS rb bm bw (B k)) W W1) :
    Calls Tryz.prog 13 #[.pointer (some ⟨(B k).qb, 0, none⟩), .pointer (some ⟨nm, 0, none⟩)] W1 fun e W' => e = .returned (.bool (stepR (goodL (B k).l0) r w M u).2.1.done) ∧ QStepped W1 W' (B k).qb sb nm nw (B k).name (B k).bad (B k).obq (stepR (goodL (B k).l0) r w M u) := by
  have K := h.wk k hk w hA
  have hs := h.hd k hk w hA
  refine qstep_any W1 (B k).qb sb nm nw (B k).name (B k).xq (B k).bad (B k).at_ (B k).obq (B k).oo r w M u (h.mid hk hA C1) K.pln K.name K.doc (by omega) (goodL (B k).l0) (B k).l0 (fun W2 C => ?_) (fun _ x => rfl)
  have hsz := h.rest.chg.size
  exact K.rd.keep ((h.rest.chg.then C1 (fun g hg => .inr (h.lowP hk hA g hg))).then C (fun g hg => .inr (h.lowD hk hA g hg)))
theorem WP.likeAt (h : WP w0 W rb bm bw sb nm nw ab bb r M u ws B n i) {k : Nat} (hk : k < 4) {w : RWork} (hA : ws k = some w) :
    Calls Tryz.prog 11 #[.pointer (some ⟨(B k).wb, 0, none⟩), .pointer (some ⟨(B k).qb, 0, none⟩), .pointer (some ⟨bm, 0, none⟩), .pointer (some ⟨nm, 0, none⟩)] W fun e W' => e = .returned (.bool true) ∧ Chg [] W W' := by
  have K := h.wk k hk w hA
  exact like_any W _ _ _ _ _ _ _ _ _ _ (h.rig hk hA) _ _ _ _ _ _ _ _ _ _ (h.qig hk hA) K.pln K.name K.doc
/-- A new work, plainly. -/
theorem beginW_is {r : RRack} (okr : OkRack r) (k name x : Nat) (hx : x < 18446744073709551616) (lvl : Int) (pin : Bool) :
    Pln r (beginW r k name x lvl pin) ∧ nameQ k name = nameR (beginW r k name x lvl pin).next ∧ Doc r (beginW r k name x lvl pin) (beginW r k name x lvl pin).x 0 none none ∧ (beginW r k name x lvl pin).steps = 0 ∧ (0 < k → nameR (beginW r k name x lvl pin).next = 2) := by
  unfold beginW nameQ
  by_cases h2 : k = 0 ∧ name % 4 = 2
  · rw [if_pos h2, if_pos h2]
    exact ⟨⟨fun _ => ⟨(by show 0 < _; omega), (by show 0 < _; omega), (by show 0 < _; omega), (fun q => by rcases q with q | q <;> cases q), (fun q => by rcases q with q | q | q | q <;> cases q), (fun q => by cases q), (fun q => by cases q), (fun q => by cases q)⟩, (fun o q => by cases q), rfl, fun _ => rfl, (fun q => by cases q), (fun q => by cases q), (fun _ q => by cases q), fun _ _ => ⟨rfl, rfl⟩⟩, rfl, ⟨fun _ => rfl, .inl ⟨rfl, fun _ => ⟨rfl, rfl⟩⟩⟩, rfl, fun q => by omega⟩
  · rw [if_neg h2, if_neg h2]
    by_cases h3 : k = 0 ∧ name % 4 = 3
    · rw [if_pos h3, if_pos h3]
      exact ⟨⟨fun _ => ⟨(by show 0 < _; omega), (by show 0 < _; omega), (by show 0 < _; omega), (fun q => by rcases q with q | q <;> cases q), (fun q => by rcases q with q | q | q | q <;> cases q), (fun q => by cases q), (fun q => by cases q), fun q => rfl⟩, (fun o q => by cases q), rfl, fun _ => rfl, (fun q => by cases q), (fun q => by cases q), (fun _ q => by cases q), fun _ _ => ⟨rfl, rfl⟩⟩, rfl, ⟨fun _ => rfl, .inl ⟨rfl, fun _ => ⟨rfl, rfl⟩⟩⟩, rfl, fun q => by omega⟩
    · rw [if_neg h3, if_neg h3]
      by_cases hk : 0 < k
      · rw [if_pos hk, if_pos hk]
        exact ⟨⟨fun _ => ⟨(by show 0 < _; omega), (by show 0 < _; omega), (by show 0 < _; omega), (fun q => by rcases q with q | q <;> cases q), (fun q => by rcases q with q | q | q | q <;> cases q), (fun q => by cases q), (fun q => by cases q), (fun q => by cases q)⟩, (fun o q => by cases q), rfl, fun _ => rfl, (fun q => by cases q), (fun q => by cases q), (fun _ q => by cases q), fun _ _ => ⟨rfl, rfl⟩⟩, rfl, ⟨fun _ => rfl, .inl ⟨rfl, fun _ => ⟨rfl, rfl⟩⟩⟩, rfl, fun _ => rfl⟩
      · rw [if_neg hk, if_neg hk]
        have hk2 : (if pin then 1 else 0 : Nat) < 2 := by split <;> omega
        have ha := atOk okr hk2 (holdL_lt lvl)
        exact ⟨⟨fun _ => ⟨hx, (by show 0 < _; omega), (by show 0 < _; omega), fun _ => ⟨_, rfl, rfl, rfl⟩, (fun q => by rcases q with q | q | q | q <;> cases q), (fun q => by cases q), (fun q => by cases q), (fun q => by cases q)⟩, (fun o q => by cases q; exact OkOp.new ha.1 ha.2 okr.cap (by omega) hx), rfl, fun q => absurd rfl q, (fun _ q => by cases q), (fun _ q => by cases q), (fun _ q => by cases q), (fun _ q => by rcases q with q | q | q <;> cases q)⟩, rfl, ⟨fun _ => rfl, .inr ⟨rfl, rfl, rfl, rfl, rfl, rfl, rfl⟩⟩, rfl, fun q => absurd q hk⟩
/-- The words that a new work is told false of, where they lie. -/
def badV (k name : Nat) (ao : Option Addr) (m c : Nat) : Value := if k = 0 ∧ (name % 4 = 2 ∨ name % 4 = 3) then .slice none 0 0 else .slice ao (min m 20) c
def badL (k name : Nat) (l : List Nat) : List Nat := if k = 0 ∧ (name % 4 = 2 ∨ name % 4 = 3) then [] else l.take 20
theorem badV_reads {w : World} (k name : Nat) {ao : Option Addr} {m c : Nat} {l : List Nat} (h : Reads w (.slice ao m c) (words l)) : Reads w (badV k name ao m c) (words (badL k name l)) := by
  unfold badV badL
  split
  · exact Reads.nil _ _ _
  · exact (few_reads h).2.2
/-- A worker begins: the page's work, then the document's. -/
theorem WP.begins (h : WP w0 W rb bm bw sb nm nw ab bb r M u ws B n i) (hT : TabW w0) {k : Nat} (hk : k < 4) (name x : Nat) (hx : x < 18446744073709551616) (lvl : Int) (pin : Bool) {ao : Option Addr} {m c : Nat} {l : List Nat} (hrd : Reads w0 (.slice ao m c) (words l))
    {wb : Nat} {gv : Value} {ob : Option Nat} (G : Rig W1 wb rb bm bw gv ob r (beginW r k name x lvl pin) M u) (C1 : Chg [] W W1) (hwb : W.heap.size ≤ wb) (hob : ∀ g ∈ ob.toList, W.heap.size ≤ g) (hbx : ¬ (k = 0 ∧ (name % 4 = 2 ∨ name % 4 = 3)) → Box W1 gv (.slice ao (min m 20) c))
    (e2 : W2 = W1.setCell ⟨ab, k, none⟩ (.pointer (some ⟨wb, 0, none⟩))) {qb : Nat} (Q : Qig W3 qb sb nm nw (nameQ k name) (beginW r k name x lvl pin).x (badV k name ao m c) 0 none none r (beginW r k name x lvl pin) M u) (C3 : Chg [] W2 W3) (hqb : W2.heap.size ≤ qb)
    (e4 : W4 = W3.setCell ⟨bb, k, none⟩ (.pointer (some ⟨qb, 0, none⟩))) :
    WP w0 W4 rb bm bw sb nm nw ab bb r M u (updQ ws k (beginW r k name x lvl pin)) (updP B k ⟨wb, gv, ob, qb, nameQ k name, (beginW r k name x lvl pin).x, badV k name ao m c, 0, none, none, badL k name l⟩) n i := by
  obtain ⟨p1, p2, p3, p4, p5⟩ := beginW_is h.rest.ok k name x hx lvl pin
  refine h.begun hT hk (b := ⟨wb, gv, ob, qb, nameQ k name, (beginW r k name x lvl pin).x, badV k name ao m c, 0, none, none, badL k name l⟩) C1 G hwb hob (fun q => ?_) e2 C3 Q hqb rfl e4 p1 p2 p3 (badV_reads k name hrd) p5 p4
  have hn : ¬ (k = 0 ∧ (name % 4 = 2 ∨ name % 4 = 3)) := by
    intro hc
    change nameQ k name = 0 ∨ nameQ k name = 2 at q
    unfold nameQ at q
    rcases hc with ⟨a, b | b⟩
    · rw [if_pos ⟨a, b⟩] at q; omega
    · rw [if_neg (by omega), if_pos ⟨a, b⟩] at q; omega
  show Box W1 gv (badV k name ao m c)
  unfold badV
  rw [if_neg hn]
  exact hbx hn
end
end Go.Proofs.YtjdbgohfedjifaaGreatDoor
