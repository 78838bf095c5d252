/- rack, plays: a step of both works; two new works. -/
import Derived.Test.YtjdbgohfedjifaaGreatDoorRpW
namespace Go.Proofs.YtjdbgohfedjifaaGreatDoor
open Go.RowKit Bosun
section
variable {w0 W W' W1 W2 W3 W4 : World} {rb bm bw sb nm nw ab bb : Nat} {r : RRack} {M : List Nat} {u : Nat} {ws : Nat → Option RWork} {B : Nat → PB} {n i : Nat}
theorem Rig.awayP {W W' : World} {wb rb bm bw : Nat} {gv : Value} {ob : Option Nat} {r : RRack} {w : RWork} {M : List Nat} {u : Nat} {S : List Nat} (h : Rig W wb rb bm bw gv ob r w M u) (C : Chg S W W') (hS : ∀ g ∈ wb :: rb :: bm :: bw :: ob.toList, g ∉ S) : Rig W' wb rb bm bw gv ob r w M u :=
  ⟨h.wk.chg C (hS _ (by simp)), Blk.chg h.rk C (hS _ (by simp)), h.mem.chg C (hS _ (by simp)) (hS _ (by simp)), h.op.chgP C (fun g hg => hS g (by simp; exact .inr (.inr (.inr (.inr (by simpa using hg)))))), h.ok, h.kind, h.level, h.steps⟩
theorem Qig.awayP {qb sb nm nw name xq : Nat} {bad : Value} {at_ : Nat} {ob : Option Nat} {oo : Option DOp} {r : RRack} {w : RWork} {M : List Nat} {u : Nat} {S : List Nat} (h : Qig W qb sb nm nw name xq bad at_ ob oo r w M u) (C : Chg S W W') (hS : ∀ g ∈ qb :: sb :: nm :: nw :: ob.toList, g ∉ S) : Qig W' qb sb nm nw name xq bad at_ ob oo r w M u :=
  ⟨h.wk.chg C (hS _ (by simp)), Blk.chg h.rk C (hS _ (by simp)), h.mem.chg C (hS _ (by simp)) (hS _ (by simp)), h.op.chg C (fun g hg => hS g (by simp; exact .inr (.inr (.inr (.inr (by simpa using hg)))))), h.ok, h.kind, h.level, h.steps⟩
/-- A page's blocks and a document's lie apart. -/
theorem sepP {W : World} {wb rb bm bw : Nat} {gv : Value} {ob : Option Nat} {r : RRack} {w : RWork} {M : List Nat} {u : Nat} (G : Rig W wb rb bm bw gv ob r w M u) {qb sb nm nw name xq : Nat} {bad : Value} {at_ : Nat} {obq : Option Nat} {oo : Option DOp} {r' : RRack} {w' : RWork} {M' : List Nat} {u' : Nat} (Q : Qig W qb sb nm nw name xq bad at_ obq oo r' w' M' u') (hne : bw ≠ nw) :
    ∀ g ∈ wb :: rb :: bm :: bw :: ob.toList, g ∉ qb :: sb :: nm :: nw :: obq.toList := by
  intro g hg hq
  simp only [List.mem_cons] at hg hq
  have key : ∀ {cs : Array Value} {t : TypeId}, Blk W g cs t → t ≠ 43 → t ≠ 54 → t ≠ 59 → (t ≠ 35 ∨ g ≠ nw) → t ≠ 108 → False := by
    intro cs t hb n1 n2 n3 n4 n5
    rcases hq with q | q | q | q | hq
    · subst q; exact n1 (Blk.inj (w := W) hb Q.wk).2
    · subst q; exact n2 (Blk.inj (w := W) hb Q.rk).2
    · subst q; exact n3 (Blk.inj (w := W) hb Q.mem.head).2
    · rcases n4 with q' | q'
      · subst q; exact q' (Blk.inj (w := W) hb Q.mem.row).2
      · exact q' q
    · obtain ⟨o, ho⟩ := Q.op.blk hq
      exact n5 (Blk.inj (w := W) hb ho).2
  rcases hg with q | q | q | q | hg
  · subst q; exact key G.wk (by decide) (by decide) (by decide) (.inl (by decide)) (by decide)
  · subst q; exact key G.rk (by decide) (by decide) (by decide) (.inl (by decide)) (by decide)
  · subst q; exact key G.mem.head (by decide) (by decide) (by decide) (.inl (by decide)) (by decide)
  · subst q; exact key G.mem.row (by decide) (by decide) (by decide) (.inr hne) (by decide)
  · obtain ⟨o, ho⟩ := G.op.blkP hg
    exact key ho (by decide) (by decide) (by decide) (.inl (by decide)) (by decide)
/-- What the page's step leaves lies apart from the document's work. -/
theorem WP.mid (h : WP w0 W rb bm bw sb nm nw ab bb r M u ws B n i) {j : Nat} (hj : j < 4) {w : RWork} (hw : ws j = some w) (C1 : Chg (PgS rb bm bw (B j)) W W1) : Qig W1 (B j).qb sb nm nw (B j).name (B j).xq (B j).bad (B j).at_ (B j).obq (B j).oo r w M u :=
  (h.qig hj hw).awayP C1 (fun g hg hm => sepP (h.rig hj hw) (h.qig hj hw) h.ne g hm hg)
theorem Pln.step (good : Nat → Bool) {r : RRack} {w : RWork} {M : List Nat} (u : Nat) (h : Pln r w) (hs : Small M) (okr : OkRack r) (hk : w.kind < 2) (hl : w.done = false → w.level < 8) :
    Pln (stepR good r w M u).1 (stepR good r w M u).2.1 ∧ nameR (stepR good r w M u).2.1.next = nameR w.next ∧ (nameR w.next = 2 → (stepR good r w M u).1 = r) := by
  unfold stepR
  rcases Bool.eq_false_or_eq_true w.done with hd | hd
  · rw [if_pos hd]; exact ⟨h, rfl, fun _ => rfl⟩
  · rw [if_neg (by rw [hd]; simp)]; exact Pln.phase good u (h.count (w.steps + 1)) hd hs okr hk (hl hd)
theorem WP.stepped (h : WP w0 W rb bm bw sb nm nw ab bb r M u ws B n i) (hT : TabW w0) {j : Nat} (hj : j < 4) {w : RWork} (hw : ws j = some w) (good : Nat → Bool) {ob' : Option Nat}
    (G : Rig W1 (B j).wb rb bm bw (B j).gv ob' (stepR good r w M u).1 (stepR good r w M u).2.1 (stepR good r w M u).2.2.1 (stepR good r w M u).2.2.2) (C1 : Chg (PgS rb bm bw (B j)) W W1) (ho : ob' = (B j).ob ∨ ∃ g, ob' = some g ∧ W.heap.size ≤ g)
    (Q0 : QStepped W1 W2 (B j).qb sb nm nw (B j).name (B j).bad (B j).obq (stepR good r w M u)) :
    ∃ B', WP w0 W2 rb bm bw sb nm nw ab bb (stepR good r w M u).1 (stepR good r w M u).2.2.1 (stepR good r w M u).2.2.2 (updQ ws j (stepR good r w M u).2.1) B' n (i + 1) ∧ (B' j).wb = (B j).wb ∧ (B' j).qb = (B j).qb := by
  have K := h.wk j hj w hw
  have G0 := h.rig hj hw
  have Q1 := h.mid hj hw C1
  obtain ⟨hp1, hp2, hp3⟩ := K.pln.step good u h.rest.mem.small h.rest.ok K.kind K.level
  have hlen := (stepR_len good r w M u).trans h.len
  have hst := stepR_steps good r w M u
  obtain ⟨s, hs⟩ : ∃ s, s = stepR good r w M u := ⟨_, rfl⟩
  rw [← hs] at G Q0 hp1 hp2 hp3 hlen hst ⊢
  obtain ⟨xq', at', obq', oo', Q, D, C2, hoq⟩ := Q0
  have C2' : Chg (DcS sb nm nw (B j)) W1 W2 := C2
  have hsz := h.rest.chg.size
  have hsz1 := C1.size
  have h0 := h.pos hT
  have sep : ∀ g ∈ PgS rb bm bw (B j), g ∉ DcS sb nm nw (B j) := sepP G0 (h.qig hj hw) h.ne
  have lowP := h.lowP hj hw
  have lowD := h.lowD hj hw
  have hob : ∀ g ∈ ob'.toList, g ∈ (B j).ob.toList ∨ W.heap.size ≤ g := by
    intro g hg
    rcases ho with rfl | ⟨g', rfl, h2⟩
    · exact .inl hg
    · simp at hg; subst hg; exact .inr h2
  have dlt : ∀ g ∈ DcS sb nm nw (B j), g < W.heap.size := by
    intro g hg
    simp only [DcS, List.mem_cons] at hg
    rcases hg with rfl | rfl | rfl | rfl | hg
    · exact Blk.lt K.qk
    · exact Blk.lt h.sk
    · exact Blk.lt h.ref.head
    · exact Blk.lt h.ref.row
    · obtain ⟨o, ho⟩ := K.qop.blk hg
      exact Blk.lt ho
  have G2 : Rig W2 (B j).wb rb bm bw (B j).gv ob' s.1 s.2.1 s.2.2.1 s.2.2.2 := G.awayP C2' (fun g hg hm => by
    simp only [List.mem_cons] at hg
    rcases hg with q | q | q | q | hg
    · exact sep g (by rw [q]; simp [PgS]) hm
    · exact sep g (by rw [q]; simp [PgS]) hm
    · exact sep g (by rw [q]; simp [PgS]) hm
    · exact sep g (by rw [q]; simp [PgS]) hm
    · rcases hob g hg with q | q
      · exact sep g (by simp only [PgS, List.mem_cons]; exact .inr (.inr (.inr (.inr q)))) hm
      · have := dlt g hm; omega)
  have CC : Chg (PgS rb bm bw (B j) ++ DcS sb nm nw (B j)) W W2 := (C1.mono (fun g hg => .inl (List.mem_append_left _ hg))).then C2' (fun g hg => .inl (List.mem_append_right _ hg))
  have ap : ∀ {g : Nat}, g ∉ PgS rb bm bw (B j) → g ∉ DcS sb nm nw (B j) → g ∉ PgS rb bm bw (B j) ++ DcS sb nm nw (B j) := fun a b hm => (List.mem_append.1 hm).elim a b
  have hlow : ∀ g ∈ PgS rb bm bw (B j) ++ DcS sb nm nw (B j), w0.heap.size ≤ g := fun g hg => (List.mem_append.1 hg).elim (lowP g) (lowD g)
  have obl : ∀ k, k < 4 → k ≠ j → ∀ w2, ws k = some w2 → ((B k).wb ≠ (B j).wb ∧ (∀ g ∈ (B k).ob.toList, g ∉ (B j).ob.toList) ∧ (B k).qb ≠ (B j).qb ∧ ∀ g ∈ (B k).obq.toList, g ∉ (B j).obq.toList) ∧ (∀ g ∈ (B k).ob.toList, g < W.heap.size) ∧ (∀ g ∈ (B k).obq.toList, g < W.heap.size) := by
    intro k hk hne w2 hw2
    refine ⟨h.ap k j hk hj hne (by rw [hw2]; simp) (by rw [hw]; simp), fun g hg => ?_, fun g hg => ?_⟩
    · obtain ⟨o, ho⟩ := (h.wk k hk w2 hw2).op.blkP hg
      exact Blk.lt ho
    · obtain ⟨o, ho⟩ := (h.wk k hk w2 hw2).qop.blk hg
      exact Blk.lt ho
  refine ⟨updP B j { B j with ob := ob', xq := xq', at_ := at', obq := obq', oo := oo' }, ⟨⟨G2.rk, G2.mem, G2.ok, tab_chg h.rest.tab CC (fun hm => by have := hlow 0 hm; omega), h.rest.chg.then CC (fun g hg => .inr (hlow g hg)), h.rest.l1, h.rest.l2, h.rest.l3⟩, Q.rk, Q.mem, hlen, h.ls, h.ln, h.lnw, h.la, h.lb, h.ne, ?_, ?_, fun k hk w2 hw2 => ?_, fun k hk0 hk w2 hw2 => ?_, fun a b ha hb hab hwa hwb => ?_, fun k hk w2 hw2 => ?_⟩, by rw [updP_same], by rw [updP_same]⟩
  · rw [ptrP_upd (·.wb) ws B w s.2.1 hw { B j with ob := ob', xq := xq', at_ := at', obq := obq', oo := oo' } rfl]
    exact h.arr.chg CC (ap (h.tyP hj hw h.arr (by decide) (by decide) (by decide) (.inl (by decide)) (by decide)) (h.tyD hj hw h.arr (by decide) (by decide) (by decide) (.inl (by decide)) (by decide)))
  · rw [ptrP_upd (·.qb) ws B w s.2.1 hw { B j with ob := ob', xq := xq', at_ := at', obq := obq', oo := oo' } rfl]
    exact h.brr.chg CC (ap (h.tyP hj hw h.brr (by decide) (by decide) (by decide) (.inl (by decide)) (by decide)) (h.tyD hj hw h.brr (by decide) (by decide) (by decide) (.inl (by decide)) (by decide)))
  · by_cases e : k = j
    · subst e
      rw [updQ_same] at hw2; cases hw2
      rw [updP_same]
      refine ⟨G2.wk, G2.op, Q.wk, Q.op, G2.kind, G2.level, G2.steps, hp1, by rw [hp2]; exact K.name, D, K.lw, fun g hg => ?_, K.lq, fun g hg => ?_, fun q => ?_, K.rd⟩
      · rcases hob g hg with q | q
        · exact K.lo g q
        · omega
      · rcases hoq with rfl | ⟨g', rfl, h2⟩
        · exact K.loq g hg
        · simp at hg; subst hg; omega
      · obtain ⟨cb, e, Bx⟩ := K.bx q
        exact ⟨cb, e, Bx.chg CC (ap (h.tyP hj hw Bx (by decide) (by decide) (by decide) (.inl (by decide)) (by decide)) (h.tyD hj hw Bx (by decide) (by decide) (by decide) (.inl (by decide)) (by decide)))⟩
    · rw [updQ_other _ _ e] at hw2
      rw [updP_other _ _ e]
      have K2 := h.wk k hk w2 hw2
      obtain ⟨⟨o1, o2, o3, o4⟩, _, _⟩ := obl k hk e w2 hw2
      refine K2.chg CC (ap ?_ (h.tyD hj hw K2.wk (by decide) (by decide) (by decide) (.inl (by decide)) (by decide))) (fun g hg => ?_) (ap (h.tyP hj hw K2.qk (by decide) (by decide) (by decide) (.inl (by decide)) (by decide)) ?_) (fun g hg => ?_) (fun g hg v hb => ?_) ?_
      · intro hm
        simp only [PgS, List.mem_cons] at hm
        rcases hm with q | q | q | q | hm
        · exact o1 q
        · exact blk_ne K2.wk h.rest.rk (by decide) q
        · exact blk_ne K2.wk h.rest.mem.head (by decide) q
        · exact blk_ne K2.wk h.rest.mem.row (by decide) q
        · obtain ⟨o, ho⟩ := K.op.blkP hm
          exact blk_ne K2.wk ho (by decide) rfl
      · obtain ⟨o, hop⟩ := K2.op.blkP hg
        refine ap (fun hm => ?_) (h.tyD hj hw hop (by decide) (by decide) (by decide) (.inl (by decide)) (by decide))
        simp only [PgS, List.mem_cons] at hm
        rcases hm with q | q | q | q | hm
        · exact blk_ne hop K.wk (by decide) q
        · exact blk_ne hop h.rest.rk (by decide) q
        · exact blk_ne hop h.rest.mem.head (by decide) q
        · exact blk_ne hop h.rest.mem.row (by decide) q
        · exact o2 g hg hm
      · intro hm
        simp only [DcS, List.mem_cons] at hm
        rcases hm with q | q | q | q | hm
        · exact o3 q
        · exact blk_ne K2.qk h.sk (by decide) q
        · exact blk_ne K2.qk h.ref.head (by decide) q
        · exact blk_ne K2.qk h.ref.row (by decide) q
        · obtain ⟨o, ho⟩ := K.qop.blk hm
          exact blk_ne K2.qk ho (by decide) rfl
      · obtain ⟨o, hop⟩ := K2.qop.blk hg
        refine ap (h.tyP hj hw hop (by decide) (by decide) (by decide) (.inl (by decide)) (by decide)) (fun hm => ?_)
        simp only [DcS, List.mem_cons] at hm
        rcases hm with q | q | q | q | hm
        · exact blk_ne hop K.qk (by decide) q
        · exact blk_ne hop h.sk (by decide) q
        · exact blk_ne hop h.ref.head (by decide) q
        · exact blk_ne hop h.ref.row (by decide) q
        · exact o4 g hg hm
      · exact ap (h.tyP hj hw hb (by decide) (by decide) (by decide) (.inl (by decide)) (by decide)) (h.tyD hj hw hb (by decide) (by decide) (by decide) (.inl (by decide)) (by decide)) hg
      · by_cases k0 : k = 0
        · left
          have hj0 : 0 < j := by omega
          exact hp3 (h.thf j hj0 hj w hw)
        · right
          rw [h.thf k (by omega) hk w2 hw2]
          exact ⟨by decide, by decide⟩
  · by_cases e : k = j
    · subst e
      rw [updQ_same] at hw2; cases hw2
      rw [hp2]; exact h.thf k hk0 hk w hw
    · rw [updQ_other _ _ e] at hw2
      exact h.thf k hk0 hk w2 hw2
  · have key : ∀ k, k < 4 → k ≠ j → updQ ws j s.2.1 k ≠ none → (B k).wb ≠ (B j).wb ∧ (∀ g ∈ (B k).ob.toList, g ∉ ob'.toList) ∧ (B k).qb ≠ (B j).qb ∧ (∀ g ∈ (B k).obq.toList, g ∉ obq'.toList) := by
      intro k hk hne hwk
      rw [updQ_other _ _ hne] at hwk
      obtain ⟨w2, hw2⟩ : ∃ w2, ws k = some w2 := by cases q : ws k with | none => exact absurd q hwk | some w2 => exact ⟨w2, rfl⟩
      obtain ⟨⟨o1, o2, o3, o4⟩, o5, o6⟩ := obl k hk hne w2 hw2
      refine ⟨o1, fun g hg hm => ?_, o3, fun g hg hm => ?_⟩
      · rcases hob g hm with q | q
        · exact o2 g hg q
        · have := o5 g hg; omega
      · rcases hoq with rfl | ⟨g', rfl, h2⟩
        · exact o4 g hg hm
        · have := o6 g hg
          simp at hm; omega
    by_cases ea : a = j
    · subst ea
      obtain ⟨o1, o2, o3, o4⟩ := key b hb (Ne.symm hab) hwb
      rw [updP_same, updP_other _ _ (Ne.symm hab)]
      exact ⟨Ne.symm o1, fun g hg hg2 => o2 g hg2 hg, Ne.symm o3, fun g hg hg2 => o4 g hg2 hg⟩
    · by_cases eb : b = j
      · subst eb
        obtain ⟨o1, o2, o3, o4⟩ := key a ha ea hwa
        rw [updP_same, updP_other _ _ ea]
        exact ⟨o1, o2, o3, o4⟩
      · rw [updP_other _ _ ea, updP_other _ _ eb]
        rw [updQ_other _ _ ea] at hwa
        rw [updQ_other _ _ eb] at hwb
        exact h.ap a b ha hb hab hwa hwb
  · by_cases e : k = j
    · subst e
      rw [updQ_same] at hw2; cases hw2
      have := h.hd k hk w hw
      omega
    · rw [updQ_other _ _ e] at hw2
      have := h.hd k hk w2 hw2
      omega
/-- Two new works. -/
theorem WP.begun (h : WP w0 W rb bm bw sb nm nw ab bb r M u ws B n i) (hT : TabW w0) {j : Nat} (hj : j < 4) {w : RWork} {b : PB} (C1 : Chg [] W W1) (G : Rig W1 b.wb rb bm bw b.gv b.ob r w M u) (hwb : W.heap.size ≤ b.wb) (hob : ∀ g ∈ b.ob.toList, W.heap.size ≤ g) (hbx : b.name = 0 ∨ b.name = 2 → Box W1 b.gv b.bad)
    (e2 : W2 = W1.setCell ⟨ab, j, none⟩ (.pointer (some ⟨b.wb, 0, none⟩))) (C3 : Chg [] W2 W3) (Q : Qig W3 b.qb sb nm nw b.name b.xq b.bad b.at_ b.obq b.oo r w M u) (hqb : W2.heap.size ≤ b.qb) (hobq : b.obq = none)
    (e4 : W4 = W3.setCell ⟨bb, j, none⟩ (.pointer (some ⟨b.qb, 0, none⟩))) (hp : Pln r w) (hname : b.name = nameR w.next) (hD : Doc r w b.xq b.at_ b.obq b.oo) (hrd : Reads w0 b.bad (words b.l0)) (hthf : 0 < j → nameR w.next = 2) (hs : w.steps = 0) :
    WP w0 W4 rb bm bw sb nm nw ab bb r M u (updQ ws j w) (updP B j b) n i := by
  have h0 := h.pos hT
  have hsz := h.rest.chg.size
  have hsz1 := C1.size
  have hab : ab ≠ bb := blk_ne h.arr h.brr (by decide)
  have CA : Chg [ab] W1 W2 := by rw [e2]; exact (Chg.refl _ _).setCell (.inl (by simp)) _
  have CB : Chg [bb] W3 W4 := by rw [e4]; exact (Chg.refl _ _).setCell (.inl (by simp)) _
  have hsz2 := CA.size
  have CC : Chg [ab, bb] W1 W4 := ((CA.mono (by simp)).then C3 (by simp)).then CB (by simp)
  have CD : Chg [ab, bb] W W4 := (C1.weak).then CC (by simp)
  have la := h.la
  have lb := h.lb
  have tA : ∀ {V : World} {g : Nat} {cs : Array Value} {t : TypeId}, Blk V ab (ptrP (·.wb) ws B) 39 → Blk V bb (ptrP (·.qb) ws B) 44 → Blk V g cs t → t ≠ 39 → t ≠ 44 → g ∉ [ab, bb] := by
    intro V g cs t ha hb hg n1 n2
    simp
    exact ⟨blk_ne hg ha n1, blk_ne hg hb n2⟩
  have a0 := h.arr
  have b0 := h.brr
  have a1 := a0.chg C1 (by simp)
  have b1 := b0.chg C1 (by simp)
  have G4 : Rig W4 b.wb rb bm bw b.gv b.ob r w M u := G.awayP CC (fun g hg => by
    simp only [List.mem_cons] at hg
    rcases hg with q | q | q | q | hg
    · subst q; exact tA a1 b1 G.wk (by decide) (by decide)
    · subst q; exact tA a1 b1 G.rk (by decide) (by decide)
    · subst q; exact tA a1 b1 G.mem.head (by decide) (by decide)
    · subst q; exact tA a1 b1 G.mem.row (by decide) (by decide)
    · obtain ⟨o, ho⟩ := G.op.blkP hg
      exact tA a1 b1 ho (by decide) (by decide))
  have b2 : Blk W3 bb (ptrP (·.qb) ws B) 44 := (b1.chg CA (by simp; exact Ne.symm hab)).chg C3 (by simp)
  have Q4 : Qig W4 b.qb sb nm nw b.name b.xq b.bad b.at_ b.obq b.oo r w M u := Q.awayP CB (fun g hg => by
    simp only [List.mem_cons] at hg
    simp
    rcases hg with q | q | q | q | hg
    · subst q; exact blk_ne Q.wk b2 (by decide)
    · subst q; exact blk_ne Q.rk b2 (by decide)
    · subst q; exact blk_ne Q.mem.head b2 (by decide)
    · subst q; exact blk_ne Q.mem.row b2 (by decide)
    · obtain ⟨o, ho⟩ := Q.op.blk hg
      exact blk_ne ho b2 (by decide))
  have old : ∀ k, k < 4 → ∀ w2, ws k = some w2 → (B k).wb < W.heap.size ∧ (∀ g ∈ (B k).ob.toList, g < W.heap.size) ∧ (B k).qb < W.heap.size := by
    intro k hk w2 hw2
    have K := h.wk k hk w2 hw2
    refine ⟨Blk.lt K.wk, fun g hg => ?_, Blk.lt K.qk⟩
    obtain ⟨o, ho⟩ := K.op.blkP hg
    exact Blk.lt ho
  have hlow : ∀ g ∈ [ab, bb], w0.heap.size ≤ g := by
    intro g hg
    simp at hg
    rcases hg with rfl | rfl
    · exact la
    · exact lb
  refine ⟨⟨G4.rk, G4.mem, G4.ok, tab_chg h.rest.tab CD (fun hm => by have := hlow 0 hm; omega), h.rest.chg.then CD (fun g hg => .inr (hlow g hg)), h.rest.l1, h.rest.l2, h.rest.l3⟩, Q4.rk, Q4.mem, h.len, h.ls, h.ln, h.lnw, h.la, h.lb, h.ne, ?_, ?_, fun k hk w2 hw2 => ?_, fun k hk0 hk w2 hw2 => ?_, fun a c ha hc hac hwa hwc => ?_, fun k hk w2 hw2 => ?_⟩
  · rw [← ptrP_set (·.wb) ws B hj w b]
    have : Blk W2 ab ((ptrP (·.wb) ws B).setIfInBounds j (.pointer (some ⟨b.wb, 0, none⟩))) 39 := by rw [e2]; exact a1.setCell j _
    exact (this.chg C3 (by simp)).chg CB (by simp; exact hab)
  · rw [e4, ← ptrP_set (·.qb) ws B hj w b]
    exact b2.setCell j _
  · by_cases e : k = j
    · subst e
      rw [updQ_same] at hw2; cases hw2
      rw [updP_same]
      refine ⟨G4.wk, G4.op, Q4.wk, Q4.op, G4.kind, G4.level, G4.steps, hp, hname, hD, by omega, fun g hg => by have := hob g hg; omega, by omega, fun g hg => by rw [hobq] at hg; simp at hg, fun q => ?_, hrd⟩
      obtain ⟨cb, e, Bx⟩ := hbx q
      exact ⟨cb, e, Bx.chg CC (tA a1 b1 Bx (by decide) (by decide))⟩
    · rw [updQ_other _ _ e] at hw2
      rw [updP_other _ _ e]
      have K2 := h.wk k hk w2 hw2
      refine K2.chg CD (tA a0 b0 K2.wk (by decide) (by decide)) (fun g hg => ?_) (tA a0 b0 K2.qk (by decide) (by decide)) (fun g hg => ?_) (fun g hg v hb => tA a0 b0 hb (by decide) (by decide) hg) (.inl rfl)
      · obtain ⟨o, ho⟩ := K2.op.blkP hg
        exact tA a0 b0 ho (by decide) (by decide)
      · obtain ⟨o, ho⟩ := K2.qop.blk hg
        exact tA a0 b0 ho (by decide) (by decide)
  · by_cases e : k = j
    · subst e
      rw [updQ_same] at hw2; cases hw2
      exact hthf hk0
    · rw [updQ_other _ _ e] at hw2
      exact h.thf k hk0 hk w2 hw2
  · have key : ∀ k, k < 4 → k ≠ j → updQ ws j w k ≠ none → (B k).wb < W.heap.size ∧ (∀ g ∈ (B k).ob.toList, g < W.heap.size) ∧ (B k).qb < W.heap.size := by
      intro k hk hne hwk
      rw [updQ_other _ _ hne] at hwk
      obtain ⟨w2, hw2⟩ : ∃ w2, ws k = some w2 := by cases q : ws k with | none => exact absurd q hwk | some w2 => exact ⟨w2, rfl⟩
      exact old k hk w2 hw2
    by_cases ea : a = j
    · subst ea
      obtain ⟨o1, o2, o3⟩ := key c hc (Ne.symm hac) hwc
      rw [updP_same, updP_other _ _ (Ne.symm hac)]
      exact ⟨by omega, fun g hg hg2 => by have := o2 g hg2; have := hob g hg; omega, by omega, fun g hg => by rw [hobq] at hg; simp at hg⟩
    · by_cases eb : c = j
      · subst eb
        obtain ⟨o1, o2, o3⟩ := key a ha ea hwa
        rw [updP_same, updP_other _ _ ea]
        exact ⟨by omega, fun g hg hg2 => by have := o2 g hg; have := hob g hg2; omega, by omega, fun g hg hg2 => by rw [hobq] at hg2; simp at hg2⟩
      · rw [updP_other _ _ ea, updP_other _ _ eb]
        rw [updQ_other _ _ ea] at hwa
        rw [updQ_other _ _ eb] at hwc
        exact h.ap a c ha hc hac hwa hwc
  · by_cases e : k = j
    · subst e
      rw [updQ_same] at hw2; cases hw2
      omega
    · rw [updQ_other _ _ e] at hw2
      exact h.hd k hk w2 hw2
end
end Go.Proofs.YtjdbgohfedjifaaGreatDoor
