/- rack, the document's: choose. -/
import Derived.Test.YtjdbgohfedjifaaGreatDoorRpB
namespace Bosun
open Go
/-- Whose turn it is, and who takes. -/
def chK2 (r : RRack) (l : Nat) : Nat := if (r.s0.testBit l && r.s1.testBit l) = true then r.turn else if r.s1.testBit l = true then 1 else 0
def chR2 (r : RRack) (l : Nat) : RRack := if (r.s0.testBit l && r.s1.testBit l) = true then { r with turn := 1 - r.turn } else r
end Bosun
namespace Go.Proofs.YtjdbgohfedjifaaGreatDoor
open Go.RowKit Bosun
set_option maxRecDepth 8000 in
set_option maxHeartbeats 16000000 in
theorem qchoose_any (W : World) (qb sb name xq : Nat) (bad : Value) (at_ : Nat) (ob : Option Nat) (r : RRack) (w : RWork) (h : IsQw W qb sb name xq bad at_ ob w) (hr : IsSb W sb r) (ok : OkRack r) :
    Calls Tryz.prog 71 #[.pointer (some ⟨qb, 0, none⟩)] W fun e W' => e = .returned (.bool (!decide (bestR r = 8))) ∧ Chg [qb, sb] W W' ∧
      (bestR r = 8 → IsQw W' qb sb name xq bad at_ ob { w with level := 8 } ∧ IsSb W' sb r) ∧ (bestR r ≠ 8 → IsQw W' qb sb name xq bad at_ ob { w with level := bestR r, kind := chK2 r (bestR r) } ∧ IsSb W' sb (chR2 r (bestR r))) := by
  have hne : qb ≠ sb := blk_ne h hr (by decide)
  have c0 : W.cell? ⟨qb, 0, none⟩ = some (.pointer (some ⟨sb, 0, none⟩)) := by rw [Blk.cell h]; rfl
  have HB := Lib.hid (qbest_any sb r W hr ok)
  have HL := Lib.hid (fun (W' : World) (C : Chg [] W W') => show W'.cell? ⟨qb, 3, none⟩ = some (.int .i64 (w.level : Nat)) ∧ W'.frozen? ⟨qb, 3, none⟩ = false from ⟨by rw [Blk.cell (Blk.chg h C (by simp))]; rfl, Blk.frozen (Blk.chg h C (by simp)) _⟩)
  have hl64 : bestR r < 64 := by by_cases h8 : bestR r = 8; omega; have := bestR_lt ok h8; omega
  obtain ⟨l, hl⟩ : ∃ l, l = bestR r := ⟨_, rfl⟩
  rw [← hl] at hl64
  rw [← hl] at HB ⊢
  have H1 := Lib.hid (fun (W' : World) (C : Chg [] W W') => show IsQw (W'.setCell ⟨qb, 3, none⟩ (.int .i64 (l : Nat))) qb sb name xq bad at_ ob { w with level := l } ∧ IsSb (W'.setCell ⟨qb, 3, none⟩ (.int .i64 (l : Nat))) sb r ∧ Chg [qb, sb] W (W'.setCell ⟨qb, 3, none⟩ (.int .i64 (l : Nat))) from
    ⟨Blk.setCell (Blk.chg h C (by simp)) 3 _, Blk.chg (Blk.chg hr C (by simp)) ((Chg.refl [qb] _).setCell (.inl (by simp)) _) (by simp; exact Ne.symm hne), (C.weak (S := [qb, sb])).setCell (.inl (by simp)) _⟩)
  have HOK := Lib.hid ok
  clear h hr ok hl
  go_enter Tryz.func71, Tryz.ntmps71
  go_upto_region 3 with (go_at_call 16; refine HB.out.mono ?_; rintro e w2 ⟨rfl, C2⟩; obtain ⟨d3, z3⟩ := HL.out w2 C2; have Q1 := Lib.hid (H1.out w2 C2); clear C2)
  obtain ⟨W1, hW1⟩ : ∃ W1, W1 = w2.setCell ⟨qb, 3, none⟩ (.int .i64 (l : Nat)) := ⟨_, rfl⟩
  rw [← hW1] at Q1 ⊢
  clear hW1 d3 z3 H1 HL HB c0
  have e3 : W1.cell? ⟨qb, 3, none⟩ = some (.int .i64 (l : Nat)) := by rw [Blk.cell Q1.out.1]; rfl
  by_cases hl8 : l = 8
  · have e3' : W1.cell? ⟨qb, 3, none⟩ = some (.int .i64 8) := by rw [e3, hl8]; rfl
    have HL8 := Lib.hid hl8
    clear e3 hl8
    go_wp2_with fail
    go_ret
    refine ⟨by rw [HL8.out]; rfl, Q1.out.2.2, fun _ => ⟨?_, Q1.out.2.1⟩, fun h => absurd HL8.out h⟩
    have := Q1.out.1
    rw [HL8.out] at this
    exact this
  · have f8 : ((l : Int) == 8) = false := by simp; omega
    have HL8 := Lib.hid hl8
    clear hl8
    have HH := Lib.hid (fun (W' : World) (C : Chg [] W1 W') => show W'.cell? ⟨sb, 2, none⟩ = some (.int .u64 (r.s0 : Nat)) ∧ W'.cell? ⟨sb, 3, none⟩ = some (.int .u64 (r.s1 : Nat)) ∧ W'.cell? ⟨qb, 3, none⟩ = some (.int .i64 (l : Nat)) from
      ⟨by rw [Blk.cell (Blk.chg Q1.out.2.1 C (by simp))]; rfl, by rw [Blk.cell (Blk.chg Q1.out.2.1 C (by simp))]; rfl, by rw [Blk.cell (Blk.chg Q1.out.1 C (by simp))]; rfl⟩)
    have HS0 := Lib.hid (fun w => show Calls Tryz.prog 48 #[.int .u64 (r.s0 : Nat), .int .i64 (l : Nat)] w fun e w' => e = .returned (.bool (r.s0.testBit l)) ∧ Chg [] w w' from by rw [← has_natL hl64]; exact has_any r.s0 HOK.out.s0 l w)
    have HS1 := Lib.hid (fun w => show Calls Tryz.prog 48 #[.int .u64 (r.s1 : Nat), .int .i64 (l : Nat)] w fun e w' => e = .returned (.bool (r.s1.testBit l)) ∧ Chg [] w w' from by rw [← has_natL hl64]; exact has_any r.s1 HOK.out.s1 l w)
    have HK := Lib.hid (show chK2 r l = (if (r.s0.testBit l && r.s1.testBit l) = true then r.turn else if r.s1.testBit l = true then 1 else 0) ∧ chR2 r l = (if (r.s0.testBit l && r.s1.testBit l) = true then { r with turn := 1 - r.turn } else r) from ⟨rfl, rfl⟩)
    obtain ⟨a, ha⟩ : ∃ a, a = r.s0.testBit l := ⟨_, rfl⟩
    obtain ⟨b, hb⟩ : ∃ b, b = r.s1.testBit l := ⟨_, rfl⟩
    rw [← ha] at HS0 HK
    rw [← hb] at HS1 HK
    clear ha hb
    obtain ⟨m2, m3, m4⟩ := HH.out W1 (Chg.refl _ _)
    go_upto_region 5 with (fail)
    go_region_held3 (fun w' => w'.cell? ⟨sb, 2, none⟩ = some (.int .u64 (r.s0 : Nat)) ∧ w'.cell? ⟨sb, 3, none⟩ = some (.int .u64 (r.s1 : Nat)) ∧ w'.cell? ⟨qb, 3, none⟩ = some (.int .i64 (l : Nat))) (first | assumption | exact ⟨m2, m3, m4⟩ | fail)
      (first | (go_at_call 48; refine (HS0.out _).mono ?_; rintro e w3 ⟨rfl, C3⟩; have k3 := HH.out w3 C3.undrew; have HC3 := Lib.hid C3.undrew; clear C3) | fail)
    obtain ⟨n2, n3, n4⟩ := HH.out w3 HC3.out
    go_upto_region 6 with (fail)
    go_region_held3 (fun w' => w'.cell? ⟨sb, 2, none⟩ = some (.int .u64 (r.s0 : Nat)) ∧ w'.cell? ⟨sb, 3, none⟩ = some (.int .u64 (r.s1 : Nat)) ∧ w'.cell? ⟨qb, 3, none⟩ = some (.int .i64 (l : Nat))) (first | assumption | exact ⟨n2, n3, n4⟩ | fail)
      (first | (go_at_call 48; refine (HS1.out _).mono ?_; rintro e w4 ⟨rfl, C4⟩; have k4 := HH.out w4 (HC3.out.then C4.undrew (by simp)); have HC4 := Lib.hid (HC3.out.then C4.undrew (by simp)); clear C4) | fail)
    have Q4 : IsQw w4 qb sb name xq bad at_ ob { w with level := l } := Blk.chg Q1.out.1 HC4.out (by simp)
    have S4 : IsSb w4 sb r := Blk.chg Q1.out.2.1 HC4.out (by simp)
    have C4 : Chg [qb, sb] W w4 := Q1.out.2.2.then HC4.out (by simp)
    have p4 : w4.cell? ⟨qb, 4, none⟩ = some (.int .i64 (w.kind : Nat)) := by rw [Blk.cell Q4]; rfl
    have z4 : w4.frozen? ⟨qb, 4, none⟩ = false := Blk.frozen Q4 _
    have r4 : w4.cell? ⟨sb, 4, none⟩ = some (.int .i64 (r.turn : Nat)) := by rw [Blk.cell S4]; rfl
    have y4 : w4.frozen? ⟨sb, 4, none⟩ = false := Blk.frozen S4 _
    have htn := HOK.out.turn
    have yw : IntKind.i64.wrap (1 - (r.turn : Int)) = ((1 - r.turn : Nat) : Int) := by rw [IntKind.wrap_i64]; omega
    have hqs : ¬ qb = sb := hne
    have hsq : ¬ sb = qb := fun e => hne e.symm
    have HX := Lib.hid (And.intro Q4 (And.intro S4 C4))
    have HD := Lib.hid (show (!decide (l = 8)) = true by simp [HL8.out])
    have HT := Lib.hid htn
    clear Q4 S4 C4 m2 m3 m4 n2 n3 n4 k3 k4 HC3 HC4 Q1 HH HS0 HS1 htn e3 hne
    cases b with
    | false =>
      cases a with
      | false =>
        go_wp2_with fail
        go_ret
        refine ⟨by rw [HD.out]; rfl, HX.out.2.2.setCell (.inl (by simp)) _, fun h => absurd h HL8.out, fun _ => ?_⟩
        rw [HK.out.1, HK.out.2]
        exact ⟨Blk.setCell HX.out.1 4 _, Blk.chg HX.out.2.1 ((Chg.refl [qb] _).setCell (.inl (by simp)) _) (by simp; exact hsq)⟩
      | true =>
        go_wp2_with fail
        go_ret
        refine ⟨by rw [HD.out]; rfl, HX.out.2.2.setCell (.inl (by simp)) _, fun h => absurd h HL8.out, fun _ => ?_⟩
        rw [HK.out.1, HK.out.2]
        exact ⟨Blk.setCell HX.out.1 4 _, Blk.chg HX.out.2.1 ((Chg.refl [qb] _).setCell (.inl (by simp)) _) (by simp; exact hsq)⟩
    | true =>
      cases a with
      | false =>
        go_wp2_with fail
        go_ret
        refine ⟨by rw [HD.out]; rfl, (HX.out.2.2.setCell (.inl (by simp)) _).setCell (.inl (by simp)) _, fun h => absurd h HL8.out, fun _ => ?_⟩
        rw [HK.out.1, HK.out.2]
        exact ⟨Blk.setCell (Blk.setCell HX.out.1 4 _) 4 _, Blk.chg HX.out.2.1 (((Chg.refl [qb] _).setCell (.inl (by simp)) _).setCell (.inl (by simp)) _) (by simp; exact hsq)⟩
      | true =>
        go_wp2_with fail
        go_ret
        refine ⟨by rw [HD.out]; rfl, (((HX.out.2.2.setCell (.inl (by simp)) _).setCell (.inl (by simp)) _).setCell (.inl (by simp)) _).setCell (.inl (by simp)) _, fun h => absurd h HL8.out, fun _ => ?_⟩
        rw [HK.out.1, HK.out.2]
        exact ⟨Blk.chg (Blk.setCell (Blk.setCell (Blk.setCell HX.out.1 4 _) 4 _) 4 _) ((Chg.refl [sb] _).setCell (.inl (by simp)) _) (by simp; exact hqs), Blk.setCell (Blk.chg HX.out.2.1 ((((Chg.refl [qb] _).setCell (.inl (by simp)) _).setCell (.inl (by simp)) _).setCell (.inl (by simp)) _) (by simp; exact hsq)) 4 _⟩
end Go.Proofs.YtjdbgohfedjifaaGreatDoor

/- rack, the document's: what a turn leaves; take: the sign is stored. -/
namespace Go.Proofs.YtjdbgohfedjifaaGreatDoor
open Go.RowKit Bosun
theorem ROpAt.chg {W W' : World} {S : List Nat} {ob : Option Nat} {o : Option DOp} (h : ROpAt W ob o) (C : Chg S W W') (hS : ∀ g ∈ ob.toList, g ∉ S) : ROpAt W' ob o := by
  match ob, o, h with
  | none, none, _ => trivial
  | some g, some o, h => exact ⟨h.1.chg C (hS g (by simp)), h.2⟩
theorem ROpAt.blk {W : World} {ob : Option Nat} {o : Option DOp} (h : ROpAt W ob o) {g : Nat} (hg : g ∈ ob.toList) : ∃ o, IsROp W g o := by
  match ob, o, h with
  | none, none, _ => cases hg
  | some g', some o, h => simp at hg; subst hg; exact ⟨o, h.1⟩
/-- What a turn of a document's work leaves. -/
def QTurned (W W' : World) (qb sb nm nw name : Nat) (bad : Value) (ob : Option Nat) (s : RRack × RWork × List Nat × Nat) (e : Ending) : Prop :=
  e = .returned (.tuple #[]) ∧ ∃ xq' at' ob', Qig W' qb sb nm nw name xq' bad at' ob' s.2.1.op s.1 s.2.1 s.2.2.1 s.2.2.2 ∧ Chg (qb :: sb :: nm :: nw :: ob.toList) W W' ∧ (ob' = ob ∨ ∃ g, ob' = some g ∧ W.heap.size ≤ g) ∧
    (s.2.1.done = false → at' = atQ s.2.1 ∧ xq' = s.2.1.x) ∧ (s.2.1.err = 0 → xq' = s.2.1.x)
section
variable {W W' : World} {qb sb nm nw name xq : Nat} {bad : Value} {at_ : Nat} {ob : Option Nat} {oo : Option DOp} {r : RRack} {w : RWork} {M : List Nat} {u : Nat}
theorem Qig.qs (h : Qig W qb sb nm nw name xq bad at_ ob oo r w M u) : qb ≠ sb := blk_ne h.wk h.rk (by decide)
theorem Qig.qm (h : Qig W qb sb nm nw name xq bad at_ ob oo r w M u) : qb ≠ nm := blk_ne h.wk h.mem.head (by decide)
theorem Qig.qw (h : Qig W qb sb nm nw name xq bad at_ ob oo r w M u) : qb ≠ nw := blk_ne h.wk h.mem.row (by decide)
theorem Qig.sm (h : Qig W qb sb nm nw name xq bad at_ ob oo r w M u) : sb ≠ nm := blk_ne h.rk h.mem.head (by decide)
theorem Qig.sw (h : Qig W qb sb nm nw name xq bad at_ ob oo r w M u) : sb ≠ nw := blk_ne h.rk h.mem.row (by decide)
theorem Qig.opOf (h : Qig W qb sb nm nw name xq bad at_ ob oo r w M u) {o : DOp} (ho : oo = some o) : ∃ g, ob = some g ∧ IsROp W g o ∧ OkOp o ∧ g ≠ qb ∧ g ≠ sb ∧ g ≠ nm ∧ g ≠ nw := by
  have h1 := h.op
  rw [ho] at h1
  cases ob with
  | none => exact h1.elim
  | some g => exact ⟨g, rfl, h1.1, h1.2, blk_ne h1.1 h.wk (by decide), blk_ne h1.1 h.rk (by decide), blk_ne h1.1 h.mem.head (by decide), blk_ne h1.1 h.mem.row (by decide)⟩
theorem Qig.opChg (h : Qig W qb sb nm nw name xq bad at_ ob oo r w M u) (C : Chg [qb, sb, nm, nw] W W') : ROpAt W' ob oo :=
  h.op.chg C (fun g hg => by
    obtain ⟨o, ho⟩ := h.op.blk hg
    simp
    exact ⟨blk_ne ho h.wk (by decide), blk_ne ho h.rk (by decide), blk_ne ho h.mem.head (by decide), blk_ne ho h.mem.row (by decide)⟩)
/-- The blocks but the op's are told anew. -/
theorem Qig.re (h : Qig W qb sb nm nw name xq bad at_ ob oo r w M u) (C : Chg [qb, sb, nm, nw] W W') {xq' at' : Nat} {r' : RRack} {w' : RWork} {M' : List Nat} {u' : Nat} (hw : IsQw W' qb sb name xq' bad at' ob w') (hr : IsSb W' sb r') (hm : IsRef W' nm nw M' u') (ok : OkRack r') (k : w'.kind < 2) (l : w'.done = false → w'.level < 8) (s : w'.steps ≤ 1000000) :
    Qig W' qb sb nm nw name xq' bad at' ob oo r' w' M' u' := ⟨hw, hr, hm, h.opChg C, ok, k, l, s⟩
end
set_option maxHeartbeats 8000000 in
theorem qtake_sign (W : World) (qb sb nm nw name xq : Nat) (bad : Value) (at_ : Nat) (ob : Option Nat) (r : RRack) (w : RWork) (M : List Nat) (u : Nat) (h : Qig W qb sb nm nw name xq bad at_ ob w.op r w M u) (ha : at_ = 5) (_hd : w.done = false) :
    Calls Tryz.prog 44 #[.pointer (some ⟨qb, 0, none⟩), .pointer (some ⟨nm, 0, none⟩)] W fun e W' => QTurned W W' qb sb nm nw name bad ob (r, { w with done := true, err := 8 }, setA M r.base r.s0, tick M r.base u) e := by
  subst ha
  have c0 : W.cell? ⟨qb, 0, none⟩ = some (.pointer (some ⟨sb, 0, none⟩)) := by rw [Blk.cell h.wk]; rfl
  have c6 : W.cell? ⟨qb, 6, none⟩ = some (.int .i64 5) := by rw [Blk.cell h.wk]; rfl
  have s0 : W.cell? ⟨sb, 0, none⟩ = some (.int .i64 r.base) := by rw [Blk.cell h.rk]; rfl
  have s2 : W.cell? ⟨sb, 2, none⟩ = some (.int .u64 (r.s0 : Nat)) := by rw [Blk.cell h.rk]; rfl
  have HH := Lib.hid h
  have HS := Lib.hid (fun w2 hm => rstore_any nm nw M u w2 hm r.base r.s0 h.ok.s0)
  clear h
  go_enter Tryz.func44, Tryz.ntmps44
  go_upto_region 2 with (fail)
  go_region_held3 (fun w' => w'.cell? ⟨sb, 0, none⟩ = some (.int .i64 r.base) ∧ w'.cell? ⟨sb, 2, none⟩ = some (.int .u64 (r.s0 : Nat))) (first | assumption | exact ⟨s0, s2⟩ | fail)
    (first | (go_at_call 69; refine (HS.out _ (HH.out.mem.chg (Chg.refl [] _).drew (by simp) (by simp))).mono ?_; rintro e w3 ⟨rfl, M3, C3⟩; have D3 := C3.undrew; have R3 : IsSb w3 sb r := Blk.chg HH.out.rk D3 (by simp; exact ⟨HH.out.sm, HH.out.sw⟩); have W3 := Blk.chg HH.out.wk D3 (by simp; exact ⟨HH.out.qm, HH.out.qw⟩); have k3 : w3.cell? ⟨sb, 0, none⟩ = some (.int .i64 r.base) ∧ w3.cell? ⟨sb, 2, none⟩ = some (.int .u64 (r.s0 : Nat)) := ⟨by rw [Blk.cell R3]; rfl, by rw [Blk.cell R3]; rfl⟩; have HE := Lib.hid (qend_any qb sb name xq bad 5 ob w 8 w3 W3); have HX := Lib.hid (And.intro M3 (And.intro D3 R3)); clear M3 C3 D3 R3 W3) | fail)
  go_wp2_with (go_at_call 67; refine HE.out.mono ?_; rintro e w4 ⟨rfl, W4, C4⟩)
  go_end0
  have C14 : Chg [qb, sb, nm, nw] W w4 := (HX.out.2.1.mono (by intro g hg; left; simp at hg ⊢; omega)).then C4 (by intro g hg; left; simp at hg ⊢; omega)
  unfold QTurned
  exact ⟨rfl, xq, 5, ob, HH.out.re C14 W4 (Blk.chg HX.out.2.2 C4 (by simp; exact Ne.symm HH.out.qs)) (HX.out.1.chg C4 (by simp; exact Ne.symm HH.out.qm) (by simp; exact Ne.symm HH.out.qw)) HH.out.ok HH.out.kind (fun h => by simp at h) HH.out.steps, C14.mono (by intro g hg; left; simp at hg ⊢; omega), .inl rfl, fun h => by simp at h, fun h => by simp at h⟩
theorem chR2_at (r : RRack) (l k l' : Nat) : (chR2 r l).at k l' = r.at k l' ∧ (chR2 r l).cap = r.cap := by unfold chR2; split <;> exact ⟨rfl, rfl⟩
theorem chR2_ok {r : RRack} (ok : OkRack r) (l : Nat) : OkRack (chR2 r l) := by
  unfold chR2
  split
  · exact ⟨ok.b0, ok.b1, ok.cap, ok.z0, ok.z1, by show 1 - r.turn < 2; omega⟩
  · exact ok
theorem chK2_lt {r : RRack} (ok : OkRack r) (l : Nat) : chK2 r l < 2 := by
  unfold chK2
  have := ok.turn
  split
  · exact this
  · split <;> omega
set_option maxHeartbeats 8000000 in
theorem qtake_choose (W : World) (qb sb nm nw name xq : Nat) (bad : Value) (r : RRack) (w : RWork) (M : List Nat) (u : Nat) (h : Qig W qb sb nm nw name xq bad 0 none none r w M u) (hop : w.op = none) (hx : xq = w.x) (_hd : w.done = false) :
    Calls Tryz.prog 44 #[.pointer (some ⟨qb, 0, none⟩), .pointer (some ⟨nm, 0, none⟩)] W fun e W' => QTurned W W' qb sb nm nw name bad none
      (if bestR r = 8 then (r, { w with level := 8, done := true, err := 7 }, M, u) else (chR2 r (bestR r), { w with level := bestR r, kind := chK2 r (bestR r), op := some (newD (r.at (chK2 r (bestR r)) (bestR r)) r.cap 2 0), next := .taking }, M, u)) e := by
  have c0 : W.cell? ⟨qb, 0, none⟩ = some (.pointer (some ⟨sb, 0, none⟩)) := by rw [Blk.cell h.wk]; rfl
  have c6 : W.cell? ⟨qb, 6, none⟩ = some (.int .i64 0) := by rw [Blk.cell h.wk]; rfl
  have HCH := Lib.hid (qchoose_any W qb sb name xq bad 0 none r w h.wk h.rk h.ok)
  have HH := Lib.hid h
  have hl8 := bestR_lt h.ok
  obtain ⟨l, hl⟩ : ∃ l, l = bestR r := ⟨_, rfl⟩
  rw [← hl] at HCH hl8 ⊢
  clear h hl
  go_enter Tryz.func44, Tryz.ntmps44
  by_cases l8 : l = 8
  · have hb : (!decide (l = 8)) = false := by simp [l8]
    rw [hb] at HCH
    rw [if_pos l8]
    have HL := Lib.hid l8
    clear hl8 l8 hb
    go_wp2_with (first
      | (go_at_call 71; refine HCH.out.mono ?_; rintro e w2 ⟨rfl, C2, h2, _⟩; obtain ⟨W2, R2⟩ := h2 HL.out; have HE := Lib.hid (qend_any qb sb name xq bad 0 none { w with level := 8 } 7 w2 W2); have HX := Lib.hid (And.intro C2 R2); clear C2 R2 W2 h2)
      | (go_at_call 67; refine HE.out.mono ?_; rintro e w4 ⟨rfl, W4, C4⟩)
      | fail)
    refine bodyPost_ret (results_none rfl _ _ _) rfl ?_
    have C14 : Chg [qb, sb, nm, nw] W w4 := (HX.out.1.mono (by intro g hg; left; simp at hg ⊢; omega)).then C4 (by intro g hg; left; simp at hg ⊢; omega)
    have M4 : IsRef w4 nm nw M u := (HH.out.mem.chg HX.out.1 (by simp; exact ⟨Ne.symm HH.out.qm, Ne.symm HH.out.sm⟩) (by simp; exact ⟨Ne.symm HH.out.qw, Ne.symm HH.out.sw⟩)).chg C4 (by simp; exact Ne.symm HH.out.qm) (by simp; exact Ne.symm HH.out.qw)
    unfold QTurned
    refine ⟨rfl, xq, 0, none, ?_, C14.mono (by intro g hg; left; simp at hg ⊢; omega), .inl rfl, fun h => by simp at h, fun h => by simp at h⟩
    have h' : Qig W qb sb nm nw name xq bad 0 none w.op r w M u := by rw [hop]; exact HH.out
    exact h'.re C14 W4 (Blk.chg HX.out.2 C4 (by simp; exact Ne.symm HH.out.qs)) M4 HH.out.ok HH.out.kind (fun h => by simp at h) HH.out.steps
  · have hb : (!decide (l = 8)) = true := by simp [l8]
    rw [hb] at HCH
    rw [if_neg l8]
    have HL := Lib.hid (And.intro l8 (hl8 l8))
    clear hl8 l8 hb
    go_wp2_with (first
      | (go_at_call 71; refine HCH.out.mono ?_; rintro e w2 ⟨rfl, C2, _, h2⟩; obtain ⟨W2, R2⟩ := h2 HL.out.1; have c6 : w2.cell? ⟨qb, 6, none⟩ = some (.int .i64 0) := (by rw [Blk.cell W2]; rfl); have z6 : w2.frozen? ⟨qb, 6, none⟩ = false := Blk.frozen W2 _; have HX := Lib.hid (And.intro C2 (And.intro W2 R2)); clear C2 R2 W2 h2)
      | fail)
    have W3 := Blk.setCell HX.out.2.1 6 (.int .i64 6)
    have CS : Chg [qb] w2 (w2.setCell ⟨qb, 6, none⟩ (.int .i64 6)) := (Chg.refl _ _).setCell (.inl (by simp)) _
    have R3 : IsSb (w2.setCell ⟨qb, 6, none⟩ (.int .i64 6)) sb (chR2 r l) := Blk.chg HX.out.2.2 CS (by simp; exact Ne.symm HH.out.qs)
    have C3 : Chg [qb, sb] W (w2.setCell ⟨qb, 6, none⟩ (.int .i64 6)) := HX.out.1.then CS (by simp)
    obtain ⟨w3, hw3⟩ : ∃ w3, w3 = w2.setCell ⟨qb, 6, none⟩ (.int .i64 6) := ⟨_, rfl⟩
    rw [← hw3] at W3 R3 C3 ⊢
    have W3' : IsQw w3 qb sb name xq bad 6 none { w with level := l, kind := chK2 r l } := W3
    have HK := Lib.hid (chK2_lt HH.out.ok l)
    have HAT := Lib.hid (fun (w' : World) (R : IsSb w' sb (chR2 r l)) => qat_any sb (chR2 r l) (chK2 r l) l w' R (chR2_ok HH.out.ok l) HK.out HL.out.2)
    rw [(chR2_at r l (chK2 r l) l).1, (chR2_at r l (chK2 r l) l).2] at HAT
    have HB := Lib.hid (show -100 ≤ r.at (chK2 r l) l ∧ r.at (chK2 r l) l ≤ 1000000 from atOk HH.out.ok HK.out HL.out.2)
    obtain ⟨k, hk⟩ : ∃ k, k = chK2 r l := ⟨_, rfl⟩
    rw [← hk] at HAT HB W3' HK
    have HKE := Lib.hid hk
    obtain ⟨at_, hat⟩ : ∃ a, a = r.at k l := ⟨_, rfl⟩
    rw [← hat] at HAT HB
    have HAE := Lib.hid hat
    have k3 : w3.cell? ⟨qb, 3, none⟩ = some (.int .i64 (l : Nat)) ∧ w3.cell? ⟨qb, 4, none⟩ = some (.int .i64 (k : Nat)) := ⟨by rw [Blk.cell W3']; rfl, by rw [Blk.cell W3']; rfl⟩
    have z7 : ∀ W', Chg [] w3 W' → W'.cell? ⟨qb, 7, none⟩ = some (.pointer none) ∧ W'.frozen? ⟨qb, 7, none⟩ = false := fun W' C => ⟨by rw [Blk.cell (Blk.chg W3' C (by simp))]; rfl, Blk.frozen (Blk.chg W3' C (by simp)) _⟩
    have HZ := Lib.hid z7
    have HK3 := Lib.hid (fun (W' : World) (C : Chg [] w3 W') => show W'.cell? ⟨qb, 3, none⟩ = some (.int .i64 (l : Nat)) ∧ W'.cell? ⟨qb, 4, none⟩ = some (.int .i64 (k : Nat)) from ⟨by rw [Blk.cell (Blk.chg W3' C (by simp))]; rfl, by rw [Blk.cell (Blk.chg W3' C (by simp))]; rfl⟩)
    have HK7 := Lib.hid (fun (W' : World) (v : Value) (C : Chg [] w3 W') => show (W'.setCell ⟨qb, 7, none⟩ v).cell? ⟨qb, 3, none⟩ = some (.int .i64 (l : Nat)) ∧ (W'.setCell ⟨qb, 7, none⟩ v).cell? ⟨qb, 4, none⟩ = some (.int .i64 (k : Nat)) from by
      have hb := Blk.setCell (Blk.chg W3' C (by simp)) 7 v
      exact ⟨by rw [Blk.cell hb]; rfl, by rw [Blk.cell hb]; rfl⟩)
    have HY := Lib.hid (And.intro W3' (And.intro R3 C3))
    clear z7 W3 W3' R3 C3 hk hat CS hw3 HX c6 z6 HCH
    go_region_held3 (fun w' => w'.cell? ⟨qb, 3, none⟩ = some (.int .i64 (l : Nat)) ∧ w'.cell? ⟨qb, 4, none⟩ = some (.int .i64 (k : Nat))) (first | assumption | exact k3 | exact HK3.out _ (HC5.out.alloc _) | exact HK7.out _ _ (HC5.out.alloc _) | fail)
      (first | (go_at_call 52; refine (HAT.out _ (Blk.chg HY.out.2.1 (Chg.refl [] _).drew (by simp))).mono ?_; rintro e w5 ⟨rfl, C5⟩; have k5 := HK3.out w5 C5.undrew; have HC5 := Lib.hid C5.undrew; obtain ⟨p7, q7⟩ := HZ.out (w5.alloc (.cells #[.int .i64 at_, .int .i64 (r.cap : Nat), .int .i64 2, .int .i64 0, .int .u64 0, .int .u64 0, .int .u64 0, .bool false, .bool false, .int .i64 0] 108)) (HC5.out.alloc _); clear C5) | fail)
    go_wp2_with fail
    go_end0
    have C5 := HC5.out
    have W5 := Blk.setCell (Blk.chg HY.out.1 (C5.alloc (.cells #[.int .i64 at_, .int .i64 (r.cap : Nat), .int .i64 2, .int .i64 0, .int .u64 0, .int .u64 0, .int .u64 0, .bool false, .bool false, .int .i64 0] 108)) (by simp)) 7 (.pointer (some ⟨w5.heap.size, 0, none⟩))
    have hq5 : qb < w5.heap.size := Nat.lt_of_lt_of_le (Blk.lt HY.out.1) C5.size
    have CS : Chg [qb] (w5.alloc (.cells #[.int .i64 at_, .int .i64 (r.cap : Nat), .int .i64 2, .int .i64 0, .int .u64 0, .int .u64 0, .int .u64 0, .bool false, .bool false, .int .i64 0] 108)) ((w5.alloc (.cells #[.int .i64 at_, .int .i64 (r.cap : Nat), .int .i64 2, .int .i64 0, .int .u64 0, .int .u64 0, .int .u64 0, .bool false, .bool false, .int .i64 0] 108)).setCell ⟨qb, 7, none⟩ (.pointer (some ⟨w5.heap.size, 0, none⟩))) := (Chg.refl _ _).setCell (.inl (by simp)) _
    have C6 := (HY.out.2.2.then (C5.alloc (.cells #[.int .i64 at_, .int .i64 (r.cap : Nat), .int .i64 2, .int .i64 0, .int .u64 0, .int .u64 0, .int .u64 0, .bool false, .bool false, .int .i64 0] 108)) (by simp)).then CS (by simp)
    have R6 := Blk.chg (Blk.chg HY.out.2.1 (C5.alloc (.cells #[.int .i64 at_, .int .i64 (r.cap : Nat), .int .i64 2, .int .i64 0, .int .u64 0, .int .u64 0, .int .u64 0, .bool false, .bool false, .int .i64 0] 108)) (by simp)) CS (by simp; exact Ne.symm HH.out.qs)
    have O6 := Blk.chg (Blk.new w5 #[.int .i64 at_, .int .i64 (r.cap : Nat), .int .i64 2, .int .i64 0, .int .u64 0, .int .u64 0, .int .u64 0, .bool false, .bool false, .int .i64 0] 108) CS (by simp; omega)
    have M6 : IsRef _ nm nw M u := HH.out.mem.chg C6 (by simp; exact ⟨Ne.symm HH.out.qm, Ne.symm HH.out.sm⟩) (by simp; exact ⟨Ne.symm HH.out.qw, Ne.symm HH.out.sw⟩)
    unfold QTurned
    rw [← HKE.out, ← HAE.out]
    have hsz : W.heap.size ≤ w5.heap.size := Nat.le_trans HY.out.2.2.size C5.size
    exact ⟨rfl, xq, 6, some w5.heap.size, ⟨W5, R6, M6, ⟨O6, OkOp.new HB.out.1 HB.out.2 HH.out.ok.cap (by omega) (by omega)⟩, chR2_ok HH.out.ok l, HK.out, fun _ => HL.out.2, HH.out.steps⟩, C6.mono (by intro g hg; left; simp at hg ⊢; omega), .inr ⟨_, rfl, hsz⟩, fun _ => ⟨rfl, hx⟩, fun _ => hx⟩
end Go.Proofs.YtjdbgohfedjifaaGreatDoor

/- rack, the document's: a walk through a turn, followed cell by cell. -/
namespace Go.Proofs.YtjdbgohfedjifaaGreatDoor
open Go.RowKit Bosun
/-- Where a walk through a document's turn stands. -/
structure QTr (W0 W : World) (qb sb nm nw name xq : Nat) (bad : Value) (at_ : Nat) (ob0 ob : Option Nat) (oo : Option DOp) (r : RRack) (w : RWork) (M : List Nat) (u : Nat) : Prop where
  rig : Qig W qb sb nm nw name xq bad at_ ob oo r w M u
  chg : Chg (qb :: sb :: nm :: nw :: ob0.toList) W0 W
  new : ob = ob0 ∨ ∃ g, ob = some g ∧ W0.heap.size ≤ g
section
variable {W0 W W1 W' : World} {qb sb nm nw name xq xq' : Nat} {bad : Value} {at_ at' : Nat} {ob0 ob : Option Nat} {oo : Option DOp} {r r' : RRack} {w w' : RWork} {M M' : List Nat} {u u' : Nat}
theorem QTr.start (h : Qig W qb sb nm nw name xq bad at_ ob oo r w M u) : QTr W W qb sb nm nw name xq bad at_ ob ob oo r w M u := ⟨h, Chg.refl _ _, .inl rfl⟩
theorem QTr.fin (h : QTr W0 W qb sb nm nw name xq bad at_ ob0 ob oo r w M u) {w' : RWork} (hc : qwCells sb name xq bad at_ ob w = qwCells sb name xq bad at_ ob w') (hk : w'.kind < 2) (hl : w'.done = false → w'.level < 8) (hst : w'.steps ≤ 1000000) (ho : w'.op = oo) {e : Ending} (he : e = .returned (.tuple #[])) (h1 : w'.done = false → at_ = atQ w' ∧ xq = w'.x) (h2 : w'.err = 0 → xq = w'.x) : QTurned W0 W qb sb nm nw name bad ob0 (r, w', M, u) e := by
  exact ⟨he, xq, at_, ob, ⟨by unfold IsQw; rw [← hc]; exact h.rig.wk, h.rig.rk, h.rig.mem, by rw [ho]; exact h.rig.op, h.rig.ok, hk, hl, hst⟩, h.chg, h.new, h1, h2⟩
theorem Qig.keep (h : Qig W qb sb nm nw name xq bad at_ ob oo r w M u) (C : Chg [] W W') : Qig W' qb sb nm nw name xq bad at_ ob oo r w M u :=
  ⟨Blk.chg h.wk C (by simp), Blk.chg h.rk C (by simp), h.mem.chg C (by simp) (by simp), h.opChg (C.mono (by simp)), h.ok, h.kind, h.level, h.steps⟩
theorem QTr.keep (h : QTr W0 W qb sb nm nw name xq bad at_ ob0 ob oo r w M u) (C : Chg [] W W') : QTr W0 W' qb sb nm nw name xq bad at_ ob0 ob oo r w M u := ⟨h.rig.keep C, h.chg.then C (by simp), h.new⟩
/-- The work's own cells change; its op does not. -/
theorem Qig.own (h : Qig W qb sb nm nw name xq bad at_ ob oo r w M u) (B : IsQw W' qb sb name xq' bad at' ob w') (C : Chg [qb] W W') (hk : w'.kind < 2) (hl : w'.done = false → w'.level < 8) (hs : w'.steps ≤ 1000000) : Qig W' qb sb nm nw name xq' bad at' ob oo r w' M u :=
  ⟨B, Blk.chg h.rk C (by simp; exact Ne.symm h.qs), h.mem.chg C (by simp; exact Ne.symm h.qm) (by simp; exact Ne.symm h.qw), h.opChg (C.mono (by intro g hg; left; simp at hg ⊢; left; exact hg)), h.ok, hk, hl, hs⟩
theorem QTr.own (h : QTr W0 W qb sb nm nw name xq bad at_ ob0 ob oo r w M u) (B : IsQw W' qb sb name xq' bad at' ob w') (C : Chg [qb] W W') (hk : w'.kind < 2) (hl : w'.done = false → w'.level < 8) (hs : w'.steps ≤ 1000000) : QTr W0 W' qb sb nm nw name xq' bad at' ob0 ob oo r w' M u :=
  ⟨h.rig.own B C hk hl hs, h.chg.then C (by intro g hg; left; simp at hg ⊢; left; exact hg), h.new⟩
theorem QTr.set (h : QTr W0 W qb sb nm nw name xq bad at_ ob0 ob oo r w M u) (j : Nat) (v : Value) (B : IsQw (W.setCell ⟨qb, j, none⟩ v) qb sb name xq' bad at' ob w') (hk : w'.kind = w.kind) (hl : w'.level = w.level) (hd : w'.done = w.done) (hs : w'.steps = w.steps) : QTr W0 (W.setCell ⟨qb, j, none⟩ v) qb sb nm nw name xq' bad at' ob0 ob oo r w' M u :=
  h.own B ((Chg.refl _ _).setCell (.inl (by simp)) _) (by rw [hk]; exact h.rig.kind) (by rw [hd, hl]; exact h.rig.level) (by rw [hs]; exact h.rig.steps)
theorem QTr.cell (h : QTr W0 W qb sb nm nw name xq bad at_ ob0 ob oo r w M u) (j : Nat) : W.cell? ⟨qb, j, none⟩ = (qwCells sb name xq bad at_ ob w)[j]? := Blk.cell h.rig.wk j
theorem QTr.frozen (h : QTr W0 W qb sb nm nw name xq bad at_ ob0 ob oo r w M u) (j : Nat) : W.frozen? ⟨qb, j, none⟩ = false := Blk.frozen h.rig.wk j
theorem QTr.scell (h : QTr W0 W qb sb nm nw name xq bad at_ ob0 ob oo r w M u) (j : Nat) : W.cell? ⟨sb, j, none⟩ = (sbCells r)[j]? := Blk.cell h.rig.rk j
theorem QTr.sfrozen (h : QTr W0 W qb sb nm nw name xq bad at_ ob0 ob oo r w M u) (j : Nat) : W.frozen? ⟨sb, j, none⟩ = false := Blk.frozen h.rig.rk j
/-- Where it stands. -/
theorem QTr.at1 (h : QTr W0 W qb sb nm nw name xq bad at_ ob0 ob oo r w M u) (n : Nat) : QTr W0 (W.setCell ⟨qb, 6, none⟩ (.int .i64 (n : Nat))) qb sb nm nw name xq bad n ob0 ob oo r w M u :=
  h.set 6 _ (Blk.setCell h.rig.wk 6 _) rfl rfl rfl rfl
/-- A new work on a deque. -/
theorem QTr.op (h : QTr W0 W qb sb nm nw name xq bad at_ ob0 ob oo r w M u) {o : DOp} {g : Nat} (O : IsROp W g o) (ok : OkOp o) (hg : W0.heap.size ≤ g) : QTr W0 (W.setCell ⟨qb, 7, none⟩ (.pointer (some ⟨g, 0, none⟩))) qb sb nm nw name xq bad at_ ob0 (some g) (some o) r w M u := by
  have C : Chg [qb] W (W.setCell ⟨qb, 7, none⟩ (.pointer (some ⟨g, 0, none⟩))) := (Chg.refl _ _).setCell (.inl (by simp)) _
  have B : IsQw (W.setCell ⟨qb, 7, none⟩ (.pointer (some ⟨g, 0, none⟩))) qb sb name xq bad at_ (some g) w := Blk.setCell h.rig.wk 7 _
  have hgw : g ≠ qb := blk_ne O h.rig.wk (by decide)
  exact ⟨⟨B, Blk.chg h.rig.rk C (by simp; exact Ne.symm h.rig.qs), h.rig.mem.chg C (by simp; exact Ne.symm h.rig.qm) (by simp; exact Ne.symm h.rig.qw), ⟨O.chg C (by simp; exact hgw), ok⟩, h.rig.ok, h.rig.kind, h.rig.level, h.rig.steps⟩, h.chg.then C (by intro g hg; left; simp at hg ⊢; left; exact hg), .inr ⟨g, rfl, hg⟩⟩
/-- The work on the deque made a step. -/
theorem QTr.stepped (h : QTr W0 W qb sb nm nw name xq bad at_ ob0 ob oo r w M u) {g : Nat} (hob : ob = some g) {o' : DOp} (O : IsROp W' g o') (ok : OkOp o') (Mm : IsRef W' nm nw M' u') (C : Chg [g, nm, nw] W W') (n1 : g ≠ qb) (n2 : g ≠ sb) : QTr W0 W' qb sb nm nw name xq bad at_ ob0 ob (some o') r w M' u' := by
  subst hob
  refine ⟨⟨Blk.chg h.rig.wk C (by simp; exact ⟨Ne.symm n1, h.rig.qm, h.rig.qw⟩), Blk.chg h.rig.rk C (by simp; exact ⟨Ne.symm n2, h.rig.sm, h.rig.sw⟩), Mm, ⟨O, ok⟩, h.rig.ok, h.rig.kind, h.rig.level, h.rig.steps⟩, h.chg.then C ?_, h.new⟩
  intro g' hg'
  rcases h.new with e | ⟨g2, e, hg2⟩
  · left; rw [← e]; simp at hg' ⊢; omega
  · cases e; simp at hg' ⊢; omega
/-- A memory access of the work's own. -/
theorem QTr.access (h : QTr W0 W qb sb nm nw name xq bad at_ ob0 ob oo r w M u) (Mm : IsRef W' nm nw M' u') (C : Chg [nm, nw] W W') : QTr W0 W' qb sb nm nw name xq bad at_ ob0 ob oo r w M' u' :=
  ⟨⟨Blk.chg h.rig.wk C (by simp; exact ⟨h.rig.qm, h.rig.qw⟩), Blk.chg h.rig.rk C (by simp; exact ⟨h.rig.sm, h.rig.sw⟩), Mm, h.rig.opChg (C.mono (by intro g hg; left; simp at hg ⊢; omega)), h.rig.ok, h.rig.kind, h.rig.level, h.rig.steps⟩, h.chg.then C (by intro g hg; left; simp at hg ⊢; omega), h.new⟩
/-- The rack's own cells change. -/
theorem QTr.rack (h : QTr W0 W qb sb nm nw name xq bad at_ ob0 ob oo r w M u) (B : IsSb W' sb r') (C : Chg [sb] W W') (ok : OkRack r') : QTr W0 W' qb sb nm nw name xq bad at_ ob0 ob oo r' w M u :=
  ⟨⟨Blk.chg h.rig.wk C (by simp; exact h.rig.qs), B, h.rig.mem.chg C (by simp; exact Ne.symm h.rig.sm) (by simp; exact Ne.symm h.rig.sw), h.rig.opChg (C.mono (by intro g hg; left; simp at hg ⊢; omega)), ok, h.rig.kind, h.rig.level, h.rig.steps⟩, h.chg.then C (by intro g hg; left; simp at hg ⊢; omega), h.new⟩
theorem QTr.end_ (h : QTr W0 W qb sb nm nw name xq bad at_ ob0 ob oo r w M u) (e : Int) (B : IsQw W' qb sb name xq bad at_ ob { w with done := true, err := e }) (C : Chg [qb] W W') : QTr W0 W' qb sb nm nw name xq bad at_ ob0 ob oo r { w with done := true, err := e } M u :=
  h.own B C h.rig.kind (fun h => by simp at h) h.rig.steps
theorem QTr.opAt (h : QTr W0 W qb sb nm nw name xq bad at_ ob0 ob oo r w M u) (hd : w.done = false) : -100 ≤ r.at w.kind w.level ∧ r.at w.kind w.level ≤ 1000000 := atOk h.rig.ok h.rig.kind (h.rig.level hd)
theorem QTr.size (h : QTr W0 W qb sb nm nw name xq bad at_ ob0 ob oo r w M u) : W0.heap.size ≤ W.heap.size := h.chg.size
end
theorem qw_s2 {W : World} {qb sb name xq : Nat} {bad : Value} {at_ : Nat} {ob : Option Nat} {w : RWork} (h : IsQw W qb sb name xq bad at_ ob w) (x : Nat) : IsQw (W.setCell ⟨qb, 2, none⟩ (.int .u64 (x : Nat))) qb sb name x bad at_ ob w := Blk.setCell h 2 _
theorem qw_s8 {W : World} {qb sb name xq : Nat} {bad : Value} {at_ : Nat} {ob : Option Nat} {w : RWork} (h : IsQw W qb sb name xq bad at_ ob w) (x : Nat) : IsQw (W.setCell ⟨qb, 8, none⟩ (.int .u64 (x : Nat))) qb sb name xq bad at_ ob { w with from_ := x } := Blk.setCell h 8 _
theorem qw_s9 {W : World} {qb sb name xq : Nat} {bad : Value} {at_ : Nat} {ob : Option Nat} {w : RWork} (h : IsQw W qb sb name xq bad at_ ob w) (x : Nat) : IsQw (W.setCell ⟨qb, 9, none⟩ (.int .u64 (x : Nat))) qb sb name xq bad at_ ob { w with swept := x } := Blk.setCell h 9 _
theorem qw_s10 {W : World} {qb sb name xq : Nat} {bad : Value} {at_ : Nat} {ob : Option Nat} {w : RWork} (h : IsQw W qb sb name xq bad at_ ob w) (b : Bool) : IsQw (W.setCell ⟨qb, 10, none⟩ (.bool b)) qb sb name xq bad at_ ob { w with full := b } := Blk.setCell h 10 _
theorem qw_s11 {W : World} {qb sb name xq : Nat} {bad : Value} {at_ : Nat} {ob : Option Nat} {w : RWork} (h : IsQw W qb sb name xq bad at_ ob w) (b : Bool) : IsQw (W.setCell ⟨qb, 11, none⟩ (.bool b)) qb sb name xq bad at_ ob { w with holds := b } := Blk.setCell h 11 _
theorem qw_s12 {W : World} {qb sb xq : Nat} {bad : Value} {at_ : Nat} {ob : Option Nat} {w : RWork} (h : IsQw W qb sb 0 xq bad at_ ob w) : IsQw (W.setCell ⟨qb, 12, none⟩ (.bool true)) qb sb 0 xq bad at_ ob { w with there := true } := Blk.setCell h 12 _
end Go.Proofs.YtjdbgohfedjifaaGreatDoor
