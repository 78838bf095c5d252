/- rack, the document's: take: a step of the steal. Printed by gen_q.py. -/
import Derived.Test.YtjdbgohfedjifaaGreatDoorRpC
import Derived.BigRegion
import Derived.Deep.AppendLies
namespace Bosun
open Go
theorem put_eq_has {s l : Nat} (hs : s < 18446744073709551616) (hl : l < 64) (b : Bool) : put s (l : Int) b = s ↔ s.testBit l = b := by
  constructor
  · intro h
    have := put_testBit s (l : Int) b l
    rw [h] at this
    rw [this]; simp [hl]
  · intro h
    apply Nat.eq_of_testBit_eq
    intro j
    rw [put_testBit]
    by_cases hj : j < 64
    · by_cases e : j = l
      · subst e; simp [hj, h]
      · have : ¬ ((j : Int) = (l : Int)) := by omega
        simp [hj, this]
    · rw [bits_above hs (show 64 ≤ j by omega)]; simp [hj]
/-- A steal that is done won, came too late, or found nothing. -/
theorem steal_err {o : DOp} (M : List Nat) (u : Nat) (hk : o.kind = 2) (hd : o.done = false) (h : (stepD o M u).1.done = true) : (stepD o M u).1.err = 0 ∨ (stepD o M u).1.err = 7 ∨ (stepD o M u).1.err = 8 := by
  obtain ⟨base, cap, kind, steps, b, t, x, won, done, err⟩ := o
  simp only at hk hd
  subst hk hd
  unfold stepD at h ⊢
  rw [if_neg (by simp)] at h ⊢
  match steps with
  | 0 => simp at h
  | 1 =>
    simp only at h ⊢
    split at h
    · rename_i h1; rw [if_pos h1]; exact .inr (.inl rfl)
    · simp at h
  | 2 => simp at h
  | n + 3 => simp only; split <;> simp
theorem resD_won {o : DOp} (h : o.done = true) (he : o.err = 0) : (resD o).1 = o.x := by unfold resD; rw [if_neg (by rw [h]; simp), if_neg (by rw [he]; simp)]
end Bosun
namespace Go.Proofs.YtjdbgohfedjifaaGreatDoor
open Go.RowKit Bosun
theorem RRack.set_lt {r : RRack} (ok : OkRack r) (k : Nat) : r.set k < 18446744073709551616 := by have := okRack_set256 ok k; omega
theorem sb_put {W : World} {sb : Nat} {r : RRack} (h : IsSb W sb r) (k s : Nat) (hk : k < 2) : IsSb (W.setCell ⟨sb, 2 + k, none⟩ (.int .u64 (s : Nat))) sb (r.put k s) := by
  rcases (show k = 0 ∨ k = 1 by omega) with rfl | rfl
  · exact Blk.setCell h 2 _
  · exact Blk.setCell h 3 _
theorem sb_get {W : World} {sb : Nat} {r : RRack} (h : IsSb W sb r) {k : Nat} (hk : k < 2) : W.cell? ⟨sb, 2 + k, none⟩ = some (.int .u64 (r.set k : Nat)) := by
  rcases (show k = 0 ∨ k = 1 by omega) with rfl | rfl
  · rw [Blk.cell h]; rfl
  · rw [Blk.cell h]; rfl
set_option maxRecDepth 8000 in
set_option maxHeartbeats 16000000 in
theorem qtake_steal (W : World) (qb sb nm nw name xq : Nat) (bad : Value) (ob : Option Nat) (r : RRack) (w : RWork) (M : List Nat) (u : Nat) (h : Qig W qb sb nm nw name xq bad 6 ob w.op r w M u) (hd : w.done = false) (hx : xq = w.x) (o : DOp) (ho : w.op = some o) (hn : w.next = .taking) (_hk2 : o.kind = 2) (_hnd : o.done = false) (hbit : (r.set w.kind).testBit w.level = true) (good : Nat → Bool) :
    Calls Tryz.prog 44 #[.pointer (some ⟨qb, 0, none⟩), .pointer (some ⟨nm, 0, none⟩)] W fun e W' => QTurned W W' qb sb nm nw name bad ob (phaseR good r w M u) e := by
  have HP : phaseR good r w M u = (if (stepD o M u).1.done = false then (r, { w with op := some (stepD o M u).1 }, (stepD o M u).2.1, (stepD o M u).2.2)
      else if (resD (stepD o M u).1).2 ≠ 7 then (r, { w with op := some (stepD o M u).1, x := (resD (stepD o M u).1).1, done := true, err := (resD (stepD o M u).1).2 }, (stepD o M u).2.1, (stepD o M u).2.2)
      else (if put (r.set w.kind) w.level false ≠ r.set w.kind ∧ w.kind = 0 then (r.put w.kind (put (r.set w.kind) w.level false), { w with op := some (stepD o M u).1, next := .emptying }, (stepD o M u).2.1, (stepD o M u).2.2)
       else (r.put w.kind (put (r.set w.kind) w.level false), { w with op := some (stepD o M u).1, done := true, err := 8 }, (stepD o M u).2.1, (stepD o M u).2.2))) := by
    unfold phaseR
    rw [hn, ho]
    rfl
  obtain ⟨g, rfl, a1, a2, a3, a4, a5, a6⟩ := h.opOf ho
  have c0 : W.cell? ⟨qb, 0, none⟩ = some (.pointer (some ⟨sb, 0, none⟩)) := by rw [Blk.cell h.wk]; rfl
  have c6 : W.cell? ⟨qb, 6, none⟩ = some (.int .i64 6) := by rw [Blk.cell h.wk]; rfl
  have c7 : W.cell? ⟨qb, 7, none⟩ = some (.pointer (some ⟨g, 0, none⟩)) := by rw [Blk.cell h.wk]; rfl
  have HS := Lib.hid (rstep_any g o W a1 a2 nm nw M u h.mem a5 a6)
  have hok := okStep (W := M) (u := u) a2 h.mem.small
  have hkd := stepD_kind o M u
  obtain ⟨o', ho'⟩ : ∃ o', o' = (stepD o M u).1 := ⟨_, rfl⟩
  obtain ⟨M', hM'⟩ : ∃ M', M' = (stepD o M u).2.1 := ⟨_, rfl⟩
  obtain ⟨u', hu'⟩ : ∃ u', u' = (stepD o M u).2.2 := ⟨_, rfl⟩
  unfold RStepped at HS
  rw [← ho', ← hM', ← hu'] at HS HP
  rw [← ho'] at hok hkd
  obtain ⟨S, hS⟩ : ∃ S, S = phaseR good r w M u := ⟨_, rfl⟩
  rw [← hS]
  rw [← hS] at HP
  have HPS := Lib.hid HP
  have HH := Lib.hid (QTr.start h)
  have NE := Lib.hid (And.intro a3 a4)
  have HDN := Lib.hid hd
  have HX := Lib.hid hx
  have HOK := Lib.hid hok
  have HNX := Lib.hid hn
  have HBIT := Lib.hid hbit
  have hkl := h.kind
  have hlv := h.level hd
  have HSL := Lib.hid (RRack.set_lt h.ok w.kind)
  have HOR := Lib.hid h.ok
  clear HP hS ho' hM' hu' a1 a2 a3 a4 a5 a6 h hd hok hkd hn hx hbit ho _hk2 _hnd
  go_enter Tryz.func44, Tryz.ntmps44
  go_wp2_with fail
  refine HS.out.mono ?_
  rintro e w1 ⟨rfl, O1, M1, C1⟩
  have HT := Lib.hid (HH.out.stepped rfl O1 HOK.out M1 C1 NE.out.1 NE.out.2)
  have HO1 := Lib.hid O1
  clear HS C1 c7 O1 M1 c6 c0
  cases hdn : o'.done with
  | false =>
    rw [hdn] at HPS
    clear hdn
    go_wp2_with fail
    (first | go_end0 | refine bodyPost_ret (results_none rfl _ _ _) rfl ?_ | (rw [Exit.noGoto_normal]; go_wp2_with fail; (first | go_end0 | refine bodyPost_ret (results_none rfl _ _ _) rfl ?_)) | (rw [Exit.noGoto_normal]; (first | go_end0 | refine bodyPost_ret (results_none rfl _ _ _) rfl ?_)))
    rw [HPS.out, if_pos (by trivial)]
    refine HT.out.fin ?_ ?_ ?_ ?_ ?_ rfl ?_ ?_
    · exact rfl
    · exact HT.out.rig.kind
    · exact HT.out.rig.level
    · exact HT.out.rig.steps
    · exact rfl
    · exact (fun _ => ⟨by unfold atQ; rw [show ({ w with op := some o' } : RWork).next = .taking from HNX.out], HX.out⟩)
    · exact (fun _ => HX.out)
  | true =>
    have HRD := Lib.hid (resD_err hdn)
    have HR1 := Lib.hid (fun e => resD_won hdn e)
    rw [hdn] at HPS
    clear hdn
    obtain ⟨er, her⟩ : ∃ er, er = o'.err := ⟨_, rfl⟩
    obtain ⟨xr, hxr⟩ : ∃ xr, xr = o'.x := ⟨_, rfl⟩
    have c7 : w1.cell? ⟨qb, 7, none⟩ = some (.pointer (some ⟨g, 0, none⟩)) := HT.out.cell 7
    have e9 : w1.cell? ⟨g, 9, none⟩ = some (.int .i64 er) := by rw [her]; exact HO1.out.c9
    have e6 : w1.cell? ⟨g, 6, none⟩ = some (.int .u64 (xr : Nat)) := by rw [hxr]; exact HO1.out.c6
    have HER := Lib.hid her
    have HXR := Lib.hid hxr
    rw [HRD.out, ← her] at HPS
    clear her hxr
    by_cases h7 : er = 7
    · subst h7
      obtain ⟨l, hl⟩ : ∃ l, l = w.level := ⟨_, rfl⟩
      obtain ⟨s, hs⟩ : ∃ s, s = r.set w.kind := ⟨_, rfl⟩
      have HLS := Lib.hid (And.intro hl hs)
      have d2 : w1.cell? ⟨sb, 2 + w.kind, none⟩ = some (.int .u64 (s : Nat)) := by rw [hs]; exact sb_get HT.out.rig.rk hkl
      have y2 : w1.frozen? ⟨sb, 2 + w.kind, none⟩ = false := HT.out.sfrozen _
      have c0 := HT.out.cell 0
      have c3 : w1.cell? ⟨qb, 3, none⟩ = some (.int .i64 (l : Nat)) := by rw [hl]; exact HT.out.cell 3
      have c4 : w1.cell? ⟨qb, 4, none⟩ = some (.int .i64 (w.kind : Nat)) := HT.out.cell 4
      simp only [qwCells] at c0
      have HB := Lib.hid (fun (W1 : World) (C : Chg [] w1 W1) => sb_put (HT.out.keep C).rig.rk w.kind (put s (l : Int) false) hkl)
      have HSL2 := HSL.out
      rw [← hs] at HSL2
      have HPU := Lib.hid (fun w => put_any s HSL2 (l : Int) false w)
      have HNE : put s (l : Int) false ≠ s := fun e => by
        rw [hl, hs] at e
        have := (put_eq_has HSL.out (by omega) false).1 e
        rw [HBIT.out] at this
        simp at this
      obtain ⟨k, hk⟩ : ∃ k, k = w.kind := ⟨_, rfl⟩
      rw [← hk] at c4 d2 y2 HB hkl
      obtain ⟨s', hs'⟩ : ∃ s', s' = put s (l : Int) false := ⟨_, rfl⟩
      rw [← hs'] at HPU HB HNE
      have HPS2 := Lib.hid (show S = (if s' ≠ s ∧ k = 0 then (r.put k s', { w with op := some o', next := .emptying }, M', u') else (r.put k s', { w with op := some o', done := true, err := 8 }, M', u')) from by rw [HPS.out, if_neg (by simp), if_neg (by simp), hs', hs, hl, hk])
      have HK := Lib.hid hk
      have HN := Lib.hid (And.intro hs' HNE)
      have HLV := Lib.hid (show l < 8 by rw [hl]; exact hlv)
      clear hk hs' hs hl HNE HSL2 HSL HBIT hlv
      go_upto_region 14 with (fail)
      have hki : (k : Int) < 2 := by omega
      have hk0 : (0 : Int) ≤ (k : Int) := by omega
      clear hkl
      go_cut [] (fun wx => IsSb wx sb (r.put k s') ∧ Chg [sb] w1 wx)
      case first =>
        go_region_with (first | (go_at_call 68; refine (HPU.out _).mono ?_; rintro e w3 ⟨rfl, C3⟩; have y3 := (fkp C3.undrew d2).trans y2; have p3 := ckp C3.undrew d2; have q3 := ckp C3.undrew c4; have HC3 := Lib.hid C3.undrew; clear C3) | fail)
        all_goals
          go_wp2_with fail
          go_meet
          exact ⟨HB.out _ HC3.out, (HC3.out.weak).setCell (.inl (by simp)) _⟩
      case rest =>
      obtain ⟨R4, C4⟩ := hcut
      have HT4 := Lib.hid (HT.out.rack R4 C4 (okRack_put HOR.out (by rw [HN.out.1]; exact put256 (by rw [HLS.out.2]; exact okRack_set256 HOR.out _) HLV.out _)))
      have HE := Lib.hid (fun W1 (T : QTr W W1 qb sb nm nw name xq bad 6 (some g) (some g) (some o') (r.put k s') w M' u') => qend_any qb sb name xq bad 6 (some g) w 8 W1 T.rig.wk)
      have c4 : wc.cell? ⟨qb, 4, none⟩ = some (.int .i64 (k : Nat)) := by rw [HK.out]; exact HT4.out.cell 4
      clear c0 c3 d2 y2 HB HPU R4 C4 e9 e6 c7 HT
      rcases (show k = 0 ∨ k = 1 by omega) with rfl | rfl
      · have c4' : wc.cell? ⟨qb, 4, none⟩ = some (.int .i64 0) := c4
        clear c4
        have c6 := HT4.out.cell 6
        have z6 := HT4.out.frozen 6
        simp only [qwCells] at c6
        go_wp2_with fail
        (first | go_end0 | refine bodyPost_ret (results_none rfl _ _ _) rfl ?_ | (rw [Exit.noGoto_normal]; go_wp2_with fail; (first | go_end0 | refine bodyPost_ret (results_none rfl _ _ _) rfl ?_)) | (rw [Exit.noGoto_normal]; (first | go_end0 | refine bodyPost_ret (results_none rfl _ _ _) rfl ?_)))
        rw [HPS2.out, if_pos ⟨HN.out.2, by trivial⟩]
        refine (HT4.out.at1 5).fin ?_ ?_ ?_ ?_ ?_ rfl ?_ ?_
        · exact rfl
        · exact HT4.out.rig.kind
        · exact HT4.out.rig.level
        · exact HT4.out.rig.steps
        · exact rfl
        · exact (fun _ => ⟨rfl, HX.out⟩)
        · exact (fun _ => HX.out)
      · have c4' : wc.cell? ⟨qb, 4, none⟩ = some (.int .i64 1) := c4
        clear c4
        go_wp2_with (go_at_call 67; refine (HE.out _ HT4.out).mono ?_; rintro e w5 ⟨rfl, B5, C5⟩; have HZ := Lib.hid (HT4.out.end_ 8 B5 C5); clear B5 C5)
        (first | go_end0 | refine bodyPost_ret (results_none rfl _ _ _) rfl ?_ | (rw [Exit.noGoto_normal]; go_wp2_with fail; (first | go_end0 | refine bodyPost_ret (results_none rfl _ _ _) rfl ?_)) | (rw [Exit.noGoto_normal]; (first | go_end0 | refine bodyPost_ret (results_none rfl _ _ _) rfl ?_)))
        rw [HPS2.out, if_neg (fun h => by have := h.2; simp at this)]
        refine HZ.out.fin ?_ ?_ ?_ ?_ ?_ rfl ?_ ?_
        · exact rfl
        · exact HZ.out.rig.kind
        · exact (fun h => by simp at h)
        · exact HZ.out.rig.steps
        · exact rfl
        · exact (fun h => by simp at h)
        · exact (fun h => by simp at h)
    · have f7 : (er != 7) = true := by simp [h7]
      have H7 := Lib.hid h7
      have c2 := HT.out.cell 2
      have z2 := HT.out.frozen 2
      simp only [qwCells] at c2
      clear h7
      go_upto_region 13 with (fail)
      have HT2 := Lib.hid (HT.out.set 2 (.int .u64 (xr : Nat)) (qw_s2 HT.out.rig.wk xr) rfl rfl rfl rfl)
      have C2 : Chg [qb] w1 (w1.setCell ⟨qb, 2, none⟩ (.int .u64 (xr : Nat))) := (Chg.refl _ _).setCell (.inl (by simp)) _
      have HO2 := Lib.hid (HO1.out.chg C2 (by simp; exact NE.out.1))
      obtain ⟨w2, hw2⟩ : ∃ w2, w2 = w1.setCell ⟨qb, 2, none⟩ (.int .u64 (xr : Nat)) := ⟨_, rfl⟩
      rw [← hw2] at HT2 HO2 ⊢
      clear hw2 c2 z2 C2 c7 e9 e6
      have c7 : w2.cell? ⟨qb, 7, none⟩ = some (.pointer (some ⟨g, 0, none⟩)) := HT2.out.cell 7
      have e9 : w2.cell? ⟨g, 9, none⟩ = some (.int .i64 er) := by rw [HER.out]; exact HO2.out.c9
      have HE := Lib.hid (qend_any qb sb name xr bad 6 (some g) w er w2 HT2.out.rig.wk)
      go_wp2_with (go_at_call 67; refine HE.out.mono ?_; rintro e w3 ⟨rfl, B3, C3⟩; have HZ := Lib.hid (HT2.out.end_ er B3 C3); clear B3 C3)
      (first | go_end0 | refine bodyPost_ret (results_none rfl _ _ _) rfl ?_ | (rw [Exit.noGoto_normal]; go_wp2_with fail; (first | go_end0 | refine bodyPost_ret (results_none rfl _ _ _) rfl ?_)) | (rw [Exit.noGoto_normal]; (first | go_end0 | refine bodyPost_ret (results_none rfl _ _ _) rfl ?_)))
      rw [HPS.out, if_neg (by simp), if_pos H7.out]
      refine HZ.out.fin ?_ ?_ ?_ ?_ ?_ rfl ?_ ?_
      · exact rfl
      · exact HZ.out.rig.kind
      · exact (fun h => by simp at h)
      · exact HZ.out.rig.steps
      · exact rfl
      · exact (fun h => by simp at h)
      · exact (fun h => by rw [HXR.out]; exact (HR1.out (by rw [← HER.out]; exact h)).symm)
end Go.Proofs.YtjdbgohfedjifaaGreatDoor

/- rack, the document's: put. Printed by gen_q.py. -/
namespace Go.Proofs.YtjdbgohfedjifaaGreatDoor
open Go.RowKit Bosun
/-- The same, and the deque that a Put works on lies in block db. -/
structure QPr (W0 W : World) (qb sb nm nw name xq : Nat) (bad : Value) (at_ : Nat) (ob0 ob : Option Nat) (oo : Option DOp) (r : RRack) (w : RWork) (M : List Nat) (u : Nat) (db : Nat) : Prop where
  tr : QTr W0 W qb sb nm nw name xq bad at_ ob0 ob oo r w M u
  db : Blk W db #[.int .i64 (r.at w.kind w.level), .int .i64 (r.cap : Nat)] 100
section
variable {W0 W W1 W' : World} {qb sb nm nw name xq xq' : Nat} {bad : Value} {at_ at' : Nat} {ob0 ob : Option Nat} {oo : Option DOp} {r r' : RRack} {w w' : RWork} {M M' : List Nat} {u u' db : Nat}
theorem QPr.start (h : Qig W qb sb nm nw name xq bad at_ ob oo r w M u) (C : Chg [] W W') (B : Blk W' db #[.int .i64 (r.at w.kind w.level), .int .i64 (r.cap : Nat)] 100) : QPr W W' qb sb nm nw name xq bad at_ ob ob oo r w M u db := ⟨(QTr.start h).keep C, B⟩
theorem QPr.keep (h : QPr W0 W qb sb nm nw name xq bad at_ ob0 ob oo r w M u db) (C : Chg [] W W') : QPr W0 W' qb sb nm nw name xq bad at_ ob0 ob oo r w M u db := ⟨h.tr.keep C, Blk.chg h.db C (by simp)⟩
theorem QPr.dq (h : QPr W0 W qb sb nm nw name xq bad at_ ob0 ob oo r w M u db) : db ≠ qb := blk_ne h.db h.tr.rig.wk (by decide)
theorem QPr.set (h : QPr W0 W qb sb nm nw name xq bad at_ ob0 ob oo r w M u db) (j : Nat) (v : Value) (B : IsQw (W.setCell ⟨qb, j, none⟩ v) qb sb name xq' bad at' ob w') (hk : w'.kind = w.kind) (hl : w'.level = w.level) (hd : w'.done = w.done) (hs : w'.steps = w.steps) : QPr W0 (W.setCell ⟨qb, j, none⟩ v) qb sb nm nw name xq' bad at' ob0 ob oo r w' M u db :=
  ⟨h.tr.set j v B hk hl hd hs, by rw [hk, hl]; exact Blk.chg h.db ((Chg.refl [qb] W).setCell (a := ⟨qb, j, none⟩) (.inl (by simp)) v) (by simp; exact h.dq)⟩
theorem QPr.at1 (h : QPr W0 W qb sb nm nw name xq bad at_ ob0 ob oo r w M u db) (n : Nat) : QPr W0 (W.setCell ⟨qb, 6, none⟩ (.int .i64 (n : Nat))) qb sb nm nw name xq bad n ob0 ob oo r w M u db :=
  h.set 6 _ (Blk.setCell h.tr.rig.wk 6 _) rfl rfl rfl rfl
theorem QPr.op (h : QPr W0 W qb sb nm nw name xq bad at_ ob0 ob oo r w M u db) {o : DOp} {g : Nat} (O : IsROp W g o) (ok : OkOp o) (hg : W0.heap.size ≤ g) : QPr W0 (W.setCell ⟨qb, 7, none⟩ (.pointer (some ⟨g, 0, none⟩))) qb sb nm nw name xq bad at_ ob0 (some g) (some o) r w M u db :=
  ⟨h.tr.op O ok hg, Blk.chg h.db ((Chg.refl [qb] W).setCell (a := ⟨qb, 7, none⟩) (.inl (by simp)) _) (by simp; exact h.dq)⟩
theorem QPr.stepped (h : QPr W0 W qb sb nm nw name xq bad at_ ob0 ob oo r w M u db) {g : Nat} (hob : ob = some g) {o0 : DOp} (O0 : IsROp W g o0) {o' : DOp} (O : IsROp W' g o') (ok : OkOp o') (Mm : IsRef W' nm nw M' u') (C : Chg [g, nm, nw] W W') (n1 : g ≠ qb) (n2 : g ≠ sb) : QPr W0 W' qb sb nm nw name xq bad at_ ob0 ob (some o') r w M' u' db :=
  ⟨h.tr.stepped hob O ok Mm C n1 n2, Blk.chg h.db C (by simp; exact ⟨blk_ne h.db O0 (by decide), blk_ne h.db h.tr.rig.mem.head (by decide), blk_ne h.db h.tr.rig.mem.row (by decide)⟩)⟩
theorem QPr.c0 (h : QPr W0 W qb sb nm nw name xq bad at_ ob0 ob oo r w M u db) : W.cell? ⟨db, 0, none⟩ = some (.int .i64 (r.at w.kind w.level)) := by rw [Blk.cell h.db]; rfl
theorem QPr.c1 (h : QPr W0 W qb sb nm nw name xq bad at_ ob0 ob oo r w M u db) : W.cell? ⟨db, 1, none⟩ = some (.int .i64 (r.cap : Nat)) := by rw [Blk.cell h.db]; rfl
end

theorem cfar {w : World} {a b : Addr} {v u : Value} (h : w.cell? b = some u) (hne : a.block ≠ b.block) : (w.setCell a v).cell? b = some u :=
  (World.cell?_setCell_far w a b v hne).trans h
set_option maxRecDepth 8000 in
set_option maxHeartbeats 16000000 in
theorem qput_sign (W : World) (qb sb nm nw name xq : Nat) (bad : Value) (ob : Option Nat) (r : RRack) (w : RWork) (M : List Nat) (u : Nat) (h : Qig W qb sb nm nw name xq bad 5 ob w.op r w M u) (hd : w.done = false) (hx : xq = w.x) (hn : w.next = .signing) (good : Nat → Bool) :
    Calls Tryz.prog 43 #[.pointer (some ⟨qb, 0, none⟩), .pointer (some ⟨nm, 0, none⟩)] W fun e W' => QTurned W W' qb sb nm nw name bad ob (phaseR good r w M u) e := by
  have HP : phaseR good r w M u = (r, { w with done := true, err := 0 }, setA M r.base r.s0, tick M r.base u) := by unfold phaseR; rw [hn]
  rw [HP]
  have HS := Lib.hid (fun w2 hm => rstore_any nm nw M u w2 hm r.base r.s0 h.ok.s0)
  have c0 : W.cell? ⟨qb, 0, none⟩ = some (.pointer (some ⟨sb, 0, none⟩)) := by rw [Blk.cell h.wk]; rfl
  have c3 : W.cell? ⟨qb, 3, none⟩ = some (.int .i64 (w.level : Nat)) := by rw [Blk.cell h.wk]; rfl
  have c4 : W.cell? ⟨qb, 4, none⟩ = some (.int .i64 (w.kind : Nat)) := by rw [Blk.cell h.wk]; rfl
  have c6 : W.cell? ⟨qb, 6, none⟩ = some (.int .i64 5) := by rw [Blk.cell h.wk]; rfl
  have HAT := Lib.hid (fun W1 (C : Chg [] W W1) => qat_any sb r w.kind w.level W1 (Blk.chg h.rk C (by simp)) h.ok h.kind (h.level hd))
  have HH := Lib.hid h
  have HDN := Lib.hid hd
  have HX := Lib.hid hx
  obtain ⟨l, hl⟩ : ∃ l, l = w.level := ⟨_, rfl⟩
  obtain ⟨k, hk⟩ : ∃ k, k = w.kind := ⟨_, rfl⟩
  rw [← hl] at c3
  rw [← hk] at c4
  rw [← hl, ← hk] at HAT
  obtain ⟨at_, hat⟩ : ∃ a, a = r.at k l := ⟨_, rfl⟩
  rw [← hat] at HAT
  have HAE := Lib.hid (show r.at w.kind w.level = at_ by rw [hat, hk, hl])
  have hqL : qb < W.heap.size := Blk.lt h.wk
  have hqW : W.heap.size ≠ qb := by omega
  clear h hd hx hl hk hat HP hn
  go_enter Tryz.func43, Tryz.ntmps43
  go_upto_region 1 with (fail)
  go_cut [5] (fun s wx => ∃ db, s = .pointer (some ⟨db, 0, none⟩) ∧ Blk wx db #[.int .i64 at_, .int .i64 (r.cap : Nat)] 100 ∧ Chg [] W wx)
  case first =>
    go_region_held3 (fun w' => w'.cell? ⟨qb, 3, none⟩ = some (.int .i64 (l : Nat)) ∧ w'.cell? ⟨qb, 4, none⟩ = some (.int .i64 (k : Nat)))
      (first | assumption | exact ⟨c3, c4⟩ | exact ⟨ckp ((Chg.refl [] _).alloc _) (And.left (by assumption)), ckp ((Chg.refl [] _).alloc _) (And.right (by assumption))⟩ | exact ⟨cfar (cfar (ckp HC5.out c3) hqW) hqW, cfar (cfar (ckp HC5.out c4) hqW) hqW⟩ | exact ⟨cfar (cfar (ckp (HC5.out.alloc _) c3) hq5) hq5, cfar (cfar (ckp (HC5.out.alloc _) c4) hq5) hq5⟩ | fail)
      (first
        | (go_at_call 52; refine (HAT.out _ (Chg.refl [] _).drew).mono ?_; rintro e w5 ⟨rfl, C5⟩; have HC5 := Lib.hid (show Chg [] W w5 from C5.undrew); have k5 := And.intro (ckp HC5.out c3) (ckp HC5.out c4); have hq5 := (show w5.heap.size ≠ qb by have := HC5.out.size; omega); clear C5)
        | (go_at_call 52; refine (HAT.out _ (((Chg.refl [] _).alloc _).drew)).mono ?_; rintro e w5 ⟨rfl, C5⟩; have HC5 := Lib.hid (show Chg [] W w5 from (((Chg.refl [] _).alloc _).then C5.undrew (by simp))); have k5 := And.intro (ckp HC5.out c3) (ckp HC5.out c4); have hq5 := (show w5.heap.size ≠ qb by have := HC5.out.size; omega); have nb := Blk.chg (Blk.new W #[.int .i64 0, .int .i64 0] 100) C5.undrew (by simp); have n0 := Blk.cell nb 0; have n1 := Blk.cell nb 1; have y0 := Blk.frozen nb 0; have y1 := Blk.frozen nb 1; simp only [List.getElem?_toArray, List.getElem?_cons_zero, List.getElem?_cons_succ] at n0 n1; have HNB := Lib.hid nb; clear C5 nb)
        | fail)
    all_goals
      go_wp2_with fail
      go_meet
      first
        | exact ⟨_, rfl, Blk.new _ _ _, HC5.out.alloc _⟩
        | exact ⟨_, rfl, Blk.setCell (Blk.setCell HNB.out 0 _) 1 _, (HC5.out.setCell (.inr (Nat.le_refl _)) _).setCell (.inr (Nat.le_refl _)) _⟩
  case rest =>
  obtain ⟨db, rfl, B0, C0⟩ := hcut
  have HT := Lib.hid (QPr.start HH.out C0 (by rw [HAE.out]; exact B0))
  clear B0 C0 c0 c3 c4 c6
  have c6 : wc.cell? ⟨qb, 6, none⟩ = some (.int .i64 5) := HT.out.tr.cell 6
  have s0 : wc.cell? ⟨sb, 0, none⟩ = some (.int .i64 r.base) := HT.out.tr.scell 0
  have s2 : wc.cell? ⟨sb, 2, none⟩ = some (.int .u64 (r.s0 : Nat)) := HT.out.tr.scell 2
  have HE := Lib.hid (fun W1 M1 u1 (T : QTr W W1 qb sb nm nw name xq bad 5 ob ob w.op r w M1 u1) => qend_any qb sb name xq bad 5 ob w 0 W1 T.rig.wk)
  go_upto_region 23 with (fail)
  go_region_held3 (fun w' => w'.cell? ⟨sb, 0, none⟩ = some (.int .i64 r.base) ∧ w'.cell? ⟨sb, 2, none⟩ = some (.int .u64 (r.s0 : Nat))) (first | assumption | exact ⟨s0, s2⟩ | fail)
    (first | (go_at_call 69; refine (HS.out _ (HT.out.tr.rig.mem.chg (Chg.refl [] _).drew (by simp) (by simp))).mono ?_; rintro e w3 ⟨rfl, M3, C3⟩; have HT3 := Lib.hid (HT.out.tr.access M3 C3.undrew); have k3 : w3.cell? ⟨sb, 0, none⟩ = some (.int .i64 r.base) ∧ w3.cell? ⟨sb, 2, none⟩ = some (.int .u64 (r.s0 : Nat)) := ⟨HT3.out.scell 0, HT3.out.scell 2⟩; clear M3 C3) | fail)
  go_wp2_with (go_at_call 67; refine (HE.out _ _ _ HT3.out).mono ?_; rintro e w5 ⟨rfl, B5, C5⟩; have HZ := Lib.hid (HT3.out.end_ 0 B5 C5); clear B5 C5)
  (first | go_end0 | refine bodyPost_ret (results_none rfl _ _ _) rfl ?_ | (rw [Exit.noGoto_normal]; go_wp2_with fail; (first | go_end0 | refine bodyPost_ret (results_none rfl _ _ _) rfl ?_)) | (rw [Exit.noGoto_normal]; (first | go_end0 | refine bodyPost_ret (results_none rfl _ _ _) rfl ?_)))
  refine HZ.out.fin ?_ ?_ ?_ ?_ ?_ rfl ?_ ?_
  · exact rfl
  · exact HZ.out.rig.kind
  · exact (fun h => by simp at h)
  · exact HZ.out.rig.steps
  · exact rfl
  · exact (fun h => by simp at h)
  · exact (fun _ => HX.out)
end Go.Proofs.YtjdbgohfedjifaaGreatDoor
