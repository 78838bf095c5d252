/- rack, the document's: put: asking, again. Printed by gen_q.py. -/
import Derived.Test.YtjdbgohfedjifaaGreatDoorRpV
namespace Go.Proofs.YtjdbgohfedjifaaGreatDoor
open Go.RowKit Bosun
theorem QPr.atL {W0 W : World} {qb sb nm nw name xq : Nat} {bad : Value} {at_ : Nat} {ob0 ob : Option Nat} {oo : Option DOp} {r : RRack} {w : RWork} {M : List Nat} {u db : Nat} (h : QPr W0 W qb sb nm nw name xq bad at_ ob0 ob oo r w M u db) (n : Nat) (z : Int) (hz : z = (n : Int)) : QPr W0 (W.setCell ⟨qb, 6, none⟩ (.int .i64 z)) qb sb nm nw name xq bad n ob0 ob oo r w M u db := by
  subst hz; exact h.at1 n
set_option maxRecDepth 8000 in
set_option maxHeartbeats 16000000 in
theorem qput_ask (W : World) (qb sb nm nw name xq : Nat) (bad : Value) (ob : Option Nat) (r : RRack) (w : RWork) (M : List Nat) (u : Nat) (h : Qig W qb sb nm nw name xq bad 3 ob w.op r w M u) (hd : w.done = false) (hx : xq = w.x) (good : Nat → Bool) (l0 : List Nat) (hrd : ∀ W1, Chg (qb :: sb :: nm :: nw :: ob.toList) W W1 → Reads W1 bad (words l0)) (hn : w.next = .asking) (hsw : w.swept < 18446744073709551616) (hgood : good w.swept = !decide (w.swept ∈ l0)) :
    Calls Tryz.prog 43 #[.pointer (some ⟨qb, 0, none⟩), .pointer (some ⟨nm, 0, none⟩)] W fun e W' => QTurned W W' qb sb nm nw name bad ob (phaseR good r w M u) e := by
  have HP : phaseR good r w M u = (if good w.swept = true then (r, { w with op := some (opR r w 0 w.swept), next := .again }, M, u)
    else (r, { w with holds := false, op := some (opR r w 2 0), next := .sweeping }, M, u)) := by
    unfold phaseR
    rw [hn]
  rw [hgood] at HP
  obtain ⟨S, hS⟩ : ∃ S, S = phaseR good r w M u := ⟨_, rfl⟩
  rw [← hS]
  rw [← hS] at HP
  have HPS := Lib.hid HP
  clear HP hn hgood hS
  have HSW := Lib.hid hsw
  have HRD := Lib.hid hrd
  have c0 : W.cell? ⟨qb, 0, none⟩ = some (.pointer (some ⟨sb, 0, none⟩)) := by rw [Blk.cell h.wk]; rfl
  have c3 : W.cell? ⟨qb, 3, none⟩ = some (.int .i64 (w.level : Nat)) := by rw [Blk.cell h.wk]; rfl
  have c4 : W.cell? ⟨qb, 4, none⟩ = some (.int .i64 (w.kind : Nat)) := by rw [Blk.cell h.wk]; rfl
  have c6 : W.cell? ⟨qb, 6, none⟩ = some (.int .i64 3) := by rw [Blk.cell h.wk]; rfl
  have HAT := Lib.hid (fun W1 (C : Chg [] W W1) => qat_any sb r w.kind w.level W1 (Blk.chg h.rk C (by simp)) h.ok h.kind (h.level hd))
  have HH := Lib.hid h
  have HDN := Lib.hid hd
  have HX := Lib.hid hx
  obtain ⟨l, hl⟩ : ∃ l, l = w.level := ⟨_, rfl⟩
  obtain ⟨k, hk⟩ : ∃ k, k = w.kind := ⟨_, rfl⟩
  rw [← hl] at c3
  rw [← hk] at c4
  rw [← hl, ← hk] at HAT
  obtain ⟨at_, hat⟩ : ∃ a, a = r.at k l := ⟨_, rfl⟩
  rw [← hat] at HAT
  have HAE := Lib.hid (show r.at w.kind w.level = at_ by rw [hat, hk, hl])
  have hqL : qb < W.heap.size := Blk.lt h.wk
  have hqW : W.heap.size ≠ qb := by omega
  clear h hd hx hl hk hat hsw hrd
  go_enter Tryz.func43, Tryz.ntmps43
  go_upto_region 1 with (fail)
  go_cut [5] (fun s wx => ∃ db, s = .pointer (some ⟨db, 0, none⟩) ∧ Blk wx db #[.int .i64 at_, .int .i64 (r.cap : Nat)] 100 ∧ Chg [] W wx)
  case first =>
    go_region_held3 (fun w' => w'.cell? ⟨qb, 3, none⟩ = some (.int .i64 (l : Nat)) ∧ w'.cell? ⟨qb, 4, none⟩ = some (.int .i64 (k : Nat)))
      (first | assumption | exact ⟨c3, c4⟩ | exact ⟨ckp ((Chg.refl [] _).alloc _) (And.left (by assumption)), ckp ((Chg.refl [] _).alloc _) (And.right (by assumption))⟩ | exact ⟨cfar (cfar (ckp HC5.out c3) hqW) hqW, cfar (cfar (ckp HC5.out c4) hqW) hqW⟩ | exact ⟨cfar (cfar (ckp (HC5.out.alloc _) c3) hq5) hq5, cfar (cfar (ckp (HC5.out.alloc _) c4) hq5) hq5⟩ | fail)
      (first
        | (go_at_call 52; refine (HAT.out _ (Chg.refl [] _).drew).mono ?_; rintro e w5 ⟨rfl, C5⟩; have HC5 := Lib.hid (show Chg [] W w5 from C5.undrew); have k5 := And.intro (ckp HC5.out c3) (ckp HC5.out c4); have hq5 := (show w5.heap.size ≠ qb by have := HC5.out.size; omega); clear C5)
        | (go_at_call 52; refine (HAT.out _ (((Chg.refl [] _).alloc _).drew)).mono ?_; rintro e w5 ⟨rfl, C5⟩; have HC5 := Lib.hid (show Chg [] W w5 from (((Chg.refl [] _).alloc _).then C5.undrew (by simp))); have k5 := And.intro (ckp HC5.out c3) (ckp HC5.out c4); have hq5 := (show w5.heap.size ≠ qb by have := HC5.out.size; omega); have nb := Blk.chg (Blk.new W #[.int .i64 0, .int .i64 0] 100) C5.undrew (by simp); have n0 := Blk.cell nb 0; have n1 := Blk.cell nb 1; have y0 := Blk.frozen nb 0; have y1 := Blk.frozen nb 1; simp only [List.getElem?_toArray, List.getElem?_cons_zero, List.getElem?_cons_succ] at n0 n1; have HNB := Lib.hid nb; clear C5 nb)
        | fail)
    all_goals
      go_wp2_with fail
      go_meet
      first
        | exact ⟨_, rfl, Blk.new _ _ _, HC5.out.alloc _⟩
        | exact ⟨_, rfl, Blk.setCell (Blk.setCell HNB.out 0 _) 1 _, (HC5.out.setCell (.inr (Nat.le_refl _)) _).setCell (.inr (Nat.le_refl _)) _⟩
  case rest =>
  obtain ⟨db, rfl, B0, C0⟩ := hcut
  have HT := Lib.hid (QPr.start HH.out C0 (by rw [HAE.out]; exact B0))
  clear B0 C0 c0 c3 c4 c6
  have c6 : wc.cell? ⟨qb, 6, none⟩ = some (.int .i64 3) := HT.out.tr.cell 6
  have z6 := HT.out.tr.frozen 6
  go_upto_region 38 with (fail)
  have HT1 := Lib.hid (HT.out.at1 4)
  obtain ⟨w1, hw1⟩ : ∃ w1, w1 = wc.setCell ⟨qb, 6, none⟩ (.int .i64 (4 : Nat)) := ⟨_, rfl⟩
  rw [← hw1] at HT1
  have hw1' : w1 = wc.setCell ⟨qb, 6, none⟩ (.int .i64 4) := hw1
  rw [← hw1']
  clear hw1 hw1' c6 z6
  obtain ⟨sw, hsw⟩ : ∃ sw, sw = w.swept := ⟨_, rfl⟩
  have HSE := Lib.hid hsw
  have d0 : w1.cell? ⟨db, 0, none⟩ = some (.int .i64 at_) := by rw [← HAE.out]; exact HT1.out.c0
  have d1 := HT1.out.c1
  have c9 : w1.cell? ⟨qb, 9, none⟩ = some (.int .u64 (sw : Nat)) := by rw [hsw]; exact HT1.out.tr.cell 9
  have c7 : ∀ o, (w1.alloc o).cell? ⟨qb, 7, none⟩ = some (ptrO ob) := fun o => (HT1.out.keep ((Chg.refl [] _).alloc o)).tr.cell 7
  have z7 : ∀ o, (w1.alloc o).frozen? ⟨qb, 7, none⟩ = false := fun o => (HT1.out.keep ((Chg.refl [] _).alloc o)).tr.frozen 7
  clear hsw
  go_big_region
  have HO_HT2a := Lib.hid (Blk.new w1 #[.int .i64 at_, .int .i64 (r.cap : Nat), .int .i64 0, .int .i64 0, .int .u64 0, .int .u64 0, .int .u64 (sw : Nat), .bool false, .bool false, .int .i64 0] 108)
  have HT2a := Lib.hid ((HT1.out.keep ((Chg.refl [] w1).alloc (.cells #[.int .i64 at_, .int .i64 (r.cap : Nat), .int .i64 0, .int .i64 0, .int .u64 0, .int .u64 0, .int .u64 (sw : Nat), .bool false, .bool false, .int .i64 0] 108))).op (o := newD at_ r.cap 0 sw) HO_HT2a.out (OkOp.new (by rw [← HAE.out]; exact (HT1.out.tr.opAt HDN.out).1) (by rw [← HAE.out]; exact (HT1.out.tr.opAt HDN.out).2) HT1.out.tr.rig.ok.cap (by omega) (by rw [HSE.out]; exact HSW.out)) (by have := HT1.out.tr.size; omega))
  clear HO_HT2a
  have HT2 := Lib.hid (HT2a.out.keep (Chg.refl [] _).drew)
  clear HT2a
  obtain ⟨w2, hw2⟩ : ∃ q, q = ((w1.alloc (.cells #[.int .i64 at_, .int .i64 (r.cap : Nat), .int .i64 0, .int .i64 0, .int .u64 0, .int .u64 0, .int .u64 (sw : Nat), .bool false, .bool false, .int .i64 0] 108)).setCell ⟨qb, 7, none⟩ (.pointer (some ⟨w1.heap.size, 0, none⟩))).drew := ⟨_, rfl⟩
  rw [← hw2] at HT2 ⊢
  have hsz := HT1.out.tr.size
  obtain ⟨g1, hg1⟩ : ∃ g1, g1 = w1.heap.size := ⟨_, rfl⟩
  rw [← hg1] at HT2
  clear hw2 d0 d1 c9 c7 z7 hg1 HT1 HT
  have c9 : w2.cell? ⟨qb, 9, none⟩ = some (.int .u64 (sw : Nat)) := by rw [HSE.out]; exact HT2.out.tr.cell 9
  have HBD := Lib.hid (qbad_any qb sb name xq bad 4 (some g1) w l0 sw w2 HT2.out.tr.rig.wk (HRD.out _ HT2.out.tr.chg))
  obtain ⟨b, hb⟩ : ∃ b, b = decide (sw ∈ l0) := ⟨_, rfl⟩
  rw [← hb] at HBD
  have HB := Lib.hid hb
  clear hb
  cases b with
  | false =>
    go_wp2_with (go_at_call 70; refine HBD.out.mono ?_; rintro e w3 ⟨rfl, rfl⟩)
    (first | go_end0 | refine bodyPost_ret (results_none rfl _ _ _) rfl ?_ | (rw [Exit.noGoto_normal]; go_wp2_with fail; (first | go_end0 | refine bodyPost_ret (results_none rfl _ _ _) rfl ?_)) | (rw [Exit.noGoto_normal]; (first | go_end0 | refine bodyPost_ret (results_none rfl _ _ _) rfl ?_)))
    rw [HPS.out, if_pos (by rw [← HSE.out, ← HB.out]; rfl)]
    have HE := HT2.out.tr
    rw [← HAE.out, HSE.out] at HE
    refine HE.fin ?_ ?_ ?_ ?_ ?_ rfl ?_ ?_
    · exact rfl
    · exact HE.rig.kind
    · exact HE.rig.level
    · exact HE.rig.steps
    · exact rfl
    · exact (fun _ => ⟨rfl, HX.out⟩)
    · exact (fun _ => HX.out)
  | true =>
    have c11 : w2.cell? ⟨qb, 11, none⟩ = some (.bool w.holds) := HT2.out.tr.cell 11
    have z11 := HT2.out.tr.frozen 11
    go_upto_region 41 with (go_at_call 70; refine HBD.out.mono ?_; rintro e w3 ⟨rfl, rfl⟩)
    have HT3 := Lib.hid (HT2.out.set 11 (.bool false) (qw_s11 HT2.out.tr.rig.wk false) rfl rfl rfl rfl)
    obtain ⟨w3, hq⟩ : ∃ q, q = w2.setCell ⟨qb, 11, none⟩ (.bool false) := ⟨_, rfl⟩
    rw [← hq] at HT3 ⊢
    clear hq
    clear c11 z11 c9 HBD HT2
    have c6 : w3.cell? ⟨qb, 6, none⟩ = some (.int .i64 4) := HT3.out.tr.cell 6
    have z6 := HT3.out.tr.frozen 6
    go_upto_region 42 with (fail)
    have HT4 := Lib.hid (HT3.out.atL 2 2 rfl)
    obtain ⟨w4, hq⟩ : ∃ q, q = w3.setCell ⟨qb, 6, none⟩ (.int .i64 2) := ⟨_, rfl⟩
    rw [← hq] at HT4 ⊢
    clear hq
    clear c6 z6 HT3
    have d0 : w4.cell? ⟨db, 0, none⟩ = some (.int .i64 at_) := by rw [← HAE.out]; exact HT4.out.c0
    have d1 := HT4.out.c1
    have c7 : ∀ o, (w4.alloc o).cell? ⟨qb, 7, none⟩ = some (ptrO (some g1)) := fun o => (HT4.out.keep ((Chg.refl [] _).alloc o)).tr.cell 7
    have z7 : ∀ o, (w4.alloc o).frozen? ⟨qb, 7, none⟩ = false := fun o => (HT4.out.keep ((Chg.refl [] _).alloc o)).tr.frozen 7
    go_wp2_with fail
    (first | go_end0 | refine bodyPost_ret (results_none rfl _ _ _) rfl ?_ | (rw [Exit.noGoto_normal]; go_wp2_with fail; (first | go_end0 | refine bodyPost_ret (results_none rfl _ _ _) rfl ?_)) | (rw [Exit.noGoto_normal]; (first | go_end0 | refine bodyPost_ret (results_none rfl _ _ _) rfl ?_)))
    have HO_HT5 := Lib.hid (Blk.new w4 #[.int .i64 at_, .int .i64 (r.cap : Nat), .int .i64 2, .int .i64 0, .int .u64 0, .int .u64 0, .int .u64 0, .bool false, .bool false, .int .i64 0] 108)
    have HT5 := Lib.hid ((HT4.out.keep ((Chg.refl [] w4).alloc (.cells #[.int .i64 at_, .int .i64 (r.cap : Nat), .int .i64 2, .int .i64 0, .int .u64 0, .int .u64 0, .int .u64 0, .bool false, .bool false, .int .i64 0] 108))).op (o := newD at_ r.cap 2 0) HO_HT5.out (OkOp.new (by rw [← HAE.out]; exact (HT4.out.tr.opAt HDN.out).1) (by rw [← HAE.out]; exact (HT4.out.tr.opAt HDN.out).2) HT4.out.tr.rig.ok.cap (by omega) (by omega)) (by have := HT4.out.tr.size; omega))
    clear HO_HT5
    rw [HPS.out, if_neg (by rw [← HSE.out, ← HB.out]; simp)]
    rw [show opR r w 2 0 = newD at_ r.cap 2 0 from by unfold opR; rw [HAE.out]]
    have HE := HT5.out.tr
    refine HE.fin ?_ ?_ ?_ ?_ ?_ rfl ?_ ?_
    · exact rfl
    · exact HE.rig.kind
    · exact HE.rig.level
    · exact HE.rig.steps
    · exact rfl
    · exact (fun _ => ⟨rfl, HX.out⟩)
    · exact (fun _ => HX.out)
set_option maxRecDepth 8000 in
set_option maxHeartbeats 16000000 in
theorem qput_again (W : World) (qb sb nm nw name xq : Nat) (bad : Value) (ob : Option Nat) (r : RRack) (w : RWork) (M : List Nat) (u : Nat) (h : Qig W qb sb nm nw name xq bad 4 ob w.op r w M u) (hd : w.done = false) (hx : xq = w.x) (o : DOp) (ho : w.op = some o) (hn : w.next = .again) (good : Nat → Bool) :
    Calls Tryz.prog 43 #[.pointer (some ⟨qb, 0, none⟩), .pointer (some ⟨nm, 0, none⟩)] W fun e W' => QTurned W W' qb sb nm nw name bad ob (phaseR good r w M u) e := by
  have HP : phaseR good r w M u = (if (stepD o M u).1.done = true then (r, { w with holds := false, op := some (opR r w 2 0), next := .sweeping }, (stepD o M u).2.1, (stepD o M u).2.2)
      else (r, { w with op := some (stepD o M u).1 }, (stepD o M u).2.1, (stepD o M u).2.2)) := by
    unfold phaseR
    rw [hn, ho]
    rfl
  have HNX := Lib.hid hn
  rw [ho] at h
  obtain ⟨g, rfl, a1, a2, a3, a4, a5, a6⟩ := h.opOf rfl
  have hok := okStep (W := M) (u := u) a2 h.mem.small
  have hkd := stepD_kind o M u
  obtain ⟨o', ho'⟩ : ∃ o', o' = (stepD o M u).1 := ⟨_, rfl⟩
  obtain ⟨M', hM'⟩ : ∃ M', M' = (stepD o M u).2.1 := ⟨_, rfl⟩
  obtain ⟨u', hu'⟩ : ∃ u', u' = (stepD o M u).2.2 := ⟨_, rfl⟩
  have HS0 := Lib.hid (fun W1 (T : ROpAt W1 (some g) (some o)) (m : IsRef W1 nm nw M u) => rstep_any g o W1 T.1 a2 nm nw M u m a5 a6)
  unfold RStepped at HS0
  rw [← ho', ← hM', ← hu'] at HS0 HP
  rw [← ho'] at hok hkd
  obtain ⟨S, hS⟩ : ∃ S, S = phaseR good r w M u := ⟨_, rfl⟩
  rw [← hS]
  rw [← hS] at HP
  have HPS := Lib.hid HP
  have NE := Lib.hid (And.intro a3 a4)
  have HOK := Lib.hid hok
  clear HP hS ho' hM' hu' a1 a2 a3 a4 a5 a6 hok hkd hn ho
  have c0 : W.cell? ⟨qb, 0, none⟩ = some (.pointer (some ⟨sb, 0, none⟩)) := by rw [Blk.cell h.wk]; rfl
  have c3 : W.cell? ⟨qb, 3, none⟩ = some (.int .i64 (w.level : Nat)) := by rw [Blk.cell h.wk]; rfl
  have c4 : W.cell? ⟨qb, 4, none⟩ = some (.int .i64 (w.kind : Nat)) := by rw [Blk.cell h.wk]; rfl
  have c6 : W.cell? ⟨qb, 6, none⟩ = some (.int .i64 4) := by rw [Blk.cell h.wk]; rfl
  have HAT := Lib.hid (fun W1 (C : Chg [] W W1) => qat_any sb r w.kind w.level W1 (Blk.chg h.rk C (by simp)) h.ok h.kind (h.level hd))
  have HH := Lib.hid h
  have HDN := Lib.hid hd
  have HX := Lib.hid hx
  obtain ⟨l, hl⟩ : ∃ l, l = w.level := ⟨_, rfl⟩
  obtain ⟨k, hk⟩ : ∃ k, k = w.kind := ⟨_, rfl⟩
  rw [← hl] at c3
  rw [← hk] at c4
  rw [← hl, ← hk] at HAT
  obtain ⟨at_, hat⟩ : ∃ a, a = r.at k l := ⟨_, rfl⟩
  rw [← hat] at HAT
  have HAE := Lib.hid (show r.at w.kind w.level = at_ by rw [hat, hk, hl])
  have hqL : qb < W.heap.size := Blk.lt h.wk
  have hqW : W.heap.size ≠ qb := by omega
  clear h hd hx hl hk hat
  go_enter Tryz.func43, Tryz.ntmps43
  go_upto_region 1 with (fail)
  go_cut [5] (fun s wx => ∃ db, s = .pointer (some ⟨db, 0, none⟩) ∧ Blk wx db #[.int .i64 at_, .int .i64 (r.cap : Nat)] 100 ∧ Chg [] W wx)
  case first =>
    go_region_held3 (fun w' => w'.cell? ⟨qb, 3, none⟩ = some (.int .i64 (l : Nat)) ∧ w'.cell? ⟨qb, 4, none⟩ = some (.int .i64 (k : Nat)))
      (first | assumption | exact ⟨c3, c4⟩ | exact ⟨ckp ((Chg.refl [] _).alloc _) (And.left (by assumption)), ckp ((Chg.refl [] _).alloc _) (And.right (by assumption))⟩ | exact ⟨cfar (cfar (ckp HC5.out c3) hqW) hqW, cfar (cfar (ckp HC5.out c4) hqW) hqW⟩ | exact ⟨cfar (cfar (ckp (HC5.out.alloc _) c3) hq5) hq5, cfar (cfar (ckp (HC5.out.alloc _) c4) hq5) hq5⟩ | fail)
      (first
        | (go_at_call 52; refine (HAT.out _ (Chg.refl [] _).drew).mono ?_; rintro e w5 ⟨rfl, C5⟩; have HC5 := Lib.hid (show Chg [] W w5 from C5.undrew); have k5 := And.intro (ckp HC5.out c3) (ckp HC5.out c4); have hq5 := (show w5.heap.size ≠ qb by have := HC5.out.size; omega); clear C5)
        | (go_at_call 52; refine (HAT.out _ (((Chg.refl [] _).alloc _).drew)).mono ?_; rintro e w5 ⟨rfl, C5⟩; have HC5 := Lib.hid (show Chg [] W w5 from (((Chg.refl [] _).alloc _).then C5.undrew (by simp))); have k5 := And.intro (ckp HC5.out c3) (ckp HC5.out c4); have hq5 := (show w5.heap.size ≠ qb by have := HC5.out.size; omega); have nb := Blk.chg (Blk.new W #[.int .i64 0, .int .i64 0] 100) C5.undrew (by simp); have n0 := Blk.cell nb 0; have n1 := Blk.cell nb 1; have y0 := Blk.frozen nb 0; have y1 := Blk.frozen nb 1; simp only [List.getElem?_toArray, List.getElem?_cons_zero, List.getElem?_cons_succ] at n0 n1; have HNB := Lib.hid nb; clear C5 nb)
        | fail)
    all_goals
      go_wp2_with fail
      go_meet
      first
        | exact ⟨_, rfl, Blk.new _ _ _, HC5.out.alloc _⟩
        | exact ⟨_, rfl, Blk.setCell (Blk.setCell HNB.out 0 _) 1 _, (HC5.out.setCell (.inr (Nat.le_refl _)) _).setCell (.inr (Nat.le_refl _)) _⟩
  case rest =>
  obtain ⟨db, rfl, B0, C0⟩ := hcut
  have HT := Lib.hid (QPr.start HH.out C0 (by rw [HAE.out]; exact B0))
  clear B0 C0 c0 c3 c4 c6
  have c6 : wc.cell? ⟨qb, 6, none⟩ = some (.int .i64 4) := HT.out.tr.cell 6
  have c7 : wc.cell? ⟨qb, 7, none⟩ = some (.pointer (some ⟨g, 0, none⟩)) := HT.out.tr.cell 7
  have HS := Lib.hid (HS0.out wc HT.out.tr.rig.op HT.out.tr.rig.mem)
  go_wp2_with fail
  refine HS.out.mono ?_
  rintro e w1 ⟨rfl, O1, M1, C1⟩
  have HT1 := Lib.hid (HT.out.stepped rfl HT.out.tr.rig.op.1 O1 HOK.out M1 C1 NE.out.1 NE.out.2)
  have HO1 := Lib.hid O1
  clear HS C1 c7 O1 M1 HS0 c6
  cases hdn : o'.done with
  | false =>
    rw [hdn] at HPS
    clear hdn
    go_wp2_with fail
    (first | go_end0 | refine bodyPost_ret (results_none rfl _ _ _) rfl ?_ | (rw [Exit.noGoto_normal]; go_wp2_with fail; (first | go_end0 | refine bodyPost_ret (results_none rfl _ _ _) rfl ?_)) | (rw [Exit.noGoto_normal]; (first | go_end0 | refine bodyPost_ret (results_none rfl _ _ _) rfl ?_)))
    rw [HPS.out, if_neg (by simp)]
    refine HT1.out.tr.fin ?_ ?_ ?_ ?_ ?_ rfl ?_ ?_
    · exact rfl
    · exact HT1.out.tr.rig.kind
    · exact HT1.out.tr.rig.level
    · exact HT1.out.tr.rig.steps
    · exact rfl
    · exact (fun _ => ⟨by unfold atQ; rw [show w.next = .again from HNX.out], HX.out⟩)
    · exact (fun _ => HX.out)
  | true =>
    rw [hdn] at HPS
    clear hdn
    have c11 : w1.cell? ⟨qb, 11, none⟩ = some (.bool w.holds) := HT1.out.tr.cell 11
    have z11 := HT1.out.tr.frozen 11
    go_upto_region 46 with (fail)
    have HT3 := Lib.hid (HT1.out.set 11 (.bool false) (qw_s11 HT1.out.tr.rig.wk false) rfl rfl rfl rfl)
    obtain ⟨w3, hq⟩ : ∃ q, q = w1.setCell ⟨qb, 11, none⟩ (.bool false) := ⟨_, rfl⟩
    rw [← hq] at HT3 ⊢
    clear hq
    clear c11 z11 HT1 HT
    have c6 : w3.cell? ⟨qb, 6, none⟩ = some (.int .i64 4) := HT3.out.tr.cell 6
    have z6 := HT3.out.tr.frozen 6
    go_upto_region 47 with (fail)
    have HT4 := Lib.hid (HT3.out.atL 2 2 rfl)
    obtain ⟨w4, hq⟩ : ∃ q, q = w3.setCell ⟨qb, 6, none⟩ (.int .i64 2) := ⟨_, rfl⟩
    rw [← hq] at HT4 ⊢
    clear hq
    clear c6 z6 HT3
    have d0 : w4.cell? ⟨db, 0, none⟩ = some (.int .i64 at_) := by rw [← HAE.out]; exact HT4.out.c0
    have d1 := HT4.out.c1
    have c7 : ∀ o, (w4.alloc o).cell? ⟨qb, 7, none⟩ = some (ptrO (some g)) := fun o => (HT4.out.keep ((Chg.refl [] _).alloc o)).tr.cell 7
    have z7 : ∀ o, (w4.alloc o).frozen? ⟨qb, 7, none⟩ = false := fun o => (HT4.out.keep ((Chg.refl [] _).alloc o)).tr.frozen 7
    go_wp2_with fail
    (first | go_end0 | refine bodyPost_ret (results_none rfl _ _ _) rfl ?_ | (rw [Exit.noGoto_normal]; go_wp2_with fail; (first | go_end0 | refine bodyPost_ret (results_none rfl _ _ _) rfl ?_)) | (rw [Exit.noGoto_normal]; (first | go_end0 | refine bodyPost_ret (results_none rfl _ _ _) rfl ?_)))
    have HO_HT5 := Lib.hid (Blk.new w4 #[.int .i64 at_, .int .i64 (r.cap : Nat), .int .i64 2, .int .i64 0, .int .u64 0, .int .u64 0, .int .u64 0, .bool false, .bool false, .int .i64 0] 108)
    have HT5 := Lib.hid ((HT4.out.keep ((Chg.refl [] w4).alloc (.cells #[.int .i64 at_, .int .i64 (r.cap : Nat), .int .i64 2, .int .i64 0, .int .u64 0, .int .u64 0, .int .u64 0, .bool false, .bool false, .int .i64 0] 108))).op (o := newD at_ r.cap 2 0) HO_HT5.out (OkOp.new (by rw [← HAE.out]; exact (HT4.out.tr.opAt HDN.out).1) (by rw [← HAE.out]; exact (HT4.out.tr.opAt HDN.out).2) HT4.out.tr.rig.ok.cap (by omega) (by omega)) (by have := HT4.out.tr.size; omega))
    clear HO_HT5
    rw [HPS.out, if_pos (by trivial)]
    rw [show opR r w 2 0 = newD at_ r.cap 2 0 from by unfold opR; rw [HAE.out]]
    have HE := HT5.out.tr
    refine HE.fin ?_ ?_ ?_ ?_ ?_ rfl ?_ ?_
    · exact rfl
    · exact HE.rig.kind
    · exact HE.rig.level
    · exact HE.rig.steps
    · exact rfl
    · exact (fun _ => ⟨rfl, HX.out⟩)
    · exact (fun _ => HX.out)
end Go.Proofs.YtjdbgohfedjifaaGreatDoor
