/- rack, the document's: put: pushing. Printed by gen_qm.py. -/
import Derived.Test.YtjdbgohfedjifaaGreatDoorRpM
namespace Go.Proofs.YtjdbgohfedjifaaGreatDoor
open Go.RowKit Bosun
theorem RRack.put_set_self (r : RRack) (k : Nat) (hk : k < 2) : r.put k (r.set k) = r := by
  rcases (show k = 0 ∨ k = 1 by omega) with rfl | rfl <;> rfl
set_option maxRecDepth 8000 in
set_option maxHeartbeats 16000000 in
theorem qput_push (W : World) (qb sb nm nw name xq : Nat) (bad : Value) (a0 : Nat) (ob : Option Nat) (oo : Option DOp) (r : RRack) (w : RWork) (M : List Nat) (u : Nat) (h : Qig W qb sb nm nw name xq bad a0 ob oo r w M u) (hd : w.done = false) (hx : xq = w.x) (hname : name = 0) (o : DOp) (ho : w.op = some o) (hn : w.next = .pushing) (hxl : w.x < 18446744073709551616) (hb : (a0 = 0 ∧ ob = none ∧ oo = none ∧ o = newD (r.at w.kind w.level) r.cap 0 w.x) ∨ (a0 = 1 ∧ oo = some o ∧ ∃ g, ob = some g)) (good : Nat → Bool) :
    Calls Tryz.prog 43 #[.pointer (some ⟨qb, 0, none⟩), .pointer (some ⟨nm, 0, none⟩)] W fun e W' => QTurned W W' qb sb nm nw name bad ob (phaseR good r w M u) e := by
  subst hname
  have HP : phaseR good r w M u = (if (stepD o M u).1.done = false then (r, { w with op := some (stepD o M u).1 }, (stepD o M u).2.1, (stepD o M u).2.2)
    else if (stepD o M u).1.err = 6 then
      (if w.full = true then (r, { w with op := some (stepD o M u).1, done := true, err := 6 }, (stepD o M u).2.1, (stepD o M u).2.2)
       else (r, { w with full := true, from_ := (stepD o M u).1.b, op := some (opR r w 2 0), next := .sweeping }, (stepD o M u).2.1, (stepD o M u).2.2))
    else
      (if put (r.set w.kind) w.level true ≠ r.set w.kind ∧ w.kind = 0 then (r.put w.kind (put (r.set w.kind) w.level true), { w with op := some (stepD o M u).1, there := true, next := .signing }, (stepD o M u).2.1, (stepD o M u).2.2)
       else (r.put w.kind (put (r.set w.kind) w.level true), { w with op := some (stepD o M u).1, there := true, done := true, err := 0 }, (stepD o M u).2.1, (stepD o M u).2.2))) := by
    unfold phaseR
    rw [hn, ho]
    rfl
  have HNX := Lib.hid hn
  have HXL := Lib.hid hxl
  have HBB := Lib.hid hb
  have HKL := Lib.hid (And.intro h.kind (And.intro (h.level hd) h.ok))
  have hsm := h.mem.small
  obtain ⟨o', ho'⟩ : ∃ o', o' = (stepD o M u).1 := ⟨_, rfl⟩
  obtain ⟨M', hM'⟩ : ∃ M', M' = (stepD o M u).2.1 := ⟨_, rfl⟩
  obtain ⟨u', hu'⟩ : ∃ u', u' = (stepD o M u).2.2 := ⟨_, rfl⟩
  have HS0 := Lib.hid (fun W1 g (T : ROpAt W1 (some g) (some o)) (m : IsRef W1 nm nw M u) (n1 : g ≠ nm) (n2 : g ≠ nw) => rstep_any g o W1 T.1 T.2 nm nw M u m n1 n2)
  have HOK0 := Lib.hid (fun (k : OkOp o) => show OkOp (stepD o M u).1 from okStep k hsm)
  unfold RStepped at HS0
  rw [← ho', ← hM', ← hu'] at HS0 HP
  rw [← ho'] at HOK0
  obtain ⟨S, hS⟩ : ∃ S, S = phaseR good r w M u := ⟨_, rfl⟩
  rw [← hS]
  rw [← hS] at HP
  have HPS := Lib.hid HP
  clear HP hS ho' hM' hu' hn hxl hb hsm
  have c0 : W.cell? ⟨qb, 0, none⟩ = some (.pointer (some ⟨sb, 0, none⟩)) := by rw [Blk.cell h.wk]; rfl
  have c3 : W.cell? ⟨qb, 3, none⟩ = some (.int .i64 (w.level : Nat)) := by rw [Blk.cell h.wk]; rfl
  have c4 : W.cell? ⟨qb, 4, none⟩ = some (.int .i64 (w.kind : Nat)) := by rw [Blk.cell h.wk]; rfl
  have c6 : W.cell? ⟨qb, 6, none⟩ = some (.int .i64 (a0 : Nat)) := by rw [Blk.cell h.wk]; rfl
  have HAT := Lib.hid (fun W1 (C : Chg [] W W1) => qat_any sb r w.kind w.level W1 (Blk.chg h.rk C (by simp)) h.ok h.kind (h.level hd))
  have HH := Lib.hid h
  have HDN := Lib.hid hd
  have HX := Lib.hid hx
  obtain ⟨l, hl⟩ : ∃ l, l = w.level := ⟨_, rfl⟩
  obtain ⟨k, hk⟩ : ∃ k, k = w.kind := ⟨_, rfl⟩
  rw [← hl] at c3
  rw [← hk] at c4
  rw [← hl, ← hk] at HAT
  obtain ⟨at_, hat⟩ : ∃ a, a = r.at k l := ⟨_, rfl⟩
  rw [← hat] at HAT
  have HAE := Lib.hid (show r.at w.kind w.level = at_ by rw [hat, hk, hl])
  have hqL : qb < W.heap.size := Blk.lt h.wk
  have hqW : W.heap.size ≠ qb := by omega
  clear h hd hx hl hk hat ho
  go_enter Tryz.func43, Tryz.ntmps43
  go_upto_region 1 with (fail)
  go_cut [5] (fun s wx => ∃ db, s = .pointer (some ⟨db, 0, none⟩) ∧ Blk wx db #[.int .i64 at_, .int .i64 (r.cap : Nat)] 100 ∧ Chg [] W wx)
  case first =>
    go_region_held3 (fun w' => w'.cell? ⟨qb, 3, none⟩ = some (.int .i64 (l : Nat)) ∧ w'.cell? ⟨qb, 4, none⟩ = some (.int .i64 (k : Nat)))
      (first | assumption | exact ⟨c3, c4⟩ | exact ⟨ckp ((Chg.refl [] _).alloc _) (And.left (by assumption)), ckp ((Chg.refl [] _).alloc _) (And.right (by assumption))⟩ | exact ⟨cfar (cfar (ckp HC5.out c3) hqW) hqW, cfar (cfar (ckp HC5.out c4) hqW) hqW⟩ | exact ⟨cfar (cfar (ckp (HC5.out.alloc _) c3) hq5) hq5, cfar (cfar (ckp (HC5.out.alloc _) c4) hq5) hq5⟩ | fail)
      (first
        | (go_at_call 52; refine (HAT.out _ (Chg.refl [] _).drew).mono ?_; rintro e w5 ⟨rfl, C5⟩; have HC5 := Lib.hid (show Chg [] W w5 from C5.undrew); have k5 := And.intro (ckp HC5.out c3) (ckp HC5.out c4); have hq5 := (show w5.heap.size ≠ qb by have := HC5.out.size; omega); clear C5)
        | (go_at_call 52; refine (HAT.out _ (((Chg.refl [] _).alloc _).drew)).mono ?_; rintro e w5 ⟨rfl, C5⟩; have HC5 := Lib.hid (show Chg [] W w5 from (((Chg.refl [] _).alloc _).then C5.undrew (by simp))); have k5 := And.intro (ckp HC5.out c3) (ckp HC5.out c4); have hq5 := (show w5.heap.size ≠ qb by have := HC5.out.size; omega); have nb := Blk.chg (Blk.new W #[.int .i64 0, .int .i64 0] 100) C5.undrew (by simp); have n0 := Blk.cell nb 0; have n1 := Blk.cell nb 1; have y0 := Blk.frozen nb 0; have y1 := Blk.frozen nb 1; simp only [List.getElem?_toArray, List.getElem?_cons_zero, List.getElem?_cons_succ] at n0 n1; have HNB := Lib.hid nb; clear C5 nb)
        | fail)
    all_goals
      go_wp2_with fail
      go_meet
      first
        | exact ⟨_, rfl, Blk.new _ _ _, HC5.out.alloc _⟩
        | exact ⟨_, rfl, Blk.setCell (Blk.setCell HNB.out 0 _) 1 _, (HC5.out.setCell (.inr (Nat.le_refl _)) _).setCell (.inr (Nat.le_refl _)) _⟩
  case rest =>
  obtain ⟨db, rfl, B0, C0⟩ := hcut
  have HT := Lib.hid (QPr.start HH.out C0 (by rw [HAE.out]; exact B0))
  clear B0 C0 c0 c3 c4 c6
  have c6 : wc.cell? ⟨qb, 6, none⟩ = some (.int .i64 (a0 : Nat)) := HT.out.tr.cell 6
  have z6 := HT.out.tr.frozen 6
  go_upto_if 24 with (fail)
  go_cut [] (fun wx => ∃ g, QPr W wx qb sb nm nw 0 xq bad 1 ob (some g) (some o) r w M u db)
  case first =>
    rcases HBB.out with ⟨q1, q2, q3, q4⟩ | ⟨q1, q2, g, q3⟩
    · as_aux_lemma =>
      subst q1 q2 q3
      have q4 : o = newD at_ r.cap 0 xq := by rw [q4, HAE.out, HX.out]
      have Q4 := Lib.hid q4
      clear q4
      go_upto_region 4 with (fail)
      have HT4 := Lib.hid (HT.out.atL 1 1 rfl)
      obtain ⟨w4, hq⟩ : ∃ q, q = wc.setCell ⟨qb, 6, none⟩ (.int .i64 1) := ⟨_, rfl⟩
      rw [← hq] at HT4 ⊢
      clear hq
      clear c6 z6 HT
      have d0 : w4.cell? ⟨db, 0, none⟩ = some (.int .i64 at_) := by rw [← HAE.out]; exact HT4.out.c0
      have d1 := HT4.out.c1
      have c7 : ∀ o, (w4.alloc o).cell? ⟨qb, 7, none⟩ = some (ptrO (none)) := fun o => (HT4.out.keep ((Chg.refl [] _).alloc o)).tr.cell 7
      have z7 : ∀ o, (w4.alloc o).frozen? ⟨qb, 7, none⟩ = false := fun o => (HT4.out.keep ((Chg.refl [] _).alloc o)).tr.frozen 7
      have c2 : w4.cell? ⟨qb, 2, none⟩ = some (.int .u64 (xq : Nat)) := HT4.out.tr.cell 2
      go_big_region
      have HO_HT8 := Lib.hid (Blk.new w4 #[.int .i64 at_, .int .i64 (r.cap : Nat), .int .i64 0, .int .i64 0, .int .u64 0, .int .u64 0, .int .u64 (xq : Nat), .bool false, .bool false, .int .i64 0] 108)
      have HT8 := Lib.hid ((HT4.out.keep ((Chg.refl [] w4).alloc (.cells #[.int .i64 at_, .int .i64 (r.cap : Nat), .int .i64 0, .int .i64 0, .int .u64 0, .int .u64 0, .int .u64 (xq : Nat), .bool false, .bool false, .int .i64 0] 108))).op (o := newD at_ r.cap 0 xq) HO_HT8.out (OkOp.new (by rw [← HAE.out]; exact (HT4.out.tr.opAt HDN.out).1) (by rw [← HAE.out]; exact (HT4.out.tr.opAt HDN.out).2) HT4.out.tr.rig.ok.cap (by omega) (by rw [HX.out]; exact HXL.out)) (by have := HT4.out.tr.size; omega))
      clear HO_HT8
      have HT9 := Lib.hid (HT8.out.keep (Chg.refl [] _).drew)
      clear HT8
      go_wp2_with fail
      go_meet
      exact ⟨_, by rw [Q4.out]; exact HT9.out⟩
    · as_aux_lemma =>
      subst q1 q2 q3
      go_wp2_with fail
      go_meet
      exact ⟨_, HT.out⟩
  case rest =>
  obtain ⟨g, hq⟩ := hcut
  clear HT c6 z6
  have HT := Lib.hid hq
  have NE := Lib.hid (show g ≠ qb ∧ g ≠ sb ∧ g ≠ nm ∧ g ≠ nw from by
    obtain ⟨g', e, _, _, b1, b2, b3, b4⟩ := hq.tr.rig.opOf rfl
    cases e
    exact ⟨b1, b2, b3, b4⟩)
  have HOK := Lib.hid (HOK0.out hq.tr.rig.op.2)
  clear hq
  have c6 : wc.cell? ⟨qb, 6, none⟩ = some (.int .i64 1) := HT.out.tr.cell 6
  have c7 : wc.cell? ⟨qb, 7, none⟩ = some (.pointer (some ⟨g, 0, none⟩)) := HT.out.tr.cell 7
  have HS := Lib.hid (HS0.out wc g HT.out.tr.rig.op HT.out.tr.rig.mem NE.out.2.2.1 NE.out.2.2.2)
  clear HS0 HBB
  go_wp2_with fail
  refine HS.out.mono ?_
  rintro e w1 ⟨rfl, O1, M1, C1⟩
  have HT1 := Lib.hid (HT.out.stepped rfl HT.out.tr.rig.op.1 O1 HOK.out M1 C1 NE.out.1 NE.out.2.1)
  have HO1 := Lib.hid O1
  clear HS C1 c7 O1 M1 c6 HT HOK0
  cases hdn : o'.done with
  | false =>
    as_aux_lemma =>
    rw [hdn] at HPS
    clear hdn
    go_wp2_with fail
    (first | go_end0 | refine bodyPost_ret (results_none rfl _ _ _) rfl ?_ | (rw [Exit.noGoto_normal]; go_wp2_with fail; (first | go_end0 | refine bodyPost_ret (results_none rfl _ _ _) rfl ?_)) | (rw [Exit.noGoto_normal]; (first | go_end0 | refine bodyPost_ret (results_none rfl _ _ _) rfl ?_)))
    rw [HPS.out, if_pos (by trivial)]
    refine HT1.out.tr.fin ?_ ?_ ?_ ?_ ?_ rfl ?_ ?_
    · exact rfl
    · exact HT1.out.tr.rig.kind
    · exact HT1.out.tr.rig.level
    · exact HT1.out.tr.rig.steps
    · exact rfl
    · exact (fun _ => ⟨by unfold atQ; rw [show w.next = .pushing from HNX.out], HX.out⟩)
    · exact (fun _ => HX.out)
  | true =>
    rw [hdn] at HPS
    clear hdn
    obtain ⟨er, her⟩ : ∃ er, er = o'.err := ⟨_, rfl⟩
    obtain ⟨bo, hbo⟩ : ∃ bo, bo = o'.b := ⟨_, rfl⟩
    obtain ⟨fl, hfl⟩ : ∃ fl, fl = w.full := ⟨_, rfl⟩
    have e9 : w1.cell? ⟨g, 9, none⟩ = some (.int .i64 er) := by rw [her]; exact HO1.out.c9
    have e4 : w1.cell? ⟨g, 4, none⟩ = some (.int .u64 (bo : Nat)) := by rw [hbo]; exact HO1.out.c4
    have c7 : w1.cell? ⟨qb, 7, none⟩ = some (.pointer (some ⟨g, 0, none⟩)) := HT1.out.tr.cell 7
    have c10 : w1.cell? ⟨qb, 10, none⟩ = some (.bool fl) := by rw [hfl]; exact HT1.out.tr.cell 10
    have HER := Lib.hid (And.intro her (And.intro hbo hfl))
    have HGE := Lib.hid (fun v => show (w1.setCell ⟨qb, 10, none⟩ v).cell? ⟨g, 9, none⟩ = some (.int .i64 er) ∧ (w1.setCell ⟨qb, 10, none⟩ v).cell? ⟨g, 4, none⟩ = some (.int .u64 (bo : Nat)) from ⟨cfar e9 (Ne.symm NE.out.1), cfar e4 (Ne.symm NE.out.1)⟩)
    clear her hbo hfl
    by_cases h6 : er = 6
    · subst h6
      cases fl with
      | true =>
        as_aux_lemma =>
        have HE := Lib.hid (qend_any qb sb 0 xq bad 1 (some g) w 6 w1 HT1.out.tr.rig.wk)
        go_wp2_with (go_at_call 67; refine HE.out.mono ?_; rintro e w5 ⟨rfl, B5, C5⟩; have HZ := Lib.hid (HT1.out.tr.end_ 6 B5 C5); clear B5 C5)
        (first | go_end0 | refine bodyPost_ret (results_none rfl _ _ _) rfl ?_ | (rw [Exit.noGoto_normal]; go_wp2_with fail; (first | go_end0 | refine bodyPost_ret (results_none rfl _ _ _) rfl ?_)) | (rw [Exit.noGoto_normal]; (first | go_end0 | refine bodyPost_ret (results_none rfl _ _ _) rfl ?_)))
        rw [HPS.out, if_neg (by simp), if_pos HER.out.1.symm, if_pos HER.out.2.2.symm]
        refine HZ.out.fin ?_ ?_ ?_ ?_ ?_ rfl ?_ ?_
        · exact rfl
        · exact HZ.out.rig.kind
        · exact (fun h => by simp at h)
        · exact HZ.out.rig.steps
        · exact rfl
        · exact (fun h => by simp at h)
        · exact (fun h => by simp at h)
      | false =>
        as_aux_lemma =>
        have z10 := HT1.out.tr.frozen 10
        go_upto_region 12 with (fail)
        obtain ⟨k9, k4⟩ := HGE.out (.bool true)
        have HT2 := Lib.hid (HT1.out.set 10 (.bool true) (qw_s10 HT1.out.tr.rig.wk true) rfl rfl rfl rfl)
        obtain ⟨w2, hq⟩ : ∃ q, q = w1.setCell ⟨qb, 10, none⟩ (.bool true) := ⟨_, rfl⟩
        rw [← hq] at HT2 k9 k4 ⊢
        clear hq
        clear c7 c10 z10 e9 e4 HT1 HO1 HGE
        have c7 : w2.cell? ⟨qb, 7, none⟩ = some (.pointer (some ⟨g, 0, none⟩)) := HT2.out.tr.cell 7
        have c8 : w2.cell? ⟨qb, 8, none⟩ = some (.int .u64 (w.from_ : Nat)) := HT2.out.tr.cell 8
        have z8 := HT2.out.tr.frozen 8
        go_upto_region 13 with (fail)
        have HT3 := Lib.hid (HT2.out.set 8 (.int .u64 (bo : Nat)) (qw_s8 HT2.out.tr.rig.wk bo) rfl rfl rfl rfl)
        obtain ⟨w3, hq⟩ : ∃ q, q = w2.setCell ⟨qb, 8, none⟩ (.int .u64 (bo : Nat)) := ⟨_, rfl⟩
        rw [← hq] at HT3 ⊢
        clear hq
        clear c7 c8 z8 k9 k4 HT2
        have c6 : w3.cell? ⟨qb, 6, none⟩ = some (.int .i64 1) := HT3.out.tr.cell 6
        have z6 := HT3.out.tr.frozen 6
        go_upto_region 14 with (fail)
        have HT4 := Lib.hid (HT3.out.atL 2 2 rfl)
        obtain ⟨w4, hq⟩ : ∃ q, q = w3.setCell ⟨qb, 6, none⟩ (.int .i64 2) := ⟨_, rfl⟩
        rw [← hq] at HT4 ⊢
        clear hq
        clear c6 z6 HT3
        have d0 : w4.cell? ⟨db, 0, none⟩ = some (.int .i64 at_) := by rw [← HAE.out]; exact HT4.out.c0
        have d1 := HT4.out.c1
        have c7 : ∀ o, (w4.alloc o).cell? ⟨qb, 7, none⟩ = some (ptrO (some g)) := fun o => (HT4.out.keep ((Chg.refl [] _).alloc o)).tr.cell 7
        have z7 : ∀ o, (w4.alloc o).frozen? ⟨qb, 7, none⟩ = false := fun o => (HT4.out.keep ((Chg.refl [] _).alloc o)).tr.frozen 7
        go_wp2_with fail
        (first | go_end0 | refine bodyPost_ret (results_none rfl _ _ _) rfl ?_ | (rw [Exit.noGoto_normal]; go_wp2_with fail; (first | go_end0 | refine bodyPost_ret (results_none rfl _ _ _) rfl ?_)) | (rw [Exit.noGoto_normal]; (first | go_end0 | refine bodyPost_ret (results_none rfl _ _ _) rfl ?_)))
        have HO_HT5 := Lib.hid (Blk.new w4 #[.int .i64 at_, .int .i64 (r.cap : Nat), .int .i64 2, .int .i64 0, .int .u64 0, .int .u64 0, .int .u64 0, .bool false, .bool false, .int .i64 0] 108)
        have HT5 := Lib.hid ((HT4.out.keep ((Chg.refl [] w4).alloc (.cells #[.int .i64 at_, .int .i64 (r.cap : Nat), .int .i64 2, .int .i64 0, .int .u64 0, .int .u64 0, .int .u64 0, .bool false, .bool false, .int .i64 0] 108))).op (o := newD at_ r.cap 2 0) HO_HT5.out (OkOp.new (by rw [← HAE.out]; exact (HT4.out.tr.opAt HDN.out).1) (by rw [← HAE.out]; exact (HT4.out.tr.opAt HDN.out).2) HT4.out.tr.rig.ok.cap (by omega) (by omega)) (by have := HT4.out.tr.size; omega))
        clear HO_HT5
        rw [HPS.out, if_neg (by simp), if_pos HER.out.1.symm, if_neg (by rw [← HER.out.2.2]; simp), ← HER.out.2.1]
        rw [show opR r w 2 0 = newD at_ r.cap 2 0 from by unfold opR; rw [HAE.out]]
        refine HT5.out.tr.fin ?_ ?_ ?_ ?_ ?_ rfl ?_ ?_
        · exact rfl
        · exact HT5.out.tr.rig.kind
        · exact HT5.out.tr.rig.level
        · exact HT5.out.tr.rig.steps
        · exact rfl
        · exact (fun _ => ⟨rfl, HX.out⟩)
        · exact (fun _ => HX.out)
    · have f6 : (er == 6) = false := by simp [h6]
      have H6 := Lib.hid (show ¬ o'.err = 6 by rw [← HER.out.1]; exact h6)
      clear h6
      have c12 : w1.cell? ⟨qb, 12, none⟩ = some (.bool (decide (0 = 0) && w.there)) := HT1.out.tr.cell 12
      have z12 := HT1.out.tr.frozen 12
      go_upto_region 16 with (fail)
      have HT2 := Lib.hid (HT1.out.set 12 (.bool true) (qw_s12 HT1.out.tr.rig.wk) rfl rfl rfl rfl)
      obtain ⟨w2, hq⟩ : ∃ q, q = w1.setCell ⟨qb, 12, none⟩ (.bool true) := ⟨_, rfl⟩
      rw [← hq] at HT2 ⊢
      clear hq
      clear c7 c10 c12 z12 e9 e4 HT1 HO1 HGE
      obtain ⟨k2, hk2⟩ : ∃ k2, k2 = w.kind := ⟨_, rfl⟩
      obtain ⟨l2, hl2⟩ : ∃ l2, l2 = w.level := ⟨_, rfl⟩
      obtain ⟨s, hs⟩ : ∃ s, s = r.set k2 := ⟨_, rfl⟩
      have hkl : k2 < 2 := by rw [hk2]; exact HKL.out.1
      have HLV := Lib.hid (show l2 < 8 by rw [hl2]; exact HKL.out.2.1)
      have hsl : s < 18446744073709551616 := by rw [hs]; exact RRack.set_lt HKL.out.2.2 k2
      have d2 : w2.cell? ⟨sb, 2 + k2, none⟩ = some (.int .u64 (s : Nat)) := by rw [hs]; exact sb_get HT2.out.tr.rig.rk hkl
      have y2 : w2.frozen? ⟨sb, 2 + k2, none⟩ = false := HT2.out.tr.sfrozen _
      have c3 : w2.cell? ⟨qb, 3, none⟩ = some (.int .i64 (l2 : Nat)) := by rw [hl2]; exact HT2.out.tr.cell 3
      have c4 : w2.cell? ⟨qb, 4, none⟩ = some (.int .i64 (k2 : Nat)) := by rw [hk2]; exact HT2.out.tr.cell 4
      have HHAS := Lib.hid (fun w => show Calls Tryz.prog 48 #[.int .u64 (s : Nat), .int .i64 (l2 : Nat)] w fun e w' => e = .returned (.bool (s.testBit l2)) ∧ Chg [] w w' from by rw [← has_natL (by have := HLV.out; omega)]; exact has_any s hsl l2 w)
      have HPU := Lib.hid (fun w => put_any s hsl (l2 : Int) true w)
      obtain ⟨s', hs'⟩ : ∃ s', s' = put s (l2 : Int) true := ⟨_, rfl⟩
      rw [← hs'] at HPU
      have HSB := Lib.hid (fun (W1 : World) (T : QPr W W1 qb sb nm nw 0 xq bad 1 ob (some g) (some o') r { w with there := true } M' u' db) => sb_put T.tr.rig.rk k2 s' hkl)
      have HBIT := Lib.hid (show s' = s ↔ s.testBit l2 = true from by rw [hs']; exact put_eq_has hsl (by have := HLV.out; omega) true)
      have HPS2 := Lib.hid (show S = (if s' ≠ s ∧ k2 = 0 then (r.put k2 s', { w with op := some o', there := true, next := .signing }, M', u') else (r.put k2 s', { w with op := some o', there := true, done := true, err := 0 }, M', u')) from by rw [HPS.out, if_neg (by simp), if_neg H6.out, hs', hs, hl2, hk2])
      have HOR := Lib.hid (show OkRack (r.put k2 s') from okRack_put HKL.out.2.2 (by rw [hs']; exact put256 (by rw [hs]; exact okRack_set256 HKL.out.2.2 _) HLV.out _))
      have HSS := Lib.hid (show r.put k2 s = r from by rw [hs]; exact RRack.put_set_self r k2 hkl)
      have HKW := Lib.hid hk2
      obtain ⟨b, hb⟩ : ∃ b, b = s.testBit l2 := ⟨_, rfl⟩
      rw [← hb] at HHAS HBIT
      have hki : (k2 : Int) < 2 := by omega
      have hk0 : (0 : Int) ≤ (k2 : Int) := by omega
      have HKL2 := Lib.hid hkl
      clear hk2 hl2 hs hs' hb hsl hkl
      go_region_held3 (fun w' => w'.cell? ⟨qb, 3, none⟩ = some (.int .i64 (l2 : Nat)) ∧ w'.cell? ⟨qb, 4, none⟩ = some (.int .i64 (k2 : Nat)) ∧ w'.cell? ⟨sb, 2 + k2, none⟩ = some (.int .u64 (s : Nat)))
        (first | assumption | exact ⟨c3, c4, d2⟩ | fail)
        (first | (go_at_call 48; refine (HHAS.out _).mono ?_; rintro e w3 ⟨rfl, C3⟩; have k3 := And.intro (ckp C3.undrew c3) (And.intro (ckp C3.undrew c4) (ckp C3.undrew d2)); have HT3 := Lib.hid (HT2.out.keep C3.undrew); have HC3 := Lib.hid C3.undrew; clear C3) | fail)
      cases b with
      | true =>
        as_aux_lemma =>
        have HE := Lib.hid (qend_any qb sb 0 xq bad 1 (some g) { w with there := true } 0 w3 HT3.out.tr.rig.wk)
        go_wp2_with (go_at_call 67; refine HE.out.mono ?_; rintro e w5 ⟨rfl, B5, C5⟩; have HZ := Lib.hid (HT3.out.tr.end_ 0 B5 C5); clear B5 C5)
        (first | go_end0 | refine bodyPost_ret (results_none rfl _ _ _) rfl ?_ | (rw [Exit.noGoto_normal]; go_wp2_with fail; (first | go_end0 | refine bodyPost_ret (results_none rfl _ _ _) rfl ?_)) | (rw [Exit.noGoto_normal]; (first | go_end0 | refine bodyPost_ret (results_none rfl _ _ _) rfl ?_)))
        have hss : s' = s := HBIT.out.2 (by trivial)
        rw [HPS2.out, if_neg (fun h => h.1 hss), hss, HSS.out]
        refine HZ.out.fin ?_ ?_ ?_ ?_ ?_ rfl ?_ ?_
        · exact rfl
        · exact HZ.out.rig.kind
        · exact (fun h => by simp at h)
        · exact HZ.out.rig.steps
        · exact rfl
        · exact (fun h => by simp at h)
        · exact (fun _ => HX.out)
      | false =>
        have HNS := Lib.hid (show s' ≠ s from fun e => by have := HBIT.out.1 e; simp at this)
        obtain ⟨m3, m4, m2⟩ := k3
        have hsq : sb ≠ qb := Ne.symm HT3.out.tr.rig.qs
        have n2 := (fkp HC3.out d2).trans y2
        clear c3 c4 HHAS HBIT HT2 HC3 d2 y2
        go_upto_region 18 with (fail)
        go_cut [] (fun wx => IsSb wx sb (r.put k2 s') ∧ Chg [sb] w3 wx)
        case first =>
          as_aux_lemma =>
          refine wp_region_held_drew (S := fun w' => w'.cell? ⟨qb, 3, none⟩ = some (.int .i64 (l2 : Nat)) ∧ w'.cell? ⟨qb, 4, none⟩ = some (.int .i64 (k2 : Nat))) (by kernel_rfl) ⟨m3, m4⟩ (fun hHeld => ?_)
          refine wpAnyH_take (i := 0) (oi := ?oi0) (v := .pointer (some ⟨sb, 0, none⟩)) ?hi0 (by kernel_rfl) (by kernel_rfl) (by kernel_rfl) ?hq0 ?hy0 hHeld ?rest0
          case hi0 => (simp only [List.getElem?_toArray, List.getElem?_cons_zero]; rfl)
          case hq0 => exact (fun _ _ _ h => h)
          case hy0 => exact (Or.inl ⟨by rfl, fun w hSw => by obtain ⟨hS3, hS4⟩ := hSw; go_simp⟩)
          simp only [Act.put, List.setIfInBounds_toArray, List.set_cons_zero, List.set_cons_succ]
          refine wpAnyH_take (i := 1) (oi := ?oi1) (v := .pointer (some ⟨qb, 0, none⟩)) ?hi1 (by kernel_rfl) (by kernel_rfl) (by kernel_rfl) ?hq1 ?hy1 hHeld ?rest1
          case hi1 => (simp only [List.getElem?_toArray, List.getElem?_cons_zero, List.getElem?_cons_succ]; rfl)
          case hq1 => exact (fun _ _ _ h => h)
          case hy1 => exact (Or.inl ⟨by rfl, fun w hSw => by obtain ⟨hS3, hS4⟩ := hSw; go_simp⟩)
          simp only [Act.put, List.setIfInBounds_toArray, List.set_cons_zero, List.set_cons_succ]
          refine wpAnyH_take (i := 2) (oi := ?oi2) (v := .pointer (some ⟨qb, 0, none⟩)) ?hi2 (by kernel_rfl) (by kernel_rfl) (by kernel_rfl) ?hq2 ?hy2 hHeld ?rest2
          case hi2 => (simp only [List.getElem?_toArray, List.getElem?_cons_zero, List.getElem?_cons_succ]; rfl)
          case hq2 => exact (fun _ _ _ h => h)
          case hy2 => exact (Or.inl ⟨by rfl, fun w hSw => by obtain ⟨hS3, hS4⟩ := hSw; go_simp⟩)
          simp only [Act.put, List.setIfInBounds_toArray, List.set_cons_zero, List.set_cons_succ]
          refine wpAnyH_take (i := 3) (oi := ?oi3) (v := .pointer (some ⟨qb, 4, none⟩)) ?hi3 (by kernel_rfl) (by kernel_rfl) (by kernel_rfl) ?hq3 ?hy3 hHeld ?rest3
          case hi3 => (simp only [List.getElem?_toArray, List.getElem?_cons_zero, List.getElem?_cons_succ]; rfl)
          case hq3 => exact (fun _ _ _ h => h)
          case hy3 => exact (Or.inl ⟨by rfl, fun w hSw => by obtain ⟨hS3, hS4⟩ := hSw; go_simp⟩)
          simp only [Act.put, List.setIfInBounds_toArray, List.set_cons_zero, List.set_cons_succ]
          refine wpAnyH_take (i := 4) (oi := ?oi4) (v := .int .i64 (k2 : Nat)) ?hi4 (by kernel_rfl) (by kernel_rfl) (by kernel_rfl) ?hq4 ?hy4 hHeld ?rest4
          case hi4 => (simp only [List.getElem?_toArray, List.getElem?_cons_zero, List.getElem?_cons_succ]; rfl)
          case hq4 => exact (fun _ _ _ h => h)
          case hy4 => exact (Or.inl ⟨by rfl, fun w hSw => by obtain ⟨hS3, hS4⟩ := hSw; go_simp⟩)
          simp only [Act.put, List.setIfInBounds_toArray, List.set_cons_zero, List.set_cons_succ]
          refine wpAnyH_take (i := 5) (oi := ?oi5) (v := .pointer (some ⟨sb, 0, none⟩)) ?hi5 (by kernel_rfl) (by kernel_rfl) (by kernel_rfl) ?hq5 ?hy5 hHeld ?rest5
          case hi5 => (simp only [List.getElem?_toArray, List.getElem?_cons_zero, List.getElem?_cons_succ]; rfl)
          case hq5 => exact (fun _ _ _ h => h)
          case hy5 => exact (Or.inl ⟨by rfl, fun w hSw => by obtain ⟨hS3, hS4⟩ := hSw; go_simp⟩)
          simp only [Act.put, List.setIfInBounds_toArray, List.set_cons_zero, List.set_cons_succ]
          refine wpAnyH_take (i := 6) (oi := ?oi6) (v := .pointer (some ⟨qb, 0, none⟩)) ?hi6 (by kernel_rfl) (by kernel_rfl) (by kernel_rfl) ?hq6 ?hy6 hHeld ?rest6
          case hi6 => (simp only [List.getElem?_toArray, List.getElem?_cons_zero, List.getElem?_cons_succ]; rfl)
          case hq6 => exact (fun _ _ _ h => h)
          case hy6 => exact (Or.inl ⟨by rfl, fun w hSw => by obtain ⟨hS3, hS4⟩ := hSw; go_simp⟩)
          simp only [Act.put, List.setIfInBounds_toArray, List.set_cons_zero, List.set_cons_succ]
          refine wpAnyH_take (i := 7) (oi := ?oi7) (v := .pointer (some ⟨qb, 0, none⟩)) ?hi7 (by kernel_rfl) (by kernel_rfl) (by kernel_rfl) ?hq7 ?hy7 hHeld ?rest7
          case hi7 => (simp only [List.getElem?_toArray, List.getElem?_cons_zero, List.getElem?_cons_succ]; rfl)
          case hq7 => exact (fun _ _ _ h => h)
          case hy7 => exact (Or.inl ⟨by rfl, fun w hSw => by obtain ⟨hS3, hS4⟩ := hSw; go_simp⟩)
          simp only [Act.put, List.setIfInBounds_toArray, List.set_cons_zero, List.set_cons_succ]
          refine wpAnyH_take (i := 8) (oi := ?oi8) (v := .pointer (some ⟨qb, 4, none⟩)) ?hi8 (by kernel_rfl) (by kernel_rfl) (by kernel_rfl) ?hq8 ?hy8 hHeld ?rest8
          case hi8 => (simp only [List.getElem?_toArray, List.getElem?_cons_zero, List.getElem?_cons_succ]; rfl)
          case hq8 => exact (fun _ _ _ h => h)
          case hy8 => exact (Or.inl ⟨by rfl, fun w hSw => by obtain ⟨hS3, hS4⟩ := hSw; go_simp⟩)
          simp only [Act.put, List.setIfInBounds_toArray, List.set_cons_zero, List.set_cons_succ]
          refine wpAnyH_take (i := 9) (oi := ?oi9) (v := .int .i64 (k2 : Nat)) ?hi9 (by kernel_rfl) (by kernel_rfl) (by kernel_rfl) ?hq9 ?hy9 hHeld ?rest9
          case hi9 => (simp only [List.getElem?_toArray, List.getElem?_cons_zero, List.getElem?_cons_succ]; rfl)
          case hq9 => exact (fun _ _ _ h => h)
          case hy9 => exact (Or.inl ⟨by rfl, fun w hSw => by obtain ⟨hS3, hS4⟩ := hSw; go_simp⟩)
          simp only [Act.put, List.setIfInBounds_toArray, List.set_cons_zero, List.set_cons_succ]
          refine wpAnyH_take (i := 10) (oi := ?oi10) (v := .pointer (some ⟨sb, 0, none⟩)) ?hi10 (by kernel_rfl) (by kernel_rfl) (by kernel_rfl) ?hq10 ?hy10 hHeld ?rest10
          case hi10 => (simp only [List.getElem?_toArray, List.getElem?_cons_zero, List.getElem?_cons_succ]; rfl)
          case hq10 => exact (fun _ _ _ h => h)
          case hy10 => exact (Or.inl ⟨by rfl, fun w hSw => by obtain ⟨hS3, hS4⟩ := hSw; go_simp⟩)
          simp only [Act.put, List.setIfInBounds_toArray, List.set_cons_zero, List.set_cons_succ]
          refine wpAnyH_take (i := 11) (oi := ?oi11) (v := .pointer (some ⟨sb, 2, none⟩)) ?hi11 (by kernel_rfl) (by kernel_rfl) (by kernel_rfl) ?hq11 ?hy11 hHeld ?rest11
          case hi11 => (simp only [List.getElem?_toArray, List.getElem?_cons_zero, List.getElem?_cons_succ]; rfl)
          case hq11 => exact (fun _ _ _ h => h)
          case hy11 => exact (Or.inl ⟨by rfl, fun w hSw => by obtain ⟨hS3, hS4⟩ := hSw; go_simp⟩)
          simp only [Act.put, List.setIfInBounds_toArray, List.set_cons_zero, List.set_cons_succ]
          refine wpAnyH_take (i := 12) (oi := ?oi12) (v := .pointer (some ⟨sb, 2 + k2, none⟩)) ?hi12 (by kernel_rfl) (by kernel_rfl) (by kernel_rfl) ?hq12 ?hy12 hHeld ?rest12
          case hi12 => (simp only [List.getElem?_toArray, List.getElem?_cons_zero, List.getElem?_cons_succ]; rfl)
          case hq12 => exact (fun _ _ _ h => h)
          case hy12 => exact (Or.inl ⟨by rfl, fun w hSw => by obtain ⟨hS3, hS4⟩ := hSw; go_simp⟩)
          simp only [Act.put, List.setIfInBounds_toArray, List.set_cons_zero, List.set_cons_succ]
          refine wpAnyH_take (i := 14) (oi := ?oi14) (v := .pointer (some ⟨qb, 0, none⟩)) ?hi14 (by kernel_rfl) (by kernel_rfl) (by kernel_rfl) ?hq14 ?hy14 hHeld ?rest14
          case hi14 => (simp only [List.getElem?_toArray, List.getElem?_cons_zero, List.getElem?_cons_succ]; rfl)
          case hq14 => exact (fun _ _ _ h => h)
          case hy14 => exact (Or.inl ⟨by rfl, fun w hSw => by obtain ⟨hS3, hS4⟩ := hSw; go_simp⟩)
          simp only [Act.put, List.setIfInBounds_toArray, List.set_cons_zero, List.set_cons_succ]
          refine wpAnyH_take (i := 15) (oi := ?oi15) (v := .pointer (some ⟨qb, 0, none⟩)) ?hi15 (by kernel_rfl) (by kernel_rfl) (by kernel_rfl) ?hq15 ?hy15 hHeld ?rest15
          case hi15 => (simp only [List.getElem?_toArray, List.getElem?_cons_zero, List.getElem?_cons_succ]; rfl)
          case hq15 => exact (fun _ _ _ h => h)
          case hy15 => exact (Or.inl ⟨by rfl, fun w hSw => by obtain ⟨hS3, hS4⟩ := hSw; go_simp⟩)
          simp only [Act.put, List.setIfInBounds_toArray, List.set_cons_zero, List.set_cons_succ]
          refine wpAnyH_take (i := 16) (oi := ?oi16) (v := .pointer (some ⟨qb, 3, none⟩)) ?hi16 (by kernel_rfl) (by kernel_rfl) (by kernel_rfl) ?hq16 ?hy16 hHeld ?rest16
          case hi16 => (simp only [List.getElem?_toArray, List.getElem?_cons_zero, List.getElem?_cons_succ]; rfl)
          case hq16 => exact (fun _ _ _ h => h)
          case hy16 => exact (Or.inl ⟨by rfl, fun w hSw => by obtain ⟨hS3, hS4⟩ := hSw; go_simp⟩)
          simp only [Act.put, List.setIfInBounds_toArray, List.set_cons_zero, List.set_cons_succ]
          refine wpAnyH_take (i := 17) (oi := ?oi17) (v := .int .i64 (l2 : Nat)) ?hi17 (by kernel_rfl) (by kernel_rfl) (by kernel_rfl) ?hq17 ?hy17 hHeld ?rest17
          case hi17 => (simp only [List.getElem?_toArray, List.getElem?_cons_zero, List.getElem?_cons_succ]; rfl)
          case hq17 => exact (fun _ _ _ h => h)
          case hy17 => exact (Or.inl ⟨by rfl, fun w hSw => by obtain ⟨hS3, hS4⟩ := hSw; go_simp⟩)
          simp only [Act.put, List.setIfInBounds_toArray, List.set_cons_zero, List.set_cons_succ]
          refine wpAnyH_take (i := 19) (oi := ?oi19) (v := .pointer (some ⟨sb, 0, none⟩)) ?hi19 (by kernel_rfl) (by kernel_rfl) (by kernel_rfl) ?hq19 ?hy19 hHeld ?rest19
          case hi19 => (simp only [List.getElem?_toArray, List.getElem?_cons_zero, List.getElem?_cons_succ]; rfl)
          case hq19 => exact (fun _ _ _ h => h)
          case hy19 => exact (Or.inl ⟨by rfl, fun w hSw => by obtain ⟨hS3, hS4⟩ := hSw; go_simp⟩)
          simp only [Act.put, List.setIfInBounds_toArray, List.set_cons_zero, List.set_cons_succ]
          refine wpAnyH_take (i := 20) (oi := ?oi20) (v := .pointer (some ⟨sb, 2, none⟩)) ?hi20 (by kernel_rfl) (by kernel_rfl) (by kernel_rfl) ?hq20 ?hy20 hHeld ?rest20
          case hi20 => (simp only [List.getElem?_toArray, List.getElem?_cons_zero, List.getElem?_cons_succ]; rfl)
          case hq20 => exact (fun _ _ _ h => h)
          case hy20 => exact (Or.inl ⟨by rfl, fun w hSw => by obtain ⟨hS3, hS4⟩ := hSw; go_simp⟩)
          simp only [Act.put, List.setIfInBounds_toArray, List.set_cons_zero, List.set_cons_succ]
          refine wpAnyH_ready (rs := [13]) (by kernel_rfl) (by simp) ?_
          refine AllReadyH.cons (o := ?oc13) ?hc13 ?st13 AllReadyH.nil
          case hc13 => (simp only [List.getElem?_toArray, List.getElem?_cons_zero, List.getElem?_cons_succ]; rfl)
          intro K hK
          go_simp
          refine hK.out _ _ hHeld (fun hHeld => ?_)
          clear hK K
          try simp only [Act.put, List.setIfInBounds_toArray, List.set_cons_zero, List.set_cons_succ]
          refine wpAnyH_ready (rs := [18]) (by kernel_rfl) (by simp) ?_
          refine AllReadyH.cons (o := ?oc18) ?hc18 ?st18 AllReadyH.nil
          case hc18 => (simp only [List.getElem?_toArray, List.getElem?_cons_zero, List.getElem?_cons_succ]; rfl)
          intro K hK
          go_simp
          go_at_call 68
          refine (HPU.out _).mono ?_
          rintro e w4 ⟨rfl, C4⟩
          have n4 := (fkp C4.undrew m2).trans n2
          have p4 := ckp C4.undrew m2
          have q3 := ckp C4.undrew m3
          have q4 := ckp C4.undrew m4
          have HC4 := Lib.hid C4.undrew
          clear C4
          try dsimp only
          refine hK.out _ _ ⟨q3, q4⟩ (fun hHeld => ?_)
          clear hK K
          try simp only [Act.put, List.setIfInBounds_toArray, List.set_cons_zero, List.set_cons_succ]
          refine wpAnyH_take (i := 21) (oi := ?oi21) (v := .pointer (some ⟨sb, 2 + k2, none⟩)) ?hi21 (by kernel_rfl) (by kernel_rfl) (by kernel_rfl) ?hq21 ?hy21 hHeld ?rest21
          case hi21 => (simp only [List.getElem?_toArray, List.getElem?_cons_zero, List.getElem?_cons_succ]; rfl)
          case hq21 => exact (fun _ _ _ h => h)
          case hy21 => exact (Or.inl ⟨by rfl, fun w hSw => by obtain ⟨hS3, hS4⟩ := hSw; go_simp⟩)
          simp only [Act.put, List.setIfInBounds_toArray, List.set_cons_zero, List.set_cons_succ]
          refine wpAnyH_ready (rs := [22]) (by kernel_rfl) (by simp) ?_
          refine AllReadyH.cons (o := ?oc22) ?hc22 ?st22 AllReadyH.nil
          case hc22 => (simp only [List.getElem?_toArray, List.getElem?_cons_zero, List.getElem?_cons_succ]; rfl)
          intro K hK
          go_simp
          refine hK.out _ _ ⟨cfar q3 hsq, cfar q4 hsq⟩ (fun hHeld => ?_)
          clear hK K
          try simp only [Act.put, List.setIfInBounds_toArray, List.set_cons_zero, List.set_cons_succ]
          refine wpAnyH_done (by kernel_rfl) ?_ _
          go_wp2_with fail
          go_meet
          exact ⟨HSB.out _ (HT3.out.keep HC4.out), (HC4.out.weak).setCell (.inl (by simp)) _⟩
        case rest =>
        obtain ⟨R4, C4⟩ := hcut
        have HT4 := Lib.hid (HT3.out.tr.rack R4 C4 HOR.out)
        have HE := Lib.hid (qend_any qb sb 0 xq bad 1 (some g) { w with there := true } 0 wc HT4.out.rig.wk)
        have c4 : wc.cell? ⟨qb, 4, none⟩ = some (.int .i64 (k2 : Nat)) := by rw [HKW.out]; exact HT4.out.cell 4
        clear m2 m3 m4 n2 HT3 HPU R4 C4 HSB
        rcases (show k2 = 0 ∨ k2 = 1 by have := HKL2.out; omega) with e0 | e1
        · as_aux_lemma =>
          have c4' : wc.cell? ⟨qb, 4, none⟩ = some (.int .i64 0) := by rw [c4, e0]; rfl
          have HE0 := Lib.hid e0
          clear c4 e0 hki hk0
          have c6 : wc.cell? ⟨qb, 6, none⟩ = some (.int .i64 1) := HT4.out.cell 6
          have z6 := HT4.out.frozen 6
          go_wp2_with fail
          (first | go_end0 | refine bodyPost_ret (results_none rfl _ _ _) rfl ?_ | (rw [Exit.noGoto_normal]; go_wp2_with fail; (first | go_end0 | refine bodyPost_ret (results_none rfl _ _ _) rfl ?_)) | (rw [Exit.noGoto_normal]; (first | go_end0 | refine bodyPost_ret (results_none rfl _ _ _) rfl ?_)))
          rw [HPS2.out, if_pos ⟨HNS.out, HE0.out⟩]
          refine (HT4.out.at1 5).fin ?_ ?_ ?_ ?_ ?_ rfl ?_ ?_
          · exact rfl
          · exact HT4.out.rig.kind
          · exact HT4.out.rig.level
          · exact HT4.out.rig.steps
          · exact rfl
          · exact (fun _ => ⟨rfl, HX.out⟩)
          · exact (fun _ => HX.out)
        · as_aux_lemma =>
          have c4' : wc.cell? ⟨qb, 4, none⟩ = some (.int .i64 1) := by rw [c4, e1]; rfl
          have HE1 := Lib.hid e1
          clear c4 e1 hki hk0
          go_wp2_with (go_at_call 67; refine HE.out.mono ?_; rintro e w5 ⟨rfl, B5, C5⟩; have HZ := Lib.hid (HT4.out.end_ 0 B5 C5); clear B5 C5)
          (first | go_end0 | refine bodyPost_ret (results_none rfl _ _ _) rfl ?_ | (rw [Exit.noGoto_normal]; go_wp2_with fail; (first | go_end0 | refine bodyPost_ret (results_none rfl _ _ _) rfl ?_)) | (rw [Exit.noGoto_normal]; (first | go_end0 | refine bodyPost_ret (results_none rfl _ _ _) rfl ?_)))
          rw [HPS2.out, if_neg (fun h => by have := h.2; rw [HE1.out] at this; simp at this)]
          refine HZ.out.fin ?_ ?_ ?_ ?_ ?_ rfl ?_ ?_
          · exact rfl
          · exact HZ.out.rig.kind
          · exact (fun h => by simp at h)
          · exact HZ.out.rig.steps
          · exact rfl
          · exact (fun h => by simp at h)
          · exact (fun _ => HX.out)
end Go.Proofs.YtjdbgohfedjifaaGreatDoor
