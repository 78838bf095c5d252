/- rack, the document's: put: sweeping. Printed by gen_qm.py. -/
import Derived.Test.YtjdbgohfedjifaaGreatDoorRpL
namespace Bosun
open Go
theorem resD_is {o : DOp} {z : Int} (hz : z ≠ 14) : (resD o).2 = z ↔ (o.done = true ∧ o.err = z) := by
  unfold resD
  cases hd : o.done with
  | false => simp; exact fun h => hz h.symm
  | true =>
    rw [if_neg (by simp)]
    by_cases he : o.err = 0
    · rw [if_neg (by simp [he])]; simp [he]
    · rw [if_pos he]; simp
theorem steal_one {o : DOp} (M : List Nat) (u : Nat) (hk : o.kind = 2) (hd : o.done = false) (h : (stepD o M u).1.steps = 1) : (stepD o M u).1.done = false := by
  obtain ⟨base, cap, kind, steps, b, t, x, won, done, err⟩ := o
  simp only at hk hd
  subst hk hd
  unfold stepD at h ⊢
  rw [if_neg (by simp)] at h ⊢
  match steps with
  | 0 => rfl
  | 1 => simp only at h; split at h <;> simp at h
  | 2 => simp at h
  | n + 3 => simp at h
end Bosun
namespace Go.Proofs.YtjdbgohfedjifaaGreatDoor
open Go.RowKit Bosun
set_option maxRecDepth 8000 in
set_option maxHeartbeats 16000000 in
theorem qput_sweep (W : World) (qb sb nm nw name xq : Nat) (bad : Value) (ob : Option Nat) (r : RRack) (w : RWork) (M : List Nat) (u : Nat) (h : Qig W qb sb nm nw name xq bad 2 ob w.op r w M u) (hd : w.done = false) (hx : xq = w.x) (o : DOp) (ho : w.op = some o) (hn : w.next = .sweeping) (hk2 : o.kind = 2) (hnd : o.done = false) (hxl : w.x < 18446744073709551616) (good : Nat → Bool) :
    Calls Tryz.prog 43 #[.pointer (some ⟨qb, 0, none⟩), .pointer (some ⟨nm, 0, none⟩)] W fun e W' => QTurned W W' qb sb nm nw name bad ob (phaseR good r w M u) e := by
  have HP : phaseR good r w M u = (if ((stepD o M u).1.steps = 1 ∧ ahd w.from_ (stepD o M u).1.t ≤ 0) ∨ (resD (stepD o M u).1).2 = 7 then (r, { w with op := some (opR r w 0 w.x), next := .pushing }, (stepD o M u).2.1, (stepD o M u).2.2)
    else if (resD (stepD o M u).1).2 = 8 then (r, { w with op := some (opR r w 2 0) }, (stepD o M u).2.1, (stepD o M u).2.2)
    else if (resD (stepD o M u).1).2 = 0 then (r, { w with op := some (stepD o M u).1, swept := (resD (stepD o M u).1).1, holds := true, next := .asking }, (stepD o M u).2.1, (stepD o M u).2.2)
    else (r, { w with op := some (stepD o M u).1 }, (stepD o M u).2.1, (stepD o M u).2.2)) := by
    unfold phaseR
    rw [hn, ho]
    rfl
  have HNX := Lib.hid hn
  rw [ho] at h
  obtain ⟨g, rfl, a1, a2, a3, a4, a5, a6⟩ := h.opOf rfl
  have hok := okStep (W := M) (u := u) a2 h.mem.small
  have hkd := stepD_kind o M u
  have hse := steal_err M u hk2 hnd
  have hs1 := steal_one M u hk2 hnd
  obtain ⟨o', ho'⟩ : ∃ o', o' = (stepD o M u).1 := ⟨_, rfl⟩
  obtain ⟨M', hM'⟩ : ∃ M', M' = (stepD o M u).2.1 := ⟨_, rfl⟩
  obtain ⟨u', hu'⟩ : ∃ u', u' = (stepD o M u).2.2 := ⟨_, rfl⟩
  have HS0 := Lib.hid (fun W1 (T : ROpAt W1 (some g) (some o)) (m : IsRef W1 nm nw M u) => rstep_any g o W1 T.1 a2 nm nw M u m a5 a6)
  unfold RStepped at HS0
  rw [← ho', ← hM', ← hu'] at HS0 HP
  rw [← ho'] at hok hkd hse hs1
  obtain ⟨S, hS⟩ : ∃ S, S = phaseR good r w M u := ⟨_, rfl⟩
  rw [← hS]
  rw [← hS] at HP
  have HPS := Lib.hid HP
  have NE := Lib.hid (And.intro a3 a4)
  have HOK := Lib.hid hok
  have HSE := Lib.hid hse
  have HS1 := Lib.hid hs1
  have HXL := Lib.hid hxl
  clear HP hS ho' hM' hu' a1 a2 a3 a4 a5 a6 hok hkd hn ho hse hs1 hk2 hnd hxl
  have c0 : W.cell? ⟨qb, 0, none⟩ = some (.pointer (some ⟨sb, 0, none⟩)) := by rw [Blk.cell h.wk]; rfl
  have c3 : W.cell? ⟨qb, 3, none⟩ = some (.int .i64 (w.level : Nat)) := by rw [Blk.cell h.wk]; rfl
  have c4 : W.cell? ⟨qb, 4, none⟩ = some (.int .i64 (w.kind : Nat)) := by rw [Blk.cell h.wk]; rfl
  have c6 : W.cell? ⟨qb, 6, none⟩ = some (.int .i64 2) := by rw [Blk.cell h.wk]; rfl
  have HAT := Lib.hid (fun W1 (C : Chg [] W W1) => qat_any sb r w.kind w.level W1 (Blk.chg h.rk C (by simp)) h.ok h.kind (h.level hd))
  have HH := Lib.hid h
  have HDN := Lib.hid hd
  have HX := Lib.hid hx
  obtain ⟨l, hl⟩ : ∃ l, l = w.level := ⟨_, rfl⟩
  obtain ⟨k, hk⟩ : ∃ k, k = w.kind := ⟨_, rfl⟩
  rw [← hl] at c3
  rw [← hk] at c4
  rw [← hl, ← hk] at HAT
  obtain ⟨at_, hat⟩ : ∃ a, a = r.at k l := ⟨_, rfl⟩
  rw [← hat] at HAT
  have HAE := Lib.hid (show r.at w.kind w.level = at_ by rw [hat, hk, hl])
  have hqL : qb < W.heap.size := Blk.lt h.wk
  have hqW : W.heap.size ≠ qb := by omega
  clear h hd hx hl hk hat
  go_enter Tryz.func43, Tryz.ntmps43
  go_upto_region 1 with (fail)
  go_cut [5] (fun s wx => ∃ db, s = .pointer (some ⟨db, 0, none⟩) ∧ Blk wx db #[.int .i64 at_, .int .i64 (r.cap : Nat)] 100 ∧ Chg [] W wx)
  case first =>
    go_region_held3 (fun w' => w'.cell? ⟨qb, 3, none⟩ = some (.int .i64 (l : Nat)) ∧ w'.cell? ⟨qb, 4, none⟩ = some (.int .i64 (k : Nat)))
      (first | assumption | exact ⟨c3, c4⟩ | exact ⟨ckp ((Chg.refl [] _).alloc _) (And.left (by assumption)), ckp ((Chg.refl [] _).alloc _) (And.right (by assumption))⟩ | exact ⟨cfar (cfar (ckp HC5.out c3) hqW) hqW, cfar (cfar (ckp HC5.out c4) hqW) hqW⟩ | exact ⟨cfar (cfar (ckp (HC5.out.alloc _) c3) hq5) hq5, cfar (cfar (ckp (HC5.out.alloc _) c4) hq5) hq5⟩ | fail)
      (first
        | (go_at_call 52; refine (HAT.out _ (Chg.refl [] _).drew).mono ?_; rintro e w5 ⟨rfl, C5⟩; have HC5 := Lib.hid (show Chg [] W w5 from C5.undrew); have k5 := And.intro (ckp HC5.out c3) (ckp HC5.out c4); have hq5 := (show w5.heap.size ≠ qb by have := HC5.out.size; omega); clear C5)
        | (go_at_call 52; refine (HAT.out _ (((Chg.refl [] _).alloc _).drew)).mono ?_; rintro e w5 ⟨rfl, C5⟩; have HC5 := Lib.hid (show Chg [] W w5 from (((Chg.refl [] _).alloc _).then C5.undrew (by simp))); have k5 := And.intro (ckp HC5.out c3) (ckp HC5.out c4); have hq5 := (show w5.heap.size ≠ qb by have := HC5.out.size; omega); have nb := Blk.chg (Blk.new W #[.int .i64 0, .int .i64 0] 100) C5.undrew (by simp); have n0 := Blk.cell nb 0; have n1 := Blk.cell nb 1; have y0 := Blk.frozen nb 0; have y1 := Blk.frozen nb 1; simp only [List.getElem?_toArray, List.getElem?_cons_zero, List.getElem?_cons_succ] at n0 n1; have HNB := Lib.hid nb; clear C5 nb)
        | fail)
    all_goals
      go_wp2_with fail
      go_meet
      first
        | exact ⟨_, rfl, Blk.new _ _ _, HC5.out.alloc _⟩
        | exact ⟨_, rfl, Blk.setCell (Blk.setCell HNB.out 0 _) 1 _, (HC5.out.setCell (.inr (Nat.le_refl _)) _).setCell (.inr (Nat.le_refl _)) _⟩
  case rest =>
  obtain ⟨db, rfl, B0, C0⟩ := hcut
  have HT := Lib.hid (QPr.start HH.out C0 (by rw [HAE.out]; exact B0))
  clear B0 C0 c0 c3 c4 c6
  have c6 : wc.cell? ⟨qb, 6, none⟩ = some (.int .i64 2) := HT.out.tr.cell 6
  have c7 : wc.cell? ⟨qb, 7, none⟩ = some (.pointer (some ⟨g, 0, none⟩)) := HT.out.tr.cell 7
  have HS := Lib.hid (HS0.out wc HT.out.tr.rig.op HT.out.tr.rig.mem)
  go_wp2_with fail
  refine HS.out.mono ?_
  rintro e w1 ⟨rfl, O1, M1, C1⟩
  have HT1 := Lib.hid (HT.out.stepped rfl HT.out.tr.rig.op.1 O1 HOK.out M1 C1 NE.out.1 NE.out.2)
  have HO1 := Lib.hid O1
  clear HS C1 c7 O1 M1 HS0 c6
  clear HT
  obtain ⟨n', hn'⟩ : ∃ n', n' = o'.steps := ⟨_, rfl⟩
  obtain ⟨t', ht'⟩ : ∃ t', t' = o'.t := ⟨_, rfl⟩
  obtain ⟨er, her⟩ : ∃ er, er = o'.err := ⟨_, rfl⟩
  obtain ⟨dn, hdn⟩ : ∃ dn, dn = o'.done := ⟨_, rfl⟩
  obtain ⟨A, hA⟩ : ∃ A, A = ahd w.from_ t' := ⟨_, rfl⟩
  obtain ⟨fr, hfr⟩ : ∃ fr, fr = w.from_ := ⟨_, rfl⟩
  obtain ⟨xr, hxr⟩ : ∃ xr, xr = o'.x := ⟨_, rfl⟩
  have wr1 : IntKind.i64.wrap (IntKind.u64.wrap ((fr : Int) - (t' : Int))) = A := by rw [hfr, hA]; exact ahd_wraps _ _
  have wr2 : IntKind.i64.wrap ((fr : Int) - (t' : Int)) = A := by rw [hfr, hA]; rfl
  have HSE2 := HSE.out
  have HC := Lib.hid (show ((o'.steps = 1 ∧ ahd w.from_ o'.t ≤ 0) ∨ (resD o').2 = 7) ↔ ((n' = 1 ∧ A ≤ 0) ∨ (dn = true ∧ er = 7)) from by rw [resD_is (by decide), hn', hA, ht', hdn, her])
  have HC8 := Lib.hid (show (resD o').2 = 8 ↔ (dn = true ∧ er = 8) from by rw [resD_is (by decide), hdn, her])
  have HC0 := Lib.hid (show (resD o').2 = 0 ↔ (dn = true ∧ er = 0) from by rw [resD_is (by decide), hdn, her])
  have HXR := Lib.hid (show dn = true → er = 0 → (resD o').1 = xr from by rw [hdn, her, hxr]; exact fun h1 h2 => resD_won h1 h2)
  have HS1' := HS1.out
  rw [← her, ← hdn] at HSE2
  rw [← hdn, ← hn'] at HS1'
  have HN1 := Lib.hid HS1'
  have HSE3 := Lib.hid HSE2
  have c7 : w1.cell? ⟨qb, 7, none⟩ = some (.pointer (some ⟨g, 0, none⟩)) := HT1.out.tr.cell 7
  have c8 : w1.cell? ⟨qb, 8, none⟩ = some (.int .u64 (fr : Nat)) := by rw [hfr]; exact HT1.out.tr.cell 8
  have e3 : w1.cell? ⟨g, 3, none⟩ = some (.int .i64 (n' : Nat)) := by rw [hn']; exact HO1.out.c3
  have e5 : w1.cell? ⟨g, 5, none⟩ = some (.int .u64 (t' : Nat)) := by rw [ht']; exact HO1.out.c5
  have e8 : w1.cell? ⟨g, 8, none⟩ = some (.bool dn) := by rw [hdn]; exact HO1.out.c8
  have e9 : w1.cell? ⟨g, 9, none⟩ = some (.int .i64 er) := by rw [her]; exact HO1.out.c9
  have HG := Lib.hid (fun W1 (C : Chg [] w1 W1) => show W1.cell? ⟨g, 8, none⟩ = some (.bool dn) ∧ W1.cell? ⟨g, 9, none⟩ = some (.int .i64 er) ∧ W1.cell? ⟨g, 6, none⟩ = some (.int .u64 (xr : Nat)) from ⟨ckp C e8, ckp C e9, ckp C (by rw [hxr]; exact HO1.out.c6)⟩)
  clear hn' ht' her hdn hA hfr hxr HSE2 HSE HS1' HS1
  obtain ⟨b, hb⟩ : ∃ b, b = decide ((n' = 1 ∧ A ≤ 0) ∨ (dn = true ∧ er = 7)) := ⟨_, rfl⟩
  have HB := Lib.hid hb
  clear hb
  go_upto_region 27 with (fail)
  go_cut [213] (fun s wx => s = .bool b ∧ Chg [] w1 wx)
  case first =>
    clear HSE3 HC HC8 HC0 HPS HXR HG
    by_cases h1 : n' = 1
    · have e1 : ((n' : Int) == 1) = true := by simp [h1]
      by_cases hA : A ≤ 0
      · as_aux_lemma =>
        have e2 : decide (A ≤ 0) = true := decide_eq_true hA
        have hbv : b = true := by rw [HB.out]; simp [h1, hA]
        subst hbv
        clear h1
        go_quiet (fail)
        go_wp2_with fail
        go_meet
        exact ⟨rfl, (Chg.refl _ _).drewN _⟩
      · as_aux_lemma =>
        have e2 : decide (A ≤ 0) = false := decide_eq_false hA
        obtain rfl : dn = false := HN1.out h1
        have hbv : b = false := by rw [HB.out]; simp; omega
        subst hbv
        clear h1 hA
        go_quiet (fail)
        go_wp2_with fail
        go_meet
        exact ⟨rfl, (Chg.refl _ _).drewN _⟩
    · have e1 : ((n' : Int) == 1) = false := by simp; omega
      cases dn with
      | false =>
        as_aux_lemma =>
        have hbv : b = false := by rw [HB.out]; simp; omega
        subst hbv
        clear h1
        go_quiet (fail)
        go_wp2_with fail
        go_meet
        exact ⟨rfl, (Chg.refl _ _).drewN _⟩
      | true =>
        as_aux_lemma =>
        have hbv : Value.bool (er == 7) = .bool b := by
          rw [HB.out]
          congr 1
          by_cases h7 : er = 7
          · simp [h7]
          · have : ¬ ((n' = 1 ∧ A ≤ 0) ∨ (true = true ∧ er = 7)) := by intro h; rcases h with h | h; exact h1 h.1; exact h7 h.2
            rw [decide_eq_false this]; simp [h7]
        have HBV := Lib.hid hbv
        clear h1 hbv
        go_quiet (fail)
        go_wp2_with fail
        go_meet
        exact ⟨HBV.out, (Chg.refl _ _).drewN _⟩
  case rest =>
  obtain ⟨rfl, C2⟩ := hcut
  obtain ⟨e8, e9, e6⟩ := HG.out wc C2
  have HT2 := Lib.hid (HT1.out.keep C2)
  clear c7 c8 e3 e5 wr1 wr2 HG C2 HT1 HO1
  have c6 : wc.cell? ⟨qb, 6, none⟩ = some (.int .i64 2) := HT2.out.tr.cell 6
  have z6 := HT2.out.tr.frozen 6
  have c7 : wc.cell? ⟨qb, 7, none⟩ = some (.pointer (some ⟨g, 0, none⟩)) := HT2.out.tr.cell 7
  cases b with
  | true =>
    as_aux_lemma =>
    go_upto_region 29 with (fail)
    have HT4 := Lib.hid (HT2.out.atL 1 1 rfl)
    obtain ⟨w4, hq⟩ : ∃ q, q = wc.setCell ⟨qb, 6, none⟩ (.int .i64 1) := ⟨_, rfl⟩
    rw [← hq] at HT4 ⊢
    clear hq
    clear c6 z6 c7 e8 e9 e6 HT2
    have d0 : w4.cell? ⟨db, 0, none⟩ = some (.int .i64 at_) := by rw [← HAE.out]; exact HT4.out.c0
    have d1 := HT4.out.c1
    have c7 : ∀ o, (w4.alloc o).cell? ⟨qb, 7, none⟩ = some (ptrO (some g)) := fun o => (HT4.out.keep ((Chg.refl [] _).alloc o)).tr.cell 7
    have z7 : ∀ o, (w4.alloc o).frozen? ⟨qb, 7, none⟩ = false := fun o => (HT4.out.keep ((Chg.refl [] _).alloc o)).tr.frozen 7
    have c2 : w4.cell? ⟨qb, 2, none⟩ = some (.int .u64 (xq : Nat)) := HT4.out.tr.cell 2
    go_big_region
    have HO_HT8 := Lib.hid (Blk.new w4 #[.int .i64 at_, .int .i64 (r.cap : Nat), .int .i64 0, .int .i64 0, .int .u64 0, .int .u64 0, .int .u64 (xq : Nat), .bool false, .bool false, .int .i64 0] 108)
    have HT8 := Lib.hid ((HT4.out.keep ((Chg.refl [] w4).alloc (.cells #[.int .i64 at_, .int .i64 (r.cap : Nat), .int .i64 0, .int .i64 0, .int .u64 0, .int .u64 0, .int .u64 (xq : Nat), .bool false, .bool false, .int .i64 0] 108))).op (o := newD at_ r.cap 0 xq) HO_HT8.out (OkOp.new (by rw [← HAE.out]; exact (HT4.out.tr.opAt HDN.out).1) (by rw [← HAE.out]; exact (HT4.out.tr.opAt HDN.out).2) HT4.out.tr.rig.ok.cap (by omega) (by rw [HX.out]; exact HXL.out)) (by have := HT4.out.tr.size; omega))
    clear HO_HT8
    have HT9 := Lib.hid (HT8.out.keep (Chg.refl [] _).drew)
    clear HT8
    go_wp2_with fail
    (first | go_end0 | refine bodyPost_ret (results_none rfl _ _ _) rfl ?_ | (rw [Exit.noGoto_normal]; go_wp2_with fail; (first | go_end0 | refine bodyPost_ret (results_none rfl _ _ _) rfl ?_)) | (rw [Exit.noGoto_normal]; (first | go_end0 | refine bodyPost_ret (results_none rfl _ _ _) rfl ?_)))
    rw [HPS.out, if_pos (HC.out.2 (by simpa using HB.out.symm))]
    rw [show opR r w 0 w.x = newD at_ r.cap 0 xq from by unfold opR; rw [HAE.out, HX.out]]
    refine HT9.out.tr.fin ?_ ?_ ?_ ?_ ?_ rfl ?_ ?_
    · exact rfl
    · exact HT9.out.tr.rig.kind
    · exact HT9.out.tr.rig.level
    · exact HT9.out.tr.rig.steps
    · exact rfl
    · exact (fun _ => ⟨rfl, HX.out⟩)
    · exact (fun _ => HX.out)
  | false =>
    have HNB := Lib.hid (show ¬ ((n' = 1 ∧ A ≤ 0) ∨ (dn = true ∧ er = 7)) from of_decide_eq_false HB.out.symm)
    cases dn with
    | false =>
      as_aux_lemma =>
      go_wp2_with fail
      (first | go_end0 | refine bodyPost_ret (results_none rfl _ _ _) rfl ?_ | (rw [Exit.noGoto_normal]; go_wp2_with fail; (first | go_end0 | refine bodyPost_ret (results_none rfl _ _ _) rfl ?_)) | (rw [Exit.noGoto_normal]; (first | go_end0 | refine bodyPost_ret (results_none rfl _ _ _) rfl ?_)))
      rw [HPS.out, if_neg (fun h => HNB.out (HC.out.1 h)), if_neg (fun h => by have := HC8.out.1 h; simp at this), if_neg (fun h => by have := HC0.out.1 h; simp at this)]
      refine HT2.out.tr.fin ?_ ?_ ?_ ?_ ?_ rfl ?_ ?_
      · exact rfl
      · exact HT2.out.tr.rig.kind
      · exact HT2.out.tr.rig.level
      · exact HT2.out.tr.rig.steps
      · exact rfl
      · exact (fun _ => ⟨by unfold atQ; rw [show w.next = .sweeping from HNX.out], HX.out⟩)
      · exact (fun _ => HX.out)
    | true =>
      by_cases h8 : er = 8
      · as_aux_lemma =>
        subst h8
        go_upto_region 31 with (fail)
        clear e8 e9 e6 c6 z6 c7
        have d0 : wc.cell? ⟨db, 0, none⟩ = some (.int .i64 at_) := by rw [← HAE.out]; exact HT2.out.c0
        have d1 := HT2.out.c1
        have c7 : ∀ o, (wc.alloc o).cell? ⟨qb, 7, none⟩ = some (ptrO (some g)) := fun o => (HT2.out.keep ((Chg.refl [] _).alloc o)).tr.cell 7
        have z7 : ∀ o, (wc.alloc o).frozen? ⟨qb, 7, none⟩ = false := fun o => (HT2.out.keep ((Chg.refl [] _).alloc o)).tr.frozen 7
        go_wp2_with fail
        (first | go_end0 | refine bodyPost_ret (results_none rfl _ _ _) rfl ?_ | (rw [Exit.noGoto_normal]; go_wp2_with fail; (first | go_end0 | refine bodyPost_ret (results_none rfl _ _ _) rfl ?_)) | (rw [Exit.noGoto_normal]; (first | go_end0 | refine bodyPost_ret (results_none rfl _ _ _) rfl ?_)))
        have HO_HT5 := Lib.hid (Blk.new wc #[.int .i64 at_, .int .i64 (r.cap : Nat), .int .i64 2, .int .i64 0, .int .u64 0, .int .u64 0, .int .u64 0, .bool false, .bool false, .int .i64 0] 108)
        have HT5 := Lib.hid ((HT2.out.keep ((Chg.refl [] wc).alloc (.cells #[.int .i64 at_, .int .i64 (r.cap : Nat), .int .i64 2, .int .i64 0, .int .u64 0, .int .u64 0, .int .u64 0, .bool false, .bool false, .int .i64 0] 108))).op (o := newD at_ r.cap 2 0) HO_HT5.out (OkOp.new (by rw [← HAE.out]; exact (HT2.out.tr.opAt HDN.out).1) (by rw [← HAE.out]; exact (HT2.out.tr.opAt HDN.out).2) HT2.out.tr.rig.ok.cap (by omega) (by omega)) (by have := HT2.out.tr.size; omega))
        clear HO_HT5
        rw [HPS.out, if_neg (fun h => HNB.out (HC.out.1 h)), if_pos (HC8.out.2 (by simp))]
        rw [show opR r w 2 0 = newD at_ r.cap 2 0 from by unfold opR; rw [HAE.out]]
        refine HT5.out.tr.fin ?_ ?_ ?_ ?_ ?_ rfl ?_ ?_
        · exact rfl
        · exact HT5.out.tr.rig.kind
        · exact HT5.out.tr.rig.level
        · exact HT5.out.tr.rig.steps
        · exact rfl
        · exact (fun _ => ⟨by unfold atQ; rw [show w.next = .sweeping from HNX.out], HX.out⟩)
        · exact (fun _ => HX.out)
      · as_aux_lemma =>
        have h0 : er = 0 := by
          rcases HSE3.out rfl with h | h | h
          · exact h
          · exact absurd (.inr ⟨rfl, h⟩) HNB.out
          · exact absurd h h8
        subst h0
        have c9 : wc.cell? ⟨qb, 9, none⟩ = some (.int .u64 (w.swept : Nat)) := HT2.out.tr.cell 9
        have z9 := HT2.out.tr.frozen 9
        go_upto_region 34 with (fail)
        have HT3 := Lib.hid (HT2.out.set 9 (.int .u64 (xr : Nat)) (qw_s9 HT2.out.tr.rig.wk xr) rfl rfl rfl rfl)
        obtain ⟨w3, hq⟩ : ∃ q, q = wc.setCell ⟨qb, 9, none⟩ (.int .u64 (xr : Nat)) := ⟨_, rfl⟩
        rw [← hq] at HT3 ⊢
        clear hq
        clear c9 z9 c6 z6 c7 e8 e9 e6 HT2
        have c11 : w3.cell? ⟨qb, 11, none⟩ = some (.bool w.holds) := HT3.out.tr.cell 11
        have z11 := HT3.out.tr.frozen 11
        go_upto_region 35 with (fail)
        have HT4 := Lib.hid (HT3.out.set 11 (.bool true) (qw_s11 HT3.out.tr.rig.wk true) rfl rfl rfl rfl)
        obtain ⟨w4, hq⟩ : ∃ q, q = w3.setCell ⟨qb, 11, none⟩ (.bool true) := ⟨_, rfl⟩
        rw [← hq] at HT4 ⊢
        clear hq
        clear c11 z11 HT3
        have c6 : w4.cell? ⟨qb, 6, none⟩ = some (.int .i64 2) := HT4.out.tr.cell 6
        have z6 := HT4.out.tr.frozen 6
        go_wp2_with fail
        (first | go_end0 | refine bodyPost_ret (results_none rfl _ _ _) rfl ?_ | (rw [Exit.noGoto_normal]; go_wp2_with fail; (first | go_end0 | refine bodyPost_ret (results_none rfl _ _ _) rfl ?_)) | (rw [Exit.noGoto_normal]; (first | go_end0 | refine bodyPost_ret (results_none rfl _ _ _) rfl ?_)))
        have HT5 := Lib.hid (HT4.out.atL 3 3 rfl)
        rw [HPS.out, if_neg (fun h => HNB.out (HC.out.1 h)), if_neg (fun h => by have := HC8.out.1 h; simp at this), if_pos (HC0.out.2 (by simp)), HXR.out (by trivial) (by trivial)]
        refine HT5.out.tr.fin ?_ ?_ ?_ ?_ ?_ rfl ?_ ?_
        · exact rfl
        · exact HT5.out.tr.rig.kind
        · exact HT5.out.tr.rig.level
        · exact HT5.out.tr.rig.steps
        · exact rfl
        · exact (fun _ => ⟨rfl, HX.out⟩)
        · exact (fun _ => HX.out)
end Go.Proofs.YtjdbgohfedjifaaGreatDoor
