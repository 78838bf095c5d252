/- rack, the document's: shed. Printed by gen_rs.py. -/
import Derived.Test.YtjdbgohfedjifaaGreatDoorRpR
namespace Go.Proofs.YtjdbgohfedjifaaGreatDoor
open Go.RowKit Bosun
set_option maxRecDepth 8000 in
set_option maxHeartbeats 16000000 in
theorem qshed_worst (W : World) (qb sb nm nw name xq : Nat) (bad : Value) (r : RRack) (w : RWork) (M : List Nat) (u : Nat) (h : Qig W qb sb nm nw name xq bad 0 none none r w M u) (hd : w.done = false) (hx : xq = w.x) (hop : w.op = none) (hk : w.kind = 0) (hn : w.next = .worst) (good : Nat → Bool) :
    Calls Tryz.prog 46 #[.pointer (some ⟨qb, 0, none⟩), .pointer (some ⟨nm, 0, none⟩)] W fun e W' => QTurned W W' qb sb nm nw name bad none (phaseR good r w M u) e := by
  have HP : phaseR good r w M u = (match worstOf r.s0 with
    | none => (r, { w with done := true, err := 7 }, M, u)
    | some l => (r, { w with level := l, op := some (opR r { w with level := l } 1 0), next := .popping }, M, u)) := by
    unfold phaseR
    rw [hn]
    cases worstOf r.s0 <;> rfl
  have hwo : worstOf r.s0 = (members r.s0).getLast? := by unfold worstOf; rw [members8 h.ok.z0]
  have hml : ∀ x ∈ members r.s0, x < 8 := by rw [members8 h.ok.z0]; intro x hx; exact List.mem_range.1 (List.mem_filter.1 hx).1
  have hle := members_le r.s0
  have c0 : W.cell? ⟨qb, 0, none⟩ = some (.pointer (some ⟨sb, 0, none⟩)) := by rw [Blk.cell h.wk]; rfl
  have c6 : W.cell? ⟨qb, 6, none⟩ = some (.int .i64 0) := by rw [Blk.cell h.wk]; rfl
  have s2 : W.cell? ⟨sb, 2, none⟩ = some (.int .u64 (r.s0 : Nat)) := by rw [Blk.cell h.rk]; rfl
  have HLI := Lib.hid (fun w => qlist_any r.s0 (by have := h.ok.z0; omega) w)
  have HH := Lib.hid (QTr.start h)
  have HDN := Lib.hid hd
  have HX := Lib.hid hx
  have HK0 := Lib.hid hk
  have HOP := Lib.hid hop
  obtain ⟨S, hS⟩ : ∃ S, S = phaseR good r w M u := ⟨_, rfl⟩
  rw [← hS]
  rw [← hS, hwo] at HP
  obtain ⟨L, hL⟩ : ∃ L, L = members r.s0 := ⟨_, rfl⟩
  rw [← hL] at HP hml hle HLI
  have HPS := Lib.hid HP
  have HML := Lib.hid hml
  clear HP hS h hd hx hk hop hn hwo hml hL
  obtain ⟨k, hk⟩ : ∃ k, k = L.length := ⟨_, rfl⟩
  rw [← hk] at HLI hle
  have HKK := Lib.hid hk
  go_enter Tryz.func46, Tryz.ntmps46
  by_cases h0 : k = 0
  · have e0 : ((k : Int) == 0) = true := by simp [h0]
    have H0 := Lib.hid (show L = [] from List.length_eq_zero_iff.1 (hk.symm.trans h0))
    clear h0 hk hle
    have HE := Lib.hid (fun W1 (C : Chg [] W W1) => qend_any qb sb name xq bad 0 none w 7 W1 (HH.out.keep C).rig.wk)
    go_wp2_with (first
      | (go_at_call 74; refine (HLI.out _).mono ?_; rintro e w1 ⟨ao, cp, rfl, hr, C1⟩; have HC1 := Lib.hid C1; clear C1 hr)
      | (go_at_call 67; refine (HE.out _ HC1.out).mono ?_; rintro e w5 ⟨rfl, B5, C5⟩; have HZ := Lib.hid ((HH.out.keep HC1.out).end_ 7 B5 C5); clear B5 C5)
      | fail)
    (first | go_end0 | refine bodyPost_ret (results_none rfl _ _ _) rfl ?_ | (rw [Exit.noGoto_normal]; go_wp2_with fail; (first | go_end0 | refine bodyPost_ret (results_none rfl _ _ _) rfl ?_)) | (rw [Exit.noGoto_normal]; (first | go_end0 | refine bodyPost_ret (results_none rfl _ _ _) rfl ?_)))
    rw [HPS.out, H0.out]
    refine HZ.out.fin ?_ ?_ ?_ ?_ ?_ rfl ?_ ?_
    · exact rfl
    · exact HZ.out.rig.kind
    · exact (fun h => by simp at h)
    · exact HZ.out.rig.steps
    · exact HOP.out
    · exact (fun h => by simp at h)
    · exact (fun h => by simp at h)
  · have e0 : ((k : Int) == 0) = false := by simp; omega
    have hj : k - 1 < L.length := by omega
    have HPL := Lib.hid (show L.getLast? = some L[k - 1] from by rw [List.getLast?_eq_getElem?]; rw [← hk]; exact List.getElem?_eq_getElem hj)
    have HL8 := Lib.hid (show L[k - 1] < 8 from HML.out _ (List.getElem_mem hj))
    have HCE := Lib.hid (fun (W1 : World) (ao : Option Addr) (cp : Nat) (h : Reads W1 (.slice ao k cp) (nats L)) => qreads_cell h hj)
    obtain ⟨l, hl⟩ : ∃ l, l = L[k - 1] := ⟨_, rfl⟩
    rw [← hl] at HPL HL8
    have HCE2 := Lib.hid (show ∀ (W1 : World) (ao : Option Addr) (cp : Nat), Reads W1 (.slice ao k cp) (nats L) → ∃ g off, ao = some ⟨g, off, none⟩ ∧ W1.cell? ⟨g, off + (k - 1), none⟩ = some (.int .i64 ((l : Nat) : Int)) from by rw [hl]; exact HCE.out)
    have hkz : IntKind.i64.wrap ((k : Int) - 1) = ((k - 1 : Nat) : Int) := by rw [IntKind.wrap_i64]; omega
    obtain ⟨j, hjj⟩ : ∃ j, j = k - 1 := ⟨_, rfl⟩
    rw [← hjj] at HCE2 hkz
    have hj0 : (0 : Int) ≤ (j : Int) := by omega
    have hjk : (j : Int) < (k : Int) := by omega
    clear h0 hk hle hl hj HCE hjj
    have HY3 := Lib.hid (fun W1 (C : Chg [] W W1) => show W1.cell? ⟨qb, 3, none⟩ = some (.int .i64 (w.level : Nat)) ∧ W1.frozen? ⟨qb, 3, none⟩ = false from ⟨(HH.out.keep C).cell 3, (HH.out.keep C).frozen 3⟩)
    go_upto_region 5 with (go_at_call 74; refine (HLI.out _).mono ?_; rintro e w2 ⟨ao, cp, rfl, hr, C2⟩; have HT2 := Lib.hid (HH.out.keep C2); obtain ⟨c3, z3⟩ := HY3.out _ C2; obtain ⟨g0, off, rfl, hcell⟩ := HCE2.out _ _ _ hr; clear C2 hr)
    have HT4 := Lib.hid (HT2.out.own (w' := { w with level := l }) (Blk.setCell HT2.out.rig.wk 3 (.int .i64 (l : Nat))) ((Chg.refl _ _).setCell (.inl (by simp)) _) HT2.out.rig.kind (fun _ => HL8.out) HT2.out.rig.steps)
    obtain ⟨w4, hw4⟩ : ∃ q, q = w2.setCell ⟨qb, 3, none⟩ (.int .i64 (l : Nat)) := ⟨_, rfl⟩
    rw [← hw4] at HT4 ⊢
    clear hw4 c3 z3 HT2 HY3 hcell
    have c6 : w4.cell? ⟨qb, 6, none⟩ = some (.int .i64 0) := HT4.out.cell 6
    have z6 := HT4.out.frozen 6
    go_upto_region 6 with (fail)
    have HT3 := Lib.hid (HT4.out.at1 7)
    obtain ⟨w3, hw3⟩ : ∃ q, q = w4.setCell ⟨qb, 6, none⟩ (.int .i64 7) := ⟨_, rfl⟩
    have HT3 : Hid (QTr W w3 qb sb nm nw name xq bad 7 none none none r { w with level := l } M u) := by rw [hw3]; exact HT3
    rw [← hw3]
    clear hw3 c6 z6 HT4 hkz hj0 hjk
    obtain ⟨at_, hat⟩ : ∃ a, a = r.at 0 l := ⟨_, rfl⟩
    have HAE := Lib.hid hat
    have HB := Lib.hid (show -100 ≤ at_ ∧ at_ ≤ 1000000 by rw [hat]; exact atOk HT3.out.rig.ok (by omega) HL8.out)
    have HAT := Lib.hid (fun (w' : World) (R : IsSb w' sb r) => show Calls Tryz.prog 52 #[.pointer (some ⟨sb, 0, none⟩), .int .i64 (l : Nat), .int .i64 0] w' fun e W' => e = .returned (.agg #[.int .i64 at_, .int .i64 (r.cap : Nat)]) ∧ Chg [] w' W' from by rw [hat]; exact qat_any sb r 0 l w' R HT3.out.rig.ok (by omega) HL8.out)
    have k3 : w3.cell? ⟨qb, 0, none⟩ = some (.pointer (some ⟨sb, 0, none⟩)) ∧ w3.cell? ⟨qb, 3, none⟩ = some (.int .i64 (l : Nat)) := ⟨HT3.out.cell 0, HT3.out.cell 3⟩
    have HZ := Lib.hid (fun (W1 : World) (C : Chg [] w3 W1) => show W1.cell? ⟨qb, 7, none⟩ = some (.pointer none) ∧ W1.frozen? ⟨qb, 7, none⟩ = false from ⟨(HT3.out.keep C).cell 7, (HT3.out.keep C).frozen 7⟩)
    have HK3 := Lib.hid (fun (W1 : World) (C : Chg [] w3 W1) => show W1.cell? ⟨qb, 0, none⟩ = some (.pointer (some ⟨sb, 0, none⟩)) ∧ W1.cell? ⟨qb, 3, none⟩ = some (.int .i64 (l : Nat)) from ⟨(HT3.out.keep C).cell 0, (HT3.out.keep C).cell 3⟩)
    have HK7 := Lib.hid (fun (W1 : World) (v : Value) (C : Chg [] w3 W1) => show (W1.setCell ⟨qb, 7, none⟩ v).cell? ⟨qb, 0, none⟩ = some (.pointer (some ⟨sb, 0, none⟩)) ∧ (W1.setCell ⟨qb, 7, none⟩ v).cell? ⟨qb, 3, none⟩ = some (.int .i64 (l : Nat)) from by
      have hb := Blk.setCell (HT3.out.keep C).rig.wk 7 v
      exact ⟨by rw [Blk.cell hb]; rfl, by rw [Blk.cell hb]; rfl⟩)
    clear hat
    go_region_held3 (fun w' => w'.cell? ⟨qb, 0, none⟩ = some (.pointer (some ⟨sb, 0, none⟩)) ∧ w'.cell? ⟨qb, 3, none⟩ = some (.int .i64 (l : Nat))) (first | assumption | exact k3 | exact HK3.out _ (HC5.out.alloc _) | exact HK7.out _ _ (HC5.out.alloc _) | fail)
      (first | (go_at_call 52; refine (HAT.out _ (Blk.chg HT3.out.rig.rk (Chg.refl [] _).drew (by simp))).mono ?_; rintro e w5 ⟨rfl, C5⟩; have k5 := HK3.out w5 C5.undrew; have HC5 := Lib.hid C5.undrew; obtain ⟨p7, q7⟩ := HZ.out (w5.alloc (.cells #[.int .i64 at_, .int .i64 (r.cap : Nat), .int .i64 1, .int .i64 0, .int .u64 0, .int .u64 0, .int .u64 0, .bool false, .bool false, .int .i64 0] 108)) (HC5.out.alloc _); clear C5) | fail)
    go_wp2_with fail
    (first | go_end0 | refine bodyPost_ret (results_none rfl _ _ _) rfl ?_ | (rw [Exit.noGoto_normal]; go_wp2_with fail; (first | go_end0 | refine bodyPost_ret (results_none rfl _ _ _) rfl ?_)) | (rw [Exit.noGoto_normal]; (first | go_end0 | refine bodyPost_ret (results_none rfl _ _ _) rfl ?_)))
    have HT5 := Lib.hid ((HT3.out.keep (HC5.out.alloc (.cells #[.int .i64 at_, .int .i64 (r.cap : Nat), .int .i64 1, .int .i64 0, .int .u64 0, .int .u64 0, .int .u64 0, .bool false, .bool false, .int .i64 0] 108))).op (o := newD at_ r.cap 1 0) (Blk.new w5 #[.int .i64 at_, .int .i64 (r.cap : Nat), .int .i64 1, .int .i64 0, .int .u64 0, .int .u64 0, .int .u64 0, .bool false, .bool false, .int .i64 0] 108) (OkOp.new HB.out.1 HB.out.2 HT3.out.rig.ok.cap (by omega) (by omega)) (by have := HT3.out.size; have := HC5.out.size; omega))
    rw [HPS.out, HPL.out]
    show QTurned _ _ _ _ _ _ _ _ _ (r, { w with level := l, op := some (opR r { w with level := l } 1 0), next := .popping }, M, u) _
    rw [show opR r { w with level := l } 1 0 = newD at_ r.cap 1 0 from by unfold opR; rw [show ({ w with level := l } : RWork).kind = 0 from HK0.out, HAE.out]]
    refine HT5.out.fin ?_ ?_ ?_ ?_ ?_ rfl ?_ ?_
    · exact rfl
    · exact HT5.out.rig.kind
    · exact HT5.out.rig.level
    · exact HT5.out.rig.steps
    · exact rfl
    · exact (fun _ => ⟨rfl, HX.out⟩)
    · exact (fun _ => HX.out)
set_option maxRecDepth 8000 in
set_option maxHeartbeats 16000000 in
theorem qshed_pop (W : World) (qb sb nm nw name xq : Nat) (bad : Value) (ob : Option Nat) (r : RRack) (w : RWork) (M : List Nat) (u : Nat) (h : Qig W qb sb nm nw name xq bad 7 ob w.op r w M u) (hd : w.done = false) (hx : xq = w.x) (o : DOp) (ho : w.op = some o) (hn : w.next = .popping) (good : Nat → Bool) :
    Calls Tryz.prog 46 #[.pointer (some ⟨qb, 0, none⟩), .pointer (some ⟨nm, 0, none⟩)] W fun e W' => QTurned W W' qb sb nm nw name bad ob (phaseR good r w M u) e := by
  have HP : phaseR good r w M u = (if (stepD o M u).1.done = true then (r, { w with op := some (stepD o M u).1, x := (resD (stepD o M u).1).1, done := true, err := (resD (stepD o M u).1).2 }, (stepD o M u).2.1, (stepD o M u).2.2)
      else (r, { w with op := some (stepD o M u).1 }, (stepD o M u).2.1, (stepD o M u).2.2)) := by
    unfold phaseR
    rw [hn, ho]
    rfl
  obtain ⟨g, rfl, a1, a2, a3, a4, a5, a6⟩ := h.opOf ho
  have c0 : W.cell? ⟨qb, 0, none⟩ = some (.pointer (some ⟨sb, 0, none⟩)) := by rw [Blk.cell h.wk]; rfl
  have c6 : W.cell? ⟨qb, 6, none⟩ = some (.int .i64 7) := by rw [Blk.cell h.wk]; rfl
  have c7 : W.cell? ⟨qb, 7, none⟩ = some (.pointer (some ⟨g, 0, none⟩)) := by rw [Blk.cell h.wk]; rfl
  have HS := Lib.hid (rstep_any g o W a1 a2 nm nw M u h.mem a5 a6)
  have hok := okStep (W := M) (u := u) a2 h.mem.small
  have hkd := stepD_kind o M u
  obtain ⟨o', ho'⟩ : ∃ o', o' = (stepD o M u).1 := ⟨_, rfl⟩
  obtain ⟨M', hM'⟩ : ∃ M', M' = (stepD o M u).2.1 := ⟨_, rfl⟩
  obtain ⟨u', hu'⟩ : ∃ u', u' = (stepD o M u).2.2 := ⟨_, rfl⟩
  unfold RStepped at HS
  rw [← ho', ← hM', ← hu'] at HS HP
  rw [← ho'] at hok hkd
  obtain ⟨S, hS⟩ : ∃ S, S = phaseR good r w M u := ⟨_, rfl⟩
  rw [← hS]
  rw [← hS] at HP
  have HPS := Lib.hid HP
  have HH := Lib.hid (QTr.start h)
  have NE := Lib.hid (And.intro a3 a4)
  have HDN := Lib.hid hd
  have HX := Lib.hid hx
  have HOK := Lib.hid hok
  have HNX := Lib.hid hn
  clear HP hS ho' hM' hu' a1 a2 a3 a4 a5 a6 h hd hok hkd hn hx ho
  go_enter Tryz.func46, Tryz.ntmps46
  go_wp2_with fail
  refine HS.out.mono ?_
  rintro e w1 ⟨rfl, O1, M1, C1⟩
  have HT := Lib.hid (HH.out.stepped rfl O1 HOK.out M1 C1 NE.out.1 NE.out.2)
  have HO1 := Lib.hid O1
  clear HS C1 c7 O1 M1 c6 c0
  cases hdn : o'.done with
  | false =>
    rw [hdn] at HPS
    clear hdn
    go_wp2_with fail
    (first | go_end0 | refine bodyPost_ret (results_none rfl _ _ _) rfl ?_ | (rw [Exit.noGoto_normal]; go_wp2_with fail; (first | go_end0 | refine bodyPost_ret (results_none rfl _ _ _) rfl ?_)) | (rw [Exit.noGoto_normal]; (first | go_end0 | refine bodyPost_ret (results_none rfl _ _ _) rfl ?_)))
    rw [HPS.out, if_neg (by simp)]
    refine HT.out.fin ?_ ?_ ?_ ?_ ?_ rfl ?_ ?_
    · exact rfl
    · exact HT.out.rig.kind
    · exact HT.out.rig.level
    · exact HT.out.rig.steps
    · exact rfl
    · exact (fun _ => ⟨by unfold atQ; rw [show ({ w with op := some o' } : RWork).next = .popping from HNX.out], HX.out⟩)
    · exact (fun _ => HX.out)
  | true =>
    have HRD := Lib.hid (resD_err hdn)
    have HR1 := Lib.hid (fun e => resD_won hdn e)
    rw [hdn] at HPS
    clear hdn
    obtain ⟨er, her⟩ : ∃ er, er = o'.err := ⟨_, rfl⟩
    obtain ⟨xr, hxr⟩ : ∃ xr, xr = o'.x := ⟨_, rfl⟩
    have c7 : w1.cell? ⟨qb, 7, none⟩ = some (.pointer (some ⟨g, 0, none⟩)) := HT.out.cell 7
    have e6 : w1.cell? ⟨g, 6, none⟩ = some (.int .u64 (xr : Nat)) := by rw [hxr]; exact HO1.out.c6
    have HER := Lib.hid her
    have HXR := Lib.hid hxr
    rw [HRD.out, ← her] at HPS
    clear her hxr
    have c2 := HT.out.cell 2
    have z2 := HT.out.frozen 2
    simp only [qwCells] at c2
    go_upto_region 9 with (fail)
    have HT2 := Lib.hid (HT.out.set 2 (.int .u64 (xr : Nat)) (qw_s2 HT.out.rig.wk xr) rfl rfl rfl rfl)
    have C2 : Chg [qb] w1 (w1.setCell ⟨qb, 2, none⟩ (.int .u64 (xr : Nat))) := (Chg.refl _ _).setCell (.inl (by simp)) _
    have HO2 := Lib.hid (HO1.out.chg C2 (by simp; exact NE.out.1))
    obtain ⟨w2, hw2⟩ : ∃ w2, w2 = w1.setCell ⟨qb, 2, none⟩ (.int .u64 (xr : Nat)) := ⟨_, rfl⟩
    rw [← hw2] at HT2 HO2 ⊢
    clear hw2 c2 z2 C2 c7 e6
    have c7 : w2.cell? ⟨qb, 7, none⟩ = some (.pointer (some ⟨g, 0, none⟩)) := HT2.out.cell 7
    have e9 : w2.cell? ⟨g, 9, none⟩ = some (.int .i64 er) := by rw [HER.out]; exact HO2.out.c9
    have HE := Lib.hid (qend_any qb sb name xr bad 7 (some g) w er w2 HT2.out.rig.wk)
    go_wp2_with (go_at_call 67; refine HE.out.mono ?_; rintro e w3 ⟨rfl, B3, C3⟩; have HZ := Lib.hid (HT2.out.end_ er B3 C3); clear B3 C3)
    (first | go_end0 | refine bodyPost_ret (results_none rfl _ _ _) rfl ?_ | (rw [Exit.noGoto_normal]; go_wp2_with fail; (first | go_end0 | refine bodyPost_ret (results_none rfl _ _ _) rfl ?_)) | (rw [Exit.noGoto_normal]; (first | go_end0 | refine bodyPost_ret (results_none rfl _ _ _) rfl ?_)))
    rw [HPS.out, if_pos (by trivial)]
    refine HZ.out.fin ?_ ?_ ?_ ?_ ?_ rfl ?_ ?_
    · exact rfl
    · exact HZ.out.rig.kind
    · exact (fun h => by simp at h)
    · exact HZ.out.rig.steps
    · exact rfl
    · exact (fun h => by simp at h)
    · exact (fun h => by rw [HXR.out]; exact (HR1.out (by rw [← HER.out]; exact h)).symm)
end Go.Proofs.YtjdbgohfedjifaaGreatDoor
