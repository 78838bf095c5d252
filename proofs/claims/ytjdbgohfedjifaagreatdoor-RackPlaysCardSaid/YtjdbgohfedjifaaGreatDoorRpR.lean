/- rack, the document's: rob. Printed by gen_rs.py. -/
import Derived.Test.YtjdbgohfedjifaaGreatDoorRpV
namespace Bosun
open Go
/-- A steal that is not done had at most three steps. -/
theorem steal_three {o : DOp} (M : List Nat) (u : Nat) (hk : o.kind = 2) (hd : o.done = false) (h : (stepD o M u).1.done = false) : (stepD o M u).1.steps ≤ 3 := by
  obtain ⟨base, cap, kind, steps, b, t, x, won, done, err⟩ := o
  simp only at hk hd
  subst hk hd
  unfold stepD at h ⊢
  rw [if_neg (by simp)] at h ⊢
  match steps with
  | 0 => simp
  | 1 =>
    simp only at h ⊢
    split at h
    · simp at h
    · rename_i h1; rw [if_neg h1]; simp
  | 2 => simp
  | n + 3 => simp at h
end Bosun
namespace Go.Proofs.YtjdbgohfedjifaaGreatDoor
open Go.RowKit Bosun
theorem qlist_any (s : Nat) (hs : s < 18446744073709551616) (w : World) :
    Calls Tryz.prog 74 #[.int .u64 (s : Nat)] w fun e w' => ∃ ao cp, e = .returned (.slice ao (members s).length cp) ∧ Reads w' (.slice ao (members s).length cp) (nats (members s)) ∧ Chg [] w w' := by
  refine (list_any s hs w).mono ?_
  rintro e w' ⟨v, rfl, ho, H⟩
  have hr := ho.reads
  obtain ⟨ao, cp, rfl, _, _⟩ := id hr
  rw [nats_len] at hr ⊢
  exact ⟨ao, cp, rfl, hr, H⟩
theorem qreads_cell {w : World} {ao : Option Addr} {k cp : Nat} {L : List Nat} (h : Reads w (.slice ao k cp) (nats L)) {j : Nat} (hj : j < L.length) :
    ∃ g off, ao = some ⟨g, off, none⟩ ∧ w.cell? ⟨g, off + j, none⟩ = some (.int .i64 ((L[j] : Nat) : Int)) := by
  obtain ⟨ao', cp', e, _, hc⟩ := h
  cases e
  exact hc j _ (nats_get L hj)
theorem qleast_any (s : Nat) (hs : s < 18446744073709551616) (w : World) :
    Calls Tryz.prog 73 #[.int .u64 (s : Nat)] w fun e w' => e = .returned (.int .i64 (leastI s)) ∧ Chg [] w w' := by
  have HA := Lib.hid (qlist_any s hs w)
  have hle := members_le s
  cases hm : members s with
  | nil =>
    have e : leastI s = -1 := by unfold leastI; rw [hm]
    rw [hm] at HA
    rw [e]
    clear hm e hle
    go_enter Tryz.func73, Tryz.ntmps73
    go_wp2_with (go_at_call 74; refine HA.out.mono ?_; rintro e w1 ⟨ao, cp, rfl, hr, H1⟩)
    go_ret
    exact ⟨rfl, H1⟩
  | cons a t =>
    have e : leastI s = ((a : Nat) : Int) := by unfold leastI; rw [hm]
    rw [hm] at HA hle
    rw [e]
    have hl : (a :: t).length = t.length + 1 := rfl
    obtain ⟨k, hk⟩ : ∃ k, k = (a :: t).length := ⟨_, rfl⟩
    rw [← hk] at HA hle
    have hz : ((k : Int) == 0) = false := beq_eq_false_iff_ne.2 (by omega)
    have hk0 : (0 : Int) < (k : Int) := by omega
    clear hm e hl
    go_enter Tryz.func73, Tryz.ntmps73
    go_wp2_with (go_at_call 74; refine HA.out.mono ?_; rintro e w1 ⟨ao, cp, rfl, hr, H1⟩; obtain ⟨g, off, rfl, hc⟩ := qreads_cell hr (show 0 < (a :: t).length by simp); rw [Nat.add_zero, List.getElem_cons_zero] at hc)
    go_ret
    exact ⟨rfl, H1⟩
theorem leastTo_lt8 : ∀ x : Fin 256, x.val ≠ 0 → leastTo x.val 8 0 < 8 := by decide +kernel
set_option maxRecDepth 8000 in
set_option maxHeartbeats 16000000 in
theorem qrob_read (W : World) (qb sb nm nw name xq : Nat) (bad : Value) (r : RRack) (w : RWork) (M : List Nat) (u : Nat) (h : Qig W qb sb nm nw name xq bad 0 none none r w M u) (hd : w.done = false) (hx : xq = w.x) (hop : w.op = none) (hk : w.kind = 0) (hn : w.next = .reading) (good : Nat → Bool) :
    Calls Tryz.prog 45 #[.pointer (some ⟨qb, 0, none⟩), .pointer (some ⟨nm, 0, none⟩)] W fun e W' => QTurned W W' qb sb nm nw name bad none (phaseR good r w M u) e := by
  have HP : phaseR good r w M u = (if getA M r.base % 256 = 0 then (r, { w with done := true, err := 7 }, M, tick M r.base u)
    else (r, { w with level := leastTo (getA M r.base % 256) 8 0, op := some (opR r { w with level := leastTo (getA M r.base % 256) 8 0 } 2 0), next := .robbing }, M, tick M r.base u)) := by
    unfold phaseR
    rw [hn]
  have c0 : W.cell? ⟨qb, 0, none⟩ = some (.pointer (some ⟨sb, 0, none⟩)) := by rw [Blk.cell h.wk]; rfl
  have c6 : W.cell? ⟨qb, 6, none⟩ = some (.int .i64 0) := by rw [Blk.cell h.wk]; rfl
  have s0 : W.cell? ⟨sb, 0, none⟩ = some (.int .i64 r.base) := by rw [Blk.cell h.rk]; rfl
  have HL := Lib.hid (rload_any nm nw M u W h.mem r.base)
  have hsm := h.mem.small.getA r.base
  have HH := Lib.hid (QTr.start h)
  have HDN := Lib.hid hd
  have HX := Lib.hid hx
  have HK0 := Lib.hid hk
  have HOP := Lib.hid hop
  obtain ⟨m, hm⟩ : ∃ m, m = getA M r.base := ⟨_, rfl⟩
  rw [← hm] at HP HL hsm
  have hb1 : bits .and .u64 (m : Int) 255 = ((m % 256 : Nat) : Int) := by
    have := bits_and_u64_nat m 255 hsm (by omega)
    rw [show ((255 : Nat) : Int) = 255 from rfl] at this
    rw [this, show (255 : Nat) = 2 ^ 8 - 1 from rfl, Nat.and_two_pow_sub_one_eq_mod]
  obtain ⟨s, hs⟩ : ∃ s, s = m % 256 := ⟨_, rfl⟩
  have hs256 : s < 256 := by omega
  rw [← hs] at HP hb1
  obtain ⟨S, hS⟩ : ∃ S, S = phaseR good r w M u := ⟨_, rfl⟩
  rw [← hS]
  rw [← hS] at HP
  have HPS := Lib.hid HP
  clear HP hS h hd hx hk hop hm hs hn hsm
  go_enter Tryz.func45, Tryz.ntmps45
  go_wp2_with fail
  refine HL.out.mono ?_
  rintro e w1 ⟨rfl, M1, C1⟩
  have HT := Lib.hid (HH.out.access M1 (C1.mono (by intro g hg; left; simp at hg ⊢; left; exact hg)))
  clear HL M1 C1 c0 s0 c6
  by_cases h0 : s = 0
  · have e0 : ((s : Int) == 0) = true := by simp [h0]
    have H0 := Lib.hid h0
    have HE := Lib.hid (qend_any qb sb name xq bad 0 none w 7 w1 HT.out.rig.wk)
    clear h0 hs256
    go_wp2_with (go_at_call 67; refine HE.out.mono ?_; rintro e w5 ⟨rfl, B5, C5⟩; have HZ := Lib.hid (HT.out.end_ 7 B5 C5); clear B5 C5)
    (first | go_end0 | refine bodyPost_ret (results_none rfl _ _ _) rfl ?_ | (rw [Exit.noGoto_normal]; go_wp2_with fail; (first | go_end0 | refine bodyPost_ret (results_none rfl _ _ _) rfl ?_)) | (rw [Exit.noGoto_normal]; (first | go_end0 | refine bodyPost_ret (results_none rfl _ _ _) rfl ?_)))
    rw [HPS.out, if_pos H0.out]
    refine HZ.out.fin ?_ ?_ ?_ ?_ ?_ rfl ?_ ?_
    · exact rfl
    · exact HZ.out.rig.kind
    · exact (fun h => by simp at h)
    · exact HZ.out.rig.steps
    · exact HOP.out
    · exact (fun h => by simp at h)
    · exact (fun h => by simp at h)
  · have e0 : ((s : Int) == 0) = false := by simp; omega
    have H0 := Lib.hid h0
    have HLE := Lib.hid (fun w => show Calls Tryz.prog 73 #[.int .u64 (s : Nat)] w fun e w' => e = .returned (.int .i64 ((leastTo s 8 0 : Nat) : Int)) ∧ Chg [] w w' from by rw [← least256 ⟨s, hs256⟩ h0]; exact qleast_any s (by omega) w)
    have HL8 := Lib.hid (show leastTo s 8 0 < 8 from by
      have := least256 ⟨s, hs256⟩ h0
      exact leastTo_lt8 ⟨s, hs256⟩ h0)
    obtain ⟨l, hl⟩ : ∃ l, l = leastTo s 8 0 := ⟨_, rfl⟩
    rw [← hl] at HLE HL8 HPS
    clear h0 hs256 hl
    have y3 : ∀ W1, Chg [] w1 W1 → W1.cell? ⟨qb, 3, none⟩ = some (.int .i64 (w.level : Nat)) ∧ W1.frozen? ⟨qb, 3, none⟩ = false := fun W1 C => ⟨(HT.out.keep C).cell 3, (HT.out.keep C).frozen 3⟩
    have HY3 := Lib.hid y3
    clear y3
    go_upto_region 9 with (go_at_call 73; refine (HLE.out _).mono ?_; rintro e w2 ⟨rfl, C2⟩; have HT2 := Lib.hid (HT.out.keep C2); obtain ⟨c3, z3⟩ := HY3.out _ C2; clear C2)
    have HT4 := Lib.hid (HT2.out.own (w' := { w with level := l }) (Blk.setCell HT2.out.rig.wk 3 (.int .i64 (l : Nat))) ((Chg.refl _ _).setCell (.inl (by simp)) _) HT2.out.rig.kind (fun _ => HL8.out) HT2.out.rig.steps)
    obtain ⟨w4, hw4⟩ : ∃ q, q = w2.setCell ⟨qb, 3, none⟩ (.int .i64 (l : Nat)) := ⟨_, rfl⟩
    rw [← hw4] at HT4 ⊢
    clear hw4 c3 z3 HT2 HY3 HT
    have c6 : w4.cell? ⟨qb, 6, none⟩ = some (.int .i64 0) := HT4.out.cell 6
    have z6 := HT4.out.frozen 6
    go_upto_region 10 with (fail)
    have HT3 := Lib.hid (HT4.out.at1 6)
    obtain ⟨w3, hw3⟩ : ∃ q, q = w4.setCell ⟨qb, 6, none⟩ (.int .i64 6) := ⟨_, rfl⟩
    have HT3 : Hid (QTr W w3 qb sb nm nw name xq bad 6 none none none r { w with level := l } M (tick M r.base u)) := by rw [hw3]; exact HT3
    rw [← hw3]
    clear hw3 c6 z6 HT4
    obtain ⟨at_, hat⟩ : ∃ a, a = r.at 0 l := ⟨_, rfl⟩
    have HAE := Lib.hid hat
    have HB := Lib.hid (show -100 ≤ at_ ∧ at_ ≤ 1000000 by rw [hat]; exact atOk HT3.out.rig.ok (by omega) HL8.out)
    have HAT := Lib.hid (fun (w' : World) (R : IsSb w' sb r) => show Calls Tryz.prog 52 #[.pointer (some ⟨sb, 0, none⟩), .int .i64 (l : Nat), .int .i64 0] w' fun e W' => e = .returned (.agg #[.int .i64 at_, .int .i64 (r.cap : Nat)]) ∧ Chg [] w' W' from by rw [hat]; exact qat_any sb r 0 l w' R HT3.out.rig.ok (by omega) HL8.out)
    have k3 : w3.cell? ⟨qb, 0, none⟩ = some (.pointer (some ⟨sb, 0, none⟩)) ∧ w3.cell? ⟨qb, 3, none⟩ = some (.int .i64 (l : Nat)) := ⟨HT3.out.cell 0, HT3.out.cell 3⟩
    have HZ := Lib.hid (fun (W1 : World) (C : Chg [] w3 W1) => show W1.cell? ⟨qb, 7, none⟩ = some (.pointer none) ∧ W1.frozen? ⟨qb, 7, none⟩ = false from ⟨(HT3.out.keep C).cell 7, (HT3.out.keep C).frozen 7⟩)
    have HK3 := Lib.hid (fun (W1 : World) (C : Chg [] w3 W1) => show W1.cell? ⟨qb, 0, none⟩ = some (.pointer (some ⟨sb, 0, none⟩)) ∧ W1.cell? ⟨qb, 3, none⟩ = some (.int .i64 (l : Nat)) from ⟨(HT3.out.keep C).cell 0, (HT3.out.keep C).cell 3⟩)
    have HK7 := Lib.hid (fun (W1 : World) (v : Value) (C : Chg [] w3 W1) => show (W1.setCell ⟨qb, 7, none⟩ v).cell? ⟨qb, 0, none⟩ = some (.pointer (some ⟨sb, 0, none⟩)) ∧ (W1.setCell ⟨qb, 7, none⟩ v).cell? ⟨qb, 3, none⟩ = some (.int .i64 (l : Nat)) from by
      have hb := Blk.setCell (HT3.out.keep C).rig.wk 7 v
      exact ⟨by rw [Blk.cell hb]; rfl, by rw [Blk.cell hb]; rfl⟩)
    clear hat
    go_region_held3 (fun w' => w'.cell? ⟨qb, 0, none⟩ = some (.pointer (some ⟨sb, 0, none⟩)) ∧ w'.cell? ⟨qb, 3, none⟩ = some (.int .i64 (l : Nat))) (first | assumption | exact k3 | exact HK3.out _ (HC5.out.alloc _) | exact HK7.out _ _ (HC5.out.alloc _) | fail)
      (first | (go_at_call 52; refine (HAT.out _ (Blk.chg HT3.out.rig.rk (Chg.refl [] _).drew (by simp))).mono ?_; rintro e w5 ⟨rfl, C5⟩; have k5 := HK3.out w5 C5.undrew; have HC5 := Lib.hid C5.undrew; obtain ⟨p7, q7⟩ := HZ.out (w5.alloc (.cells #[.int .i64 at_, .int .i64 (r.cap : Nat), .int .i64 2, .int .i64 0, .int .u64 0, .int .u64 0, .int .u64 0, .bool false, .bool false, .int .i64 0] 108)) (HC5.out.alloc _); clear C5) | fail)
    go_wp2_with fail
    (first | go_end0 | refine bodyPost_ret (results_none rfl _ _ _) rfl ?_ | (rw [Exit.noGoto_normal]; go_wp2_with fail; (first | go_end0 | refine bodyPost_ret (results_none rfl _ _ _) rfl ?_)) | (rw [Exit.noGoto_normal]; (first | go_end0 | refine bodyPost_ret (results_none rfl _ _ _) rfl ?_)))
    have HT5 := Lib.hid ((HT3.out.keep (HC5.out.alloc (.cells #[.int .i64 at_, .int .i64 (r.cap : Nat), .int .i64 2, .int .i64 0, .int .u64 0, .int .u64 0, .int .u64 0, .bool false, .bool false, .int .i64 0] 108))).op (o := newD at_ r.cap 2 0) (Blk.new w5 #[.int .i64 at_, .int .i64 (r.cap : Nat), .int .i64 2, .int .i64 0, .int .u64 0, .int .u64 0, .int .u64 0, .bool false, .bool false, .int .i64 0] 108) (OkOp.new HB.out.1 HB.out.2 HT3.out.rig.ok.cap (by omega) (by omega)) (by have := HT3.out.size; have := HC5.out.size; omega))
    rw [HPS.out, if_neg H0.out]
    rw [show opR r { w with level := l } 2 0 = newD at_ r.cap 2 0 from by unfold opR; rw [show ({ w with level := l } : RWork).kind = 0 from HK0.out, HAE.out]]
    refine HT5.out.fin ?_ ?_ ?_ ?_ ?_ rfl ?_ ?_
    · exact rfl
    · exact HT5.out.rig.kind
    · exact HT5.out.rig.level
    · exact HT5.out.rig.steps
    · exact rfl
    · exact (fun _ => ⟨rfl, HX.out⟩)
    · exact (fun _ => HX.out)
set_option maxRecDepth 8000 in
set_option maxHeartbeats 16000000 in
theorem qrob_step (W : World) (qb sb nm nw name xq : Nat) (bad : Value) (ob : Option Nat) (r : RRack) (w : RWork) (M : List Nat) (u : Nat) (h : Qig W qb sb nm nw name xq bad 6 ob w.op r w M u) (hd : w.done = false) (hx : xq = w.x) (o : DOp) (ho : w.op = some o) (hn : w.next = .robbing) (hk2 : o.kind = 2) (hnd : o.done = false) (good : Nat → Bool) :
    Calls Tryz.prog 45 #[.pointer (some ⟨qb, 0, none⟩), .pointer (some ⟨nm, 0, none⟩)] W fun e W' => QTurned W W' qb sb nm nw name bad ob (phaseR good r w M u) e := by
  have HP : phaseR good r w M u = (if (stepD o M u).1.done = true then (r, { w with op := some (stepD o M u).1, x := (resD (stepD o M u).1).1, done := true, err := (resD (stepD o M u).1).2 }, (stepD o M u).2.1, (stepD o M u).2.2)
      else if 3 ≤ (stepD o M u).1.steps then (r, { w with op := some (stepD o M u).1, next := .minding }, (stepD o M u).2.1, (stepD o M u).2.2)
      else (r, { w with op := some (stepD o M u).1 }, (stepD o M u).2.1, (stepD o M u).2.2)) := by
    unfold phaseR
    rw [hn, ho]
    rfl
  obtain ⟨g, rfl, a1, a2, a3, a4, a5, a6⟩ := h.opOf ho
  have c0 : W.cell? ⟨qb, 0, none⟩ = some (.pointer (some ⟨sb, 0, none⟩)) := by rw [Blk.cell h.wk]; rfl
  have c6 : W.cell? ⟨qb, 6, none⟩ = some (.int .i64 6) := by rw [Blk.cell h.wk]; rfl
  have c7 : W.cell? ⟨qb, 7, none⟩ = some (.pointer (some ⟨g, 0, none⟩)) := by rw [Blk.cell h.wk]; rfl
  have HS := Lib.hid (rstep_any g o W a1 a2 nm nw M u h.mem a5 a6)
  have hok := okStep (W := M) (u := u) a2 h.mem.small
  have hkd := stepD_kind o M u
  have hs3 := steal_three M u hk2 hnd
  obtain ⟨o', ho'⟩ : ∃ o', o' = (stepD o M u).1 := ⟨_, rfl⟩
  obtain ⟨M', hM'⟩ : ∃ M', M' = (stepD o M u).2.1 := ⟨_, rfl⟩
  obtain ⟨u', hu'⟩ : ∃ u', u' = (stepD o M u).2.2 := ⟨_, rfl⟩
  unfold RStepped at HS
  rw [← ho', ← hM', ← hu'] at HS HP
  rw [← ho'] at hok hkd hs3
  obtain ⟨S, hS⟩ : ∃ S, S = phaseR good r w M u := ⟨_, rfl⟩
  rw [← hS]
  rw [← hS] at HP
  have HPS := Lib.hid HP
  have HH := Lib.hid (QTr.start h)
  have NE := Lib.hid (And.intro a3 a4)
  have HDN := Lib.hid hd
  have HX := Lib.hid hx
  have HOK := Lib.hid hok
  have HNX := Lib.hid hn
  have HS3 := Lib.hid hs3
  clear HP hS ho' hM' hu' a1 a2 a3 a4 a5 a6 h hd hok hkd hn hx ho hs3 hk2 hnd
  go_enter Tryz.func45, Tryz.ntmps45
  go_wp2_with fail
  refine HS.out.mono ?_
  rintro e w1 ⟨rfl, O1, M1, C1⟩
  have HT := Lib.hid (HH.out.stepped rfl O1 HOK.out M1 C1 NE.out.1 NE.out.2)
  have HO1 := Lib.hid O1
  clear HS C1 c7 O1 M1 c6 c0
  cases hdn : o'.done with
  | false =>
    have h3 := HS3.out hdn
    rw [hdn] at HPS
    clear hdn
    obtain ⟨n, hn⟩ : ∃ n, n = o'.steps := ⟨_, rfl⟩
    have c7 : w1.cell? ⟨qb, 7, none⟩ = some (.pointer (some ⟨g, 0, none⟩)) := HT.out.cell 7
    have e3 : w1.cell? ⟨g, 3, none⟩ = some (.int .i64 (n : Nat)) := by rw [hn]; exact HO1.out.c3
    rw [← hn] at HPS h3
    clear hn
    by_cases h3' : n = 3
    · subst h3'
      have e3' : w1.cell? ⟨g, 3, none⟩ = some (.int .i64 3) := e3
      have c6 : w1.cell? ⟨qb, 6, none⟩ = some (.int .i64 6) := HT.out.cell 6
      have z6 := HT.out.frozen 6
      clear e3 h3
      go_wp2_with fail
      (first | go_end0 | refine bodyPost_ret (results_none rfl _ _ _) rfl ?_ | (rw [Exit.noGoto_normal]; go_wp2_with fail; (first | go_end0 | refine bodyPost_ret (results_none rfl _ _ _) rfl ?_)) | (rw [Exit.noGoto_normal]; (first | go_end0 | refine bodyPost_ret (results_none rfl _ _ _) rfl ?_)))
      rw [HPS.out, if_neg (by simp), if_pos (by omega)]
      refine (HT.out.at1 3).fin ?_ ?_ ?_ ?_ ?_ rfl ?_ ?_
      · exact rfl
      · exact HT.out.rig.kind
      · exact HT.out.rig.level
      · exact HT.out.rig.steps
      · exact rfl
      · exact (fun _ => ⟨rfl, HX.out⟩)
      · exact (fun _ => HX.out)
    · have f3 : ((n : Int) == 3) = false := by simp; omega
      have HN3 := Lib.hid (show ¬ 3 ≤ n by omega)
      clear h3 h3'
      go_wp2_with fail
      (first | go_end0 | refine bodyPost_ret (results_none rfl _ _ _) rfl ?_ | (rw [Exit.noGoto_normal]; go_wp2_with fail; (first | go_end0 | refine bodyPost_ret (results_none rfl _ _ _) rfl ?_)) | (rw [Exit.noGoto_normal]; (first | go_end0 | refine bodyPost_ret (results_none rfl _ _ _) rfl ?_)))
      rw [HPS.out, if_neg (by simp), if_neg HN3.out]
      refine HT.out.fin ?_ ?_ ?_ ?_ ?_ rfl ?_ ?_
      · exact rfl
      · exact HT.out.rig.kind
      · exact HT.out.rig.level
      · exact HT.out.rig.steps
      · exact rfl
      · exact (fun _ => ⟨by unfold atQ; rw [show ({ w with op := some o' } : RWork).next = .robbing from HNX.out], HX.out⟩)
      · exact (fun _ => HX.out)
  | true =>
    have HRD := Lib.hid (resD_err hdn)
    have HR1 := Lib.hid (fun e => resD_won hdn e)
    rw [hdn] at HPS
    clear hdn
    obtain ⟨er, her⟩ : ∃ er, er = o'.err := ⟨_, rfl⟩
    obtain ⟨xr, hxr⟩ : ∃ xr, xr = o'.x := ⟨_, rfl⟩
    have c7 : w1.cell? ⟨qb, 7, none⟩ = some (.pointer (some ⟨g, 0, none⟩)) := HT.out.cell 7
    have e6 : w1.cell? ⟨g, 6, none⟩ = some (.int .u64 (xr : Nat)) := by rw [hxr]; exact HO1.out.c6
    have HER := Lib.hid her
    have HXR := Lib.hid hxr
    rw [HRD.out, ← her] at HPS
    clear her hxr
    have c2 := HT.out.cell 2
    have z2 := HT.out.frozen 2
    simp only [qwCells] at c2
    go_upto_region 14 with (fail)
    have HT2 := Lib.hid (HT.out.set 2 (.int .u64 (xr : Nat)) (qw_s2 HT.out.rig.wk xr) rfl rfl rfl rfl)
    have C2 : Chg [qb] w1 (w1.setCell ⟨qb, 2, none⟩ (.int .u64 (xr : Nat))) := (Chg.refl _ _).setCell (.inl (by simp)) _
    have HO2 := Lib.hid (HO1.out.chg C2 (by simp; exact NE.out.1))
    obtain ⟨w2, hw2⟩ : ∃ w2, w2 = w1.setCell ⟨qb, 2, none⟩ (.int .u64 (xr : Nat)) := ⟨_, rfl⟩
    rw [← hw2] at HT2 HO2 ⊢
    clear hw2 c2 z2 C2 c7 e6
    have c7 : w2.cell? ⟨qb, 7, none⟩ = some (.pointer (some ⟨g, 0, none⟩)) := HT2.out.cell 7
    have e9 : w2.cell? ⟨g, 9, none⟩ = some (.int .i64 er) := by rw [HER.out]; exact HO2.out.c9
    have HE := Lib.hid (qend_any qb sb name xr bad 6 (some g) w er w2 HT2.out.rig.wk)
    go_wp2_with (go_at_call 67; refine HE.out.mono ?_; rintro e w3 ⟨rfl, B3, C3⟩; have HZ := Lib.hid (HT2.out.end_ er B3 C3); clear B3 C3)
    (first | go_end0 | refine bodyPost_ret (results_none rfl _ _ _) rfl ?_ | (rw [Exit.noGoto_normal]; go_wp2_with fail; (first | go_end0 | refine bodyPost_ret (results_none rfl _ _ _) rfl ?_)) | (rw [Exit.noGoto_normal]; (first | go_end0 | refine bodyPost_ret (results_none rfl _ _ _) rfl ?_)))
    rw [HPS.out, if_pos (by trivial)]
    refine HZ.out.fin ?_ ?_ ?_ ?_ ?_ rfl ?_ ?_
    · exact rfl
    · exact HZ.out.rig.kind
    · exact (fun h => by simp at h)
    · exact HZ.out.rig.steps
    · exact rfl
    · exact (fun h => by simp at h)
    · exact (fun h => by rw [HXR.out]; exact (HR1.out (by rw [← HER.out]; exact h)).symm)
set_option maxRecDepth 8000 in
set_option maxHeartbeats 16000000 in
theorem qrob_ask (W : World) (qb sb nm nw name xq : Nat) (bad : Value) (ob : Option Nat) (r : RRack) (w : RWork) (M : List Nat) (u : Nat) (h : Qig W qb sb nm nw name xq bad 3 ob w.op r w M u) (hd : w.done = false) (hx : xq = w.x) (o : DOp) (ho : w.op = some o) (hn : w.next = .minding) (l0 : List Nat) (hrd : ∀ W1, Chg (qb :: sb :: nm :: nw :: ob.toList) W W1 → Reads W1 bad (words l0)) (good : Nat → Bool) (hgood : good o.x = !decide (o.x ∈ l0)) :
    Calls Tryz.prog 45 #[.pointer (some ⟨qb, 0, none⟩), .pointer (some ⟨nm, 0, none⟩)] W fun e W' => QTurned W W' qb sb nm nw name bad ob (phaseR good r w M u) e := by
  have HP : phaseR good r w M u = (if good o.x = true then (r, { w with next := .robbing }, M, u) else (r, { w with next := .robbing, done := true, err := 10 }, M, u)) := by
    unfold phaseR
    rw [hn, ho]
    rfl
  rw [hgood] at HP
  obtain ⟨g, rfl, a1, a2, a3, a4, a5, a6⟩ := h.opOf ho
  have c6 : W.cell? ⟨qb, 6, none⟩ = some (.int .i64 3) := by rw [Blk.cell h.wk]; rfl
  have z6 : W.frozen? ⟨qb, 6, none⟩ = false := Blk.frozen h.wk _
  obtain ⟨S, hS⟩ : ∃ S, S = phaseR good r w M u := ⟨_, rfl⟩
  rw [← hS]
  rw [← hS] at HP
  obtain ⟨x, hxx⟩ : ∃ x, x = o.x := ⟨_, rfl⟩
  have HXX := Lib.hid hxx
  rw [← hxx] at HP
  have HPS := Lib.hid HP
  have HO := Lib.hid a1
  have HH := Lib.hid (QTr.start h)
  have HRD := Lib.hid hrd
  have HX := Lib.hid hx
  have HNE := Lib.hid a3
  clear HP hS h hd hx ho hn hrd hgood a1 a2 a3 a4 a5 a6 hxx
  go_enter Tryz.func45, Tryz.ntmps45
  go_upto_region 2 with (fail)
  have HT := Lib.hid (HH.out.at1 6)
  have C1 : Chg [qb] W (W.setCell ⟨qb, 6, none⟩ (.int .i64 6)) := (Chg.refl _ _).setCell (.inl (by simp)) _
  have e5 : (W.setCell ⟨qb, 6, none⟩ (.int .i64 6)).cell? ⟨g, 6, none⟩ = some (.int .u64 (x : Nat)) := by rw [HXX.out]; exact (HO.out.chg C1 (by simp; exact HNE.out)).c6
  obtain ⟨w1, hw1⟩ : ∃ q, q = W.setCell ⟨qb, 6, none⟩ (.int .i64 6) := ⟨_, rfl⟩
  have HT : Hid (QTr W w1 qb sb nm nw name xq bad 6 (some g) (some g) w.op r w M u) := by rw [hw1]; exact HT
  rw [← hw1] at e5 ⊢
  clear hw1 c6 z6 C1
  have c7 : w1.cell? ⟨qb, 7, none⟩ = some (.pointer (some ⟨g, 0, none⟩)) := HT.out.cell 7
  have HBD := Lib.hid (qbad_any qb sb name xq bad 6 (some g) w l0 x w1 HT.out.rig.wk (HRD.out _ HT.out.chg))
  have HE := Lib.hid (qend_any qb sb name xq bad 6 (some g) w 10 w1 HT.out.rig.wk)
  obtain ⟨b, hb⟩ : ∃ b, b = decide (x ∈ l0) := ⟨_, rfl⟩
  rw [← hb] at HBD HPS
  clear hb
  cases b with
  | false =>
    go_wp2_with (go_at_call 70; refine HBD.out.mono ?_; rintro e w3 ⟨rfl, rfl⟩)
    (first | go_end0 | refine bodyPost_ret (results_none rfl _ _ _) rfl ?_ | (rw [Exit.noGoto_normal]; go_wp2_with fail; (first | go_end0 | refine bodyPost_ret (results_none rfl _ _ _) rfl ?_)) | (rw [Exit.noGoto_normal]; (first | go_end0 | refine bodyPost_ret (results_none rfl _ _ _) rfl ?_)))
    rw [HPS.out, if_pos (by rfl)]
    refine HT.out.fin ?_ ?_ ?_ ?_ ?_ rfl ?_ ?_
    · exact rfl
    · exact HT.out.rig.kind
    · exact HT.out.rig.level
    · exact HT.out.rig.steps
    · exact rfl
    · exact (fun _ => ⟨rfl, HX.out⟩)
    · exact (fun _ => HX.out)
  | true =>
    go_wp2_with (first
      | (go_at_call 70; refine HBD.out.mono ?_; rintro e w3 ⟨rfl, rfl⟩; clear HBD)
      | (go_at_call 67; refine HE.out.mono ?_; rintro e w5 ⟨rfl, B5, C5⟩; have HZ := Lib.hid (HT.out.end_ 10 B5 C5); clear B5 C5)
      | fail)
    (first | go_end0 | refine bodyPost_ret (results_none rfl _ _ _) rfl ?_ | (rw [Exit.noGoto_normal]; go_wp2_with fail; (first | go_end0 | refine bodyPost_ret (results_none rfl _ _ _) rfl ?_)) | (rw [Exit.noGoto_normal]; (first | go_end0 | refine bodyPost_ret (results_none rfl _ _ _) rfl ?_)))
    rw [HPS.out, if_neg (by simp)]
    refine HZ.out.fin ?_ ?_ ?_ ?_ ?_ rfl ?_ ?_
    · exact rfl
    · exact HZ.out.rig.kind
    · exact (fun h => by simp at h)
    · exact HZ.out.rig.steps
    · exact rfl
    · exact (fun h => by simp at h)
    · exact (fun h => by simp at h)
end Go.Proofs.YtjdbgohfedjifaaGreatDoor
