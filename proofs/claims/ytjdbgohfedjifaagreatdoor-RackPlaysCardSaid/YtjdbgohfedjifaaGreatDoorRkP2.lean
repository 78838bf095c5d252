/- rack: pushing (refused), sweeping, again, popping, robbing, reading. Printed by gen_phase.py. -/
import Derived.Test.YtjdbgohfedjifaaGreatDoorRkC
import Derived.Test.YtjdbgohfedjifaaGreatDoorRk9
namespace Bosun
open Go
theorem stepD_kind (o : DOp) (W : List Nat) (u : Nat) : (stepD o W u).1.kind = o.kind := by
  unfold stepD
  split
  · rfl
  · split <;> (try rfl) <;> (split <;> (try rfl) <;> (split <;> rfl))
theorem stepD_pos {o : DOp} (W : List Nat) (u : Nat) (h : o.done = false) : 1 ≤ (stepD o W u).1.steps := by
  unfold stepD
  rw [if_neg (by rw [h]; simp)]
  split <;> first | exact Nat.succ_le_succ (Nat.zero_le _) | (split <;> first | exact Nat.succ_le_succ (Nat.zero_le _) | (split <;> exact Nat.succ_le_succ (Nat.zero_le _)))
theorem ahd_wraps (a b : Nat) : IntKind.i64.wrap (IntKind.u64.wrap ((a : Int) - (b : Int))) = ahd a b := by unfold ahd; rw [IntKind.wrap_i64, IntKind.wrap_i64, IntKind.wrap_u64]; omega
theorem rdone_not {o : DOp} (h : o.done = false) : resD o = (0, 14) := by unfold resD; rw [if_pos h]
end Bosun
namespace Go.Proofs.YtjdbgohfedjifaaGreatDoor
open Go.RowKit Bosun
section
variable {W0 W : World} {wb rb bm bw : Nat} {gv : Value} {ob0 ob : Option Nat} {r : RRack} {w : RWork} {M : List Nat} {u : Nat}
theorem Tr.next1 (h : Tr W0 W wb rb bm bw gv ob0 ob r w M u) (n : RNext) : Tr W0 (W.setCell ⟨wb, 1, none⟩ (nextV n)) wb rb bm bw gv ob0 ob r { w with next := n } M u :=
  h.next n (wk_s1 h.rig.wk n) ((Chg.refl _ _).setCell (.inl (by simp)) _)
theorem Tr.set (h : Tr W0 W wb rb bm bw gv ob0 ob r w M u) (j : Nat) (v : Value) {w' : RWork} (B : IsWk (W.setCell ⟨wb, j, none⟩ v) wb rb gv ob w') (ho : w'.op = w.op) (hk : w'.kind = w.kind) (hl : w'.level = w.level) (hd : w'.done = w.done) (hs : w'.steps = w.steps) : Tr W0 (W.setCell ⟨wb, j, none⟩ v) wb rb bm bw gv ob0 ob r w' M u :=
  h.own B ((Chg.refl _ _).setCell (.inl (by simp)) _) ho (by rw [hk]; exact h.rig.kind) (by rw [hd, hl]; exact h.rig.level) (by rw [hs]; exact h.rig.steps)
end
theorem wk_s9 {W : World} {wb rb : Nat} {gv : Value} {ob : Option Nat} {w : RWork} (h : IsWk W wb rb gv ob w) (b : Bool) : IsWk (W.setCell ⟨wb, 9, none⟩ (.bool b)) wb rb gv ob { w with full := b } := Blk.setCell h 9 _
theorem wk_s10 {W : World} {wb rb : Nat} {gv : Value} {ob : Option Nat} {w : RWork} (h : IsWk W wb rb gv ob w) (b : Bool) : IsWk (W.setCell ⟨wb, 10, none⟩ (.bool b)) wb rb gv ob { w with holds := b } := Blk.setCell h 10 _
theorem wk_s7 {W : World} {wb rb : Nat} {gv : Value} {ob : Option Nat} {w : RWork} (h : IsWk W wb rb gv ob w) (x : Nat) : IsWk (W.setCell ⟨wb, 7, none⟩ (.int .u64 (x : Nat))) wb rb gv ob { w with from_ := x } := Blk.setCell h 7 _
theorem wk_s8 {W : World} {wb rb : Nat} {gv : Value} {ob : Option Nat} {w : RWork} (h : IsWk W wb rb gv ob w) (x : Nat) : IsWk (W.setCell ⟨wb, 8, none⟩ (.int .u64 (x : Nat))) wb rb gv ob { w with swept := x } := Blk.setCell h 8 _
set_option maxRecDepth 4000 in
set_option maxHeartbeats 8000000 in
theorem pushfull_any (W : World) (wb rb bm bw : Nat) (gv : Value) (ob : Option Nat) (r : RRack) (w : RWork) (M : List Nat) (u : Nat) (h : Rig W wb rb bm bw gv ob r w M u) (hd : w.done = false) (o : DOp) (ho : w.op = some o)
    (hn : w.next = .pushing) (good : Nat → Bool) (hf1 : (stepD o M u).1.done = true) (hf2 : (stepD o M u).1.err = 6) (hk0 : o.kind = 0) (hnd : o.done = false) :
    Calls Tryz.prog 60 #[.pointer (some ⟨wb, 0, none⟩), .pointer (some ⟨bm, 0, none⟩)] W fun e W' => Turned W W' wb rb bm bw gv ob (phaseR good r w M u) e := by
  have HP : phaseR good r w M u = (if w.full = true then (r, { w with op := some (stepD o M u).1, done := true, err := 6 }, (stepD o M u).2.1, (stepD o M u).2.2)
      else (r, { w with full := true, from_ := (stepD o M u).1.b, op := some (opR r w 2 0), next := .sweeping }, (stepD o M u).2.1, (stepD o M u).2.2)) := by
    unfold phaseR
    rw [hn, ho]
    simp only [Option.getD_some]
    rw [if_neg (by rw [hf1]; simp), if_pos hf2]
  obtain ⟨g, rfl, a1, a2, a3, a4, a5, a6⟩ := h.opOf ho
  have c6 : W.cell? ⟨wb, 6, none⟩ = some (.pointer (some ⟨g, 0, none⟩)) := by rw [Blk.cell h.wk]; rfl
  have HS := Lib.hid (step_any g o W a1 a2 bm bw M u h.mem a5 a6)
  have hok := okStep (W := M) (u := u) a2 h.mem.small
  have hkd := stepD_kind o M u
  have hps := stepD_pos M u hnd
  obtain ⟨o', ho'⟩ : ∃ o', o' = (stepD o M u).1 := ⟨_, rfl⟩
  obtain ⟨M', hM'⟩ : ∃ M', M' = (stepD o M u).2.1 := ⟨_, rfl⟩
  obtain ⟨u', hu'⟩ : ∃ u', u' = (stepD o M u).2.2 := ⟨_, rfl⟩
  unfold Stepped at HS
  rw [← ho', ← hM', ← hu'] at HS HP
  rw [← ho'] at hok hkd hf1 hf2 hps
  obtain ⟨S, hS⟩ : ∃ S, S = phaseR good r w M u := ⟨_, rfl⟩
  rw [← hS]
  rw [← hS] at HP
  have HPS := Lib.hid HP
  have HH := Lib.hid (Tr.start h)
  have NE := Lib.hid (And.intro a3 a4)
  have HDN := Lib.hid hd
  have HOK := Lib.hid hok
  have he6 : (resD o').2 = 6 := by rw [resD_err hf1]; exact hf2
  have HTEL := Lib.hid (show telD 0 1 (·.b) o' = (o'.b, true) by unfold telD; rw [if_neg (by omega)])
  have HRES := Lib.hid (fun W1 (O : IsOp W1 g o') => result_any g o' W1 O)
  rw [he6] at HRES
  have HBOT := Lib.hid (fun W1 (O : IsOp W1 g o') => dbottom_any g o' W1 O (by omega))
  rw [HTEL.out] at HBOT
  obtain ⟨b', hb'⟩ : ∃ b', b' = o'.b := ⟨_, rfl⟩
  rw [← hb'] at HBOT HPS
  obtain ⟨rx, hrx⟩ : ∃ rx, rx = (resD o').1 := ⟨_, rfl⟩
  rw [← hrx] at HRES
  clear hrx hb' he6 HTEL
  clear HP hS ho' hM' hu' a1 a2 a3 a4 a5 a6 h hd hok hkd ho hn hf2 hk0 hnd hps
  go_enter Tryz.func60, Tryz.ntmps60
  go_wp2_with fail
  refine HS.out.mono ?_
  rintro e w1 ⟨rfl, O1, M1, C1⟩
  have HT := Lib.hid (HH.out.stepped rfl O1 HOK.out M1 C1 NE.out.1 NE.out.2)
  have HO1 := Lib.hid O1
  clear HS C1 c6 O1 M1
  rw [hf1]
  clear hf1
  have c6 := HT.out.cell 6
  have c9 := HT.out.cell 9
  simp only [wkCells] at c6 c9
  obtain ⟨fl, hfl⟩ : ∃ fl, fl = w.full := ⟨_, rfl⟩
  have HFL := Lib.hid hfl
  have c9 : w1.cell? ⟨wb, 9, none⟩ = some (.bool fl) := by rw [hfl]; exact HT.out.cell 9
  have HE := Lib.hid (fun W1 (B : IsWk W1 wb rb gv (some g) { w with op := some o' }) => wend_any wb rb gv (some g) { w with op := some o' } 6 W1 B)
  clear hfl
  cases fl with
  | true =>
    go_wp2_with (first
      | (go_at_call 94; refine (HRES.out _ HO1.out).mono ?_; rintro e w2 ⟨rfl, C2⟩; have HT2 := Lib.hid (HT.out.keep C2); have k9 := ckp C2 c9; clear C2)
      | (go_at_call 83; refine (HE.out _ HT2.out.rig.wk).mono ?_; rintro e w3 ⟨rfl, B3, C3⟩; have HZ := Lib.hid (HT2.out.end_ 6 B3 C3); clear B3 C3)
      | fail)
    (first | go_end0 | refine bodyPost_ret (results_none rfl _ _ _) rfl ?_ | (rw [Exit.noGoto_normal]; go_wp2_with fail; (first | go_end0 | refine bodyPost_ret (results_none rfl _ _ _) rfl ?_)) | (rw [Exit.noGoto_normal]; (first | go_end0 | refine bodyPost_ret (results_none rfl _ _ _) rfl ?_)))
    rw [HPS.out, if_pos HFL.out.symm]
    exact HZ.out.fin rfl rfl
  | false =>
    go_upto_region 6 with (first
      | (go_at_call 94; refine (HRES.out _ HO1.out).mono ?_; rintro e w2 ⟨rfl, C2⟩; have HT2 := Lib.hid (HT.out.keep C2); have HO2 := Lib.hid (HO1.out.chg C2 (by simp)); have k9 := ckp C2 c9; have y9 := HT2.out.frozen 9; clear C2)
      | fail)
    have HT3 := Lib.hid (HT2.out.set 9 (.bool true) (wk_s9 HT2.out.rig.wk true) rfl rfl rfl rfl rfl)
    have HO3 := Lib.hid (HO2.out.chg (S := [wb]) ((Chg.refl _ _).setCell (a := ⟨wb, 9, none⟩) (.inl (by simp)) (.bool true)) (by simp; exact NE.out.1))
    obtain ⟨w3, hw3⟩ : ∃ w3, w3 = w2.setCell ⟨wb, 9, none⟩ (.bool true) := ⟨_, rfl⟩
    rw [← hw3] at HT3 HO3 ⊢
    clear hw3 k9 y9 c9 c6 HT HT2 HO1 HO2
    have c6 := HT3.out.cell 6
    have c7 := HT3.out.cell 7
    have z7 := HT3.out.frozen 7
    simp only [wkCells] at c6 c7
    go_upto_region 7 with (first
      | (go_at_call 95; refine (HBOT.out _ HO3.out).mono ?_; rintro e w4 ⟨rfl, rfl⟩)
      | fail)
    have HT5 := Lib.hid (HT3.out.set 7 (.int .u64 (b' : Nat)) (wk_s7 HT3.out.rig.wk b') rfl rfl rfl rfl rfl)
    obtain ⟨w5, hw5⟩ : ∃ w5, w5 = w3.setCell ⟨wb, 7, none⟩ (.int .u64 (b' : Nat)) := ⟨_, rfl⟩
    rw [← hw5] at HT5 ⊢
    clear hw5 c6 c7 z7 HT3 HO3
    have HD := Lib.hid (wdeque_any wb rb gv (some g) _ r _ HT5.out.rig.wk HT5.out.rig.rk HT5.out.rig.kind (HT5.out.rig.level HDN.out))
    go_wp2_with fail
    refine HD.out.mono ?_
    rintro e wa ⟨rfl, Ca⟩
    have HTa := Lib.hid (HT5.out.keep Ca)
    have HSS := Lib.hid (fun (g : World) => osteal_any (r.at w.kind w.level) r.cap g)
    clear Ca HD
    go_wp2_with fail
    refine (HSS.out _).mono ?_
    rintro e wz ⟨gn, rfl, Oz, Cz, gz⟩
    have HTb := Lib.hid (HTa.out.keep Cz)
    have d6 := HTb.out.cell 6
    have z6 := HTb.out.frozen 6
    have d1 := HTb.out.cell 1
    have z1 := HTb.out.frozen 1
    simp only [wkCells] at d6 d1
    have st1 := storeF6 wz (v := .pointer (some ⟨gn, 0, none⟩)) 96 d1 z1 (by decide)
    have HO := Lib.hid (And.intro Oz (show W.heap.size ≤ gn by have := HTa.out.size; omega))
    clear Oz Cz gz HSS
    go_wp2_with fail
    (first | go_end0 | refine bodyPost_ret (results_none rfl _ _ _) rfl ?_ | (rw [Exit.noGoto_normal]; go_wp2_with fail; (first | go_end0 | refine bodyPost_ret (results_none rfl _ _ _) rfl ?_)) | (rw [Exit.noGoto_normal]; (first | go_end0 | refine bodyPost_ret (results_none rfl _ _ _) rfl ?_)))
    rw [HPS.out, if_neg (by rw [← HFL.out]; simp)]
    exact ((HTb.out.op HO.out.1 (OkOp.new (HTb.out.opAt HDN.out).1 (HTb.out.opAt HDN.out).2 HTb.out.rig.ok.cap (by omega) (by omega)) HO.out.2).next1 .sweeping).fin rfl rfl
set_option maxRecDepth 4000 in
set_option maxHeartbeats 8000000 in
theorem again_any (W : World) (wb rb bm bw : Nat) (gv : Value) (ob : Option Nat) (r : RRack) (w : RWork) (M : List Nat) (u : Nat) (h : Rig W wb rb bm bw gv ob r w M u) (hd : w.done = false) (o : DOp) (ho : w.op = some o)
    (hn : w.next = .again) (good : Nat → Bool) :
    Calls Tryz.prog 130 #[.pointer (some ⟨wb, 0, none⟩), .pointer (some ⟨bm, 0, none⟩)] W fun e W' => Turned W W' wb rb bm bw gv ob (phaseR good r w M u) e := by
  have HP : phaseR good r w M u = (if (stepD o M u).1.done = true then (r, { w with holds := false, op := some (opR r w 2 0), next := .sweeping }, (stepD o M u).2.1, (stepD o M u).2.2)
      else (r, { w with op := some (stepD o M u).1 }, (stepD o M u).2.1, (stepD o M u).2.2)) := by
    unfold phaseR
    rw [hn, ho]
    rfl
  obtain ⟨g, rfl, a1, a2, a3, a4, a5, a6⟩ := h.opOf ho
  have c6 : W.cell? ⟨wb, 6, none⟩ = some (.pointer (some ⟨g, 0, none⟩)) := by rw [Blk.cell h.wk]; rfl
  have HS := Lib.hid (step_any g o W a1 a2 bm bw M u h.mem a5 a6)
  have hok := okStep (W := M) (u := u) a2 h.mem.small
  have hkd := stepD_kind o M u
  obtain ⟨o', ho'⟩ : ∃ o', o' = (stepD o M u).1 := ⟨_, rfl⟩
  obtain ⟨M', hM'⟩ : ∃ M', M' = (stepD o M u).2.1 := ⟨_, rfl⟩
  obtain ⟨u', hu'⟩ : ∃ u', u' = (stepD o M u).2.2 := ⟨_, rfl⟩
  unfold Stepped at HS
  rw [← ho', ← hM', ← hu'] at HS HP
  rw [← ho'] at hok hkd
  obtain ⟨S, hS⟩ : ∃ S, S = phaseR good r w M u := ⟨_, rfl⟩
  rw [← hS]
  rw [← hS] at HP
  have HPS := Lib.hid HP
  have HH := Lib.hid (Tr.start h)
  have NE := Lib.hid (And.intro a3 a4)
  have HDN := Lib.hid hd
  have HOK := Lib.hid hok
  clear HP hS ho' hM' hu' a1 a2 a3 a4 a5 a6 h hd hok hkd ho hn
  go_enter Tryz.func130, Tryz.ntmps130
  go_wp2_with fail
  refine HS.out.mono ?_
  rintro e w1 ⟨rfl, O1, M1, C1⟩
  have HT := Lib.hid (HH.out.stepped rfl O1 HOK.out M1 C1 NE.out.1 NE.out.2)
  have HO1 := Lib.hid O1
  clear HS C1 c6 O1 M1
  cases hdn : o'.done with
  | false =>
    rw [hdn] at HPS
    clear hdn
    go_wp2_with fail
    (first | go_end0 | refine bodyPost_ret (results_none rfl _ _ _) rfl ?_ | (rw [Exit.noGoto_normal]; go_wp2_with fail; (first | go_end0 | refine bodyPost_ret (results_none rfl _ _ _) rfl ?_)) | (rw [Exit.noGoto_normal]; (first | go_end0 | refine bodyPost_ret (results_none rfl _ _ _) rfl ?_)))
    rw [HPS.out, if_neg (by simp)]
    exact HT.out.fin rfl rfl
  | true =>
    rw [hdn] at HPS
    clear hdn
    have c10 := HT.out.cell 10
    have y10 := HT.out.frozen 10
    simp only [wkCells] at c10
    go_upto_region 2 with (fail)
    have HT3 := Lib.hid (HT.out.set 10 (.bool false) (wk_s10 HT.out.rig.wk false) rfl rfl rfl rfl rfl)
    obtain ⟨w3, hw3⟩ : ∃ w3, w3 = w1.setCell ⟨wb, 10, none⟩ (.bool false) := ⟨_, rfl⟩
    rw [← hw3] at HT3 ⊢
    clear hw3 c10 y10 HT HO1
    have HD := Lib.hid (wdeque_any wb rb gv (some g) _ r _ HT3.out.rig.wk HT3.out.rig.rk HT3.out.rig.kind (HT3.out.rig.level HDN.out))
    go_wp2_with fail
    refine HD.out.mono ?_
    rintro e wa ⟨rfl, Ca⟩
    have HTa := Lib.hid (HT3.out.keep Ca)
    have HSS := Lib.hid (fun (g : World) => osteal_any (r.at w.kind w.level) r.cap g)
    clear Ca HD
    go_wp2_with fail
    refine (HSS.out _).mono ?_
    rintro e wz ⟨gn, rfl, Oz, Cz, gz⟩
    have HTb := Lib.hid (HTa.out.keep Cz)
    have d6 := HTb.out.cell 6
    have z6 := HTb.out.frozen 6
    have d1 := HTb.out.cell 1
    have z1 := HTb.out.frozen 1
    simp only [wkCells] at d6 d1
    have st1 := storeF6 wz (v := .pointer (some ⟨gn, 0, none⟩)) 96 d1 z1 (by decide)
    have HO := Lib.hid (And.intro Oz (show W.heap.size ≤ gn by have := HTa.out.size; omega))
    clear Oz Cz gz HSS
    go_wp2_with fail
    (first | go_end0 | refine bodyPost_ret (results_none rfl _ _ _) rfl ?_ | (rw [Exit.noGoto_normal]; go_wp2_with fail; (first | go_end0 | refine bodyPost_ret (results_none rfl _ _ _) rfl ?_)) | (rw [Exit.noGoto_normal]; (first | go_end0 | refine bodyPost_ret (results_none rfl _ _ _) rfl ?_)))
    rw [HPS.out, if_pos (by trivial)]
    exact ((HTb.out.op HO.out.1 (OkOp.new (HTb.out.opAt HDN.out).1 (HTb.out.opAt HDN.out).2 HTb.out.rig.ok.cap (by omega) (by omega)) HO.out.2).next1 .sweeping).fin rfl rfl
set_option maxRecDepth 4000 in
set_option maxHeartbeats 8000000 in
theorem popping_any (W : World) (wb rb bm bw : Nat) (gv : Value) (ob : Option Nat) (r : RRack) (w : RWork) (M : List Nat) (u : Nat) (h : Rig W wb rb bm bw gv ob r w M u) (hd : w.done = false) (o : DOp) (ho : w.op = some o)
    (hn : w.next = .popping) (good : Nat → Bool) :
    Calls Tryz.prog 89 #[.pointer (some ⟨wb, 0, none⟩), .pointer (some ⟨bm, 0, none⟩)] W fun e W' => Turned W W' wb rb bm bw gv ob (phaseR good r w M u) e := by
  have HP : phaseR good r w M u = (if (stepD o M u).1.done = true then (r, { w with op := some (stepD o M u).1, x := (resD (stepD o M u).1).1, done := true, err := (resD (stepD o M u).1).2 }, (stepD o M u).2.1, (stepD o M u).2.2)
      else (r, { w with op := some (stepD o M u).1 }, (stepD o M u).2.1, (stepD o M u).2.2)) := by
    unfold phaseR
    rw [hn, ho]
    rfl
  obtain ⟨g, rfl, a1, a2, a3, a4, a5, a6⟩ := h.opOf ho
  have c6 : W.cell? ⟨wb, 6, none⟩ = some (.pointer (some ⟨g, 0, none⟩)) := by rw [Blk.cell h.wk]; rfl
  have HS := Lib.hid (step_any g o W a1 a2 bm bw M u h.mem a5 a6)
  have hok := okStep (W := M) (u := u) a2 h.mem.small
  have hkd := stepD_kind o M u
  obtain ⟨o', ho'⟩ : ∃ o', o' = (stepD o M u).1 := ⟨_, rfl⟩
  obtain ⟨M', hM'⟩ : ∃ M', M' = (stepD o M u).2.1 := ⟨_, rfl⟩
  obtain ⟨u', hu'⟩ : ∃ u', u' = (stepD o M u).2.2 := ⟨_, rfl⟩
  unfold Stepped at HS
  rw [← ho', ← hM', ← hu'] at HS HP
  rw [← ho'] at hok hkd
  obtain ⟨S, hS⟩ : ∃ S, S = phaseR good r w M u := ⟨_, rfl⟩
  rw [← hS]
  rw [← hS] at HP
  have HPS := Lib.hid HP
  have HH := Lib.hid (Tr.start h)
  have NE := Lib.hid (And.intro a3 a4)
  have HDN := Lib.hid hd
  have HOK := Lib.hid hok
  clear HP hS ho' hM' hu' a1 a2 a3 a4 a5 a6 h hd hok hkd ho hn
  go_enter Tryz.func89, Tryz.ntmps89
  go_wp2_with fail
  refine HS.out.mono ?_
  rintro e w1 ⟨rfl, O1, M1, C1⟩
  have HT := Lib.hid (HH.out.stepped rfl O1 HOK.out M1 C1 NE.out.1 NE.out.2)
  have HO1 := Lib.hid O1
  clear HS C1 c6 O1 M1
  cases hdn : o'.done with
  | false =>
    rw [hdn] at HPS
    clear hdn
    go_wp2_with fail
    (first | go_end0 | refine bodyPost_ret (results_none rfl _ _ _) rfl ?_ | (rw [Exit.noGoto_normal]; go_wp2_with fail; (first | go_end0 | refine bodyPost_ret (results_none rfl _ _ _) rfl ?_)) | (rw [Exit.noGoto_normal]; (first | go_end0 | refine bodyPost_ret (results_none rfl _ _ _) rfl ?_)))
    rw [HPS.out, if_neg (by simp)]
    exact HT.out.fin rfl rfl
  | true =>
    have c6 := HT.out.cell 6
    simp only [wkCells] at c6
    have HRES := Lib.hid (result_any g o' w1 HO1.out)
    have HRD := Lib.hid (resD_err hdn)
    rw [hdn] at HPS
    obtain ⟨rx, hrx⟩ : ∃ rx, rx = (resD o').1 := ⟨_, rfl⟩
    obtain ⟨re, hre⟩ : ∃ re, re = (resD o').2 := ⟨_, rfl⟩
    rw [← hrx, ← hre] at HRES HPS
    clear hdn HRD hrx hre
    go_wp2_with fail
    refine HRES.out.mono ?_
    rintro e w2 ⟨rfl, C2⟩
    have HT2 := Lib.hid (HT.out.keep C2)
    have c3 := HT2.out.cell 3
    have y3 := HT2.out.frozen 3
    simp only [wkCells] at c3
    clear C2 c6 HRES
    go_upto_region 3 with (fail)
    have HT3 := Lib.hid (HT2.out.set 3 (.int .u64 (rx : Nat)) (wk_s3 HT2.out.rig.wk rx) rfl rfl rfl rfl rfl)
    obtain ⟨w3, hw3⟩ : ∃ w3, w3 = w2.setCell ⟨wb, 3, none⟩ (.int .u64 (rx : Nat)) := ⟨_, rfl⟩
    rw [← hw3] at HT3 ⊢
    have HE := Lib.hid (wend_any wb rb gv (some g) _ re w3 HT3.out.rig.wk)
    clear hw3 c3 y3 HT HT2 HO1
    go_wp2_with fail
    refine HE.out.mono ?_
    rintro e w5 ⟨rfl, B5, C5⟩
    have HZ := Lib.hid (HT3.out.end_ re B5 C5)
    clear B5 C5 HE
    go_wp2_with fail
    (first | go_end0 | refine bodyPost_ret (results_none rfl _ _ _) rfl ?_ | (rw [Exit.noGoto_normal]; go_wp2_with fail; (first | go_end0 | refine bodyPost_ret (results_none rfl _ _ _) rfl ?_)) | (rw [Exit.noGoto_normal]; (first | go_end0 | refine bodyPost_ret (results_none rfl _ _ _) rfl ?_)))
    rw [HPS.out, if_pos (by trivial)]
    exact HZ.out.fin rfl rfl
set_option maxRecDepth 4000 in
set_option maxHeartbeats 8000000 in
theorem robbing_any (W : World) (wb rb bm bw : Nat) (gv : Value) (ob : Option Nat) (r : RRack) (w : RWork) (M : List Nat) (u : Nat) (h : Rig W wb rb bm bw gv ob r w M u) (hd : w.done = false) (o : DOp) (ho : w.op = some o)
    (hn : w.next = .robbing) (good : Nat → Bool) (hk2 : o.kind = 2) :
    Calls Tryz.prog 91 #[.pointer (some ⟨wb, 0, none⟩), .pointer (some ⟨bm, 0, none⟩)] W fun e W' => Turned W W' wb rb bm bw gv ob (phaseR good r w M u) e := by
  have HP : phaseR good r w M u = (if (stepD o M u).1.done = true then (r, { w with op := some (stepD o M u).1, x := (resD (stepD o M u).1).1, done := true, err := (resD (stepD o M u).1).2 }, (stepD o M u).2.1, (stepD o M u).2.2)
      else if 3 ≤ (stepD o M u).1.steps then (r, { w with op := some (stepD o M u).1, next := .minding }, (stepD o M u).2.1, (stepD o M u).2.2)
      else (r, { w with op := some (stepD o M u).1 }, (stepD o M u).2.1, (stepD o M u).2.2)) := by
    unfold phaseR
    rw [hn, ho]
    rfl
  obtain ⟨g, rfl, a1, a2, a3, a4, a5, a6⟩ := h.opOf ho
  have c6 : W.cell? ⟨wb, 6, none⟩ = some (.pointer (some ⟨g, 0, none⟩)) := by rw [Blk.cell h.wk]; rfl
  have HS := Lib.hid (step_any g o W a1 a2 bm bw M u h.mem a5 a6)
  have hok := okStep (W := M) (u := u) a2 h.mem.small
  have hkd := stepD_kind o M u
  obtain ⟨o', ho'⟩ : ∃ o', o' = (stepD o M u).1 := ⟨_, rfl⟩
  obtain ⟨M', hM'⟩ : ∃ M', M' = (stepD o M u).2.1 := ⟨_, rfl⟩
  obtain ⟨u', hu'⟩ : ∃ u', u' = (stepD o M u).2.2 := ⟨_, rfl⟩
  unfold Stepped at HS
  rw [← ho', ← hM', ← hu'] at HS HP
  rw [← ho'] at hok hkd
  obtain ⟨S, hS⟩ : ∃ S, S = phaseR good r w M u := ⟨_, rfl⟩
  rw [← hS]
  rw [← hS] at HP
  have HPS := Lib.hid HP
  have HH := Lib.hid (Tr.start h)
  have NE := Lib.hid (And.intro a3 a4)
  have HDN := Lib.hid hd
  have HOK := Lib.hid hok
  have HSEEN := Lib.hid (fun W1 (O : IsOp W1 g o') => dseen_any g o' W1 O (by omega))
  have HTEL := Lib.hid (show telD 2 3 (·.x) o' = if 3 ≤ o'.steps then (o'.x, true) else (0, false) by
    unfold telD
    by_cases h3 : 3 ≤ o'.steps
    · rw [if_neg (by omega), if_pos h3]
    · rw [if_pos (by omega), if_neg h3])
  rw [HTEL.out] at HSEEN
  clear HTEL
  clear HP hS ho' hM' hu' a1 a2 a3 a4 a5 a6 h hd hok hkd ho hn hk2
  go_enter Tryz.func91, Tryz.ntmps91
  go_wp2_with fail
  refine HS.out.mono ?_
  rintro e w1 ⟨rfl, O1, M1, C1⟩
  have HT := Lib.hid (HH.out.stepped rfl O1 HOK.out M1 C1 NE.out.1 NE.out.2)
  have HO1 := Lib.hid O1
  clear HS C1 c6 O1 M1
  cases hdn : o'.done with
  | false =>
    rw [hdn] at HPS
    clear hdn
    have c6 := HT.out.cell 6
    have c1 := HT.out.cell 1
    have z1 := HT.out.frozen 1
    simp only [wkCells] at c6 c1
    have st1 := storeF w1 112 c1 z1
    by_cases h3 : 3 ≤ o'.steps
    · rw [if_pos h3] at HSEEN HPS
      clear h3
      go_wp2_with (first
        | (go_at_call 111; refine (HSEEN.out _ HO1.out).mono ?_; rintro e w2 ⟨rfl, rfl⟩)
        | fail)
      (first | go_end0 | refine bodyPost_ret (results_none rfl _ _ _) rfl ?_ | (rw [Exit.noGoto_normal]; go_wp2_with fail; (first | go_end0 | refine bodyPost_ret (results_none rfl _ _ _) rfl ?_)) | (rw [Exit.noGoto_normal]; (first | go_end0 | refine bodyPost_ret (results_none rfl _ _ _) rfl ?_)))
      rw [HPS.out, if_neg (by simp)]
      exact (HT.out.next1 .minding).fin rfl rfl
    · rw [if_neg h3] at HSEEN HPS
      clear h3
      go_wp2_with (first
        | (go_at_call 111; refine (HSEEN.out _ HO1.out).mono ?_; rintro e w2 ⟨rfl, rfl⟩)
        | fail)
      (first | go_end0 | refine bodyPost_ret (results_none rfl _ _ _) rfl ?_ | (rw [Exit.noGoto_normal]; go_wp2_with fail; (first | go_end0 | refine bodyPost_ret (results_none rfl _ _ _) rfl ?_)) | (rw [Exit.noGoto_normal]; (first | go_end0 | refine bodyPost_ret (results_none rfl _ _ _) rfl ?_)))
      rw [HPS.out, if_neg (by simp)]
      exact HT.out.fin rfl rfl
  | true =>
    have c6 := HT.out.cell 6
    simp only [wkCells] at c6
    have HRES := Lib.hid (result_any g o' w1 HO1.out)
    have HRD := Lib.hid (resD_err hdn)
    rw [hdn] at HPS
    obtain ⟨rx, hrx⟩ : ∃ rx, rx = (resD o').1 := ⟨_, rfl⟩
    obtain ⟨re, hre⟩ : ∃ re, re = (resD o').2 := ⟨_, rfl⟩
    rw [← hrx, ← hre] at HRES HPS
    clear hdn HRD hrx hre
    go_wp2_with fail
    refine HRES.out.mono ?_
    rintro e w2 ⟨rfl, C2⟩
    have HT2 := Lib.hid (HT.out.keep C2)
    have c3 := HT2.out.cell 3
    have y3 := HT2.out.frozen 3
    simp only [wkCells] at c3
    clear C2 c6 HRES
    go_upto_region 3 with (fail)
    have HT3 := Lib.hid (HT2.out.set 3 (.int .u64 (rx : Nat)) (wk_s3 HT2.out.rig.wk rx) rfl rfl rfl rfl rfl)
    obtain ⟨w3, hw3⟩ : ∃ w3, w3 = w2.setCell ⟨wb, 3, none⟩ (.int .u64 (rx : Nat)) := ⟨_, rfl⟩
    rw [← hw3] at HT3 ⊢
    have HE := Lib.hid (wend_any wb rb gv (some g) _ re w3 HT3.out.rig.wk)
    clear hw3 c3 y3 HT HT2 HO1
    go_wp2_with fail
    refine HE.out.mono ?_
    rintro e w5 ⟨rfl, B5, C5⟩
    have HZ := Lib.hid (HT3.out.end_ re B5 C5)
    clear B5 C5 HE
    go_wp2_with fail
    (first | go_end0 | refine bodyPost_ret (results_none rfl _ _ _) rfl ?_ | (rw [Exit.noGoto_normal]; go_wp2_with fail; (first | go_end0 | refine bodyPost_ret (results_none rfl _ _ _) rfl ?_)) | (rw [Exit.noGoto_normal]; (first | go_end0 | refine bodyPost_ret (results_none rfl _ _ _) rfl ?_)))
    rw [HPS.out, if_pos (by trivial)]
    exact HZ.out.fin rfl rfl
set_option maxRecDepth 4000 in
set_option maxHeartbeats 8000000 in
theorem reading_any (W : World) (wb rb bm bw : Nat) (gv : Value) (ob : Option Nat) (r : RRack) (w : RWork) (M : List Nat) (u : Nat) (h : Rig W wb rb bm bw gv ob r w M u) (hd : w.done = false)
    (hn : w.next = .reading) (good : Nat → Bool) (hT : TabW W) :
    Calls Tryz.prog 57 #[.pointer (some ⟨wb, 0, none⟩), .pointer (some ⟨bm, 0, none⟩)] W fun e W' => Turned W W' wb rb bm bw gv ob (phaseR good r w M u) e := by
  have HP : phaseR good r w M u = (if getA M r.base % 256 = 0 then (r, { w with done := true, err := 7 }, M, tick M r.base u)
    else (r, { w with level := leastTo (getA M r.base % 256) 8 0, op := some (opR r { w with level := leastTo (getA M r.base % 256) 8 0 } 2 0), next := .robbing }, M, tick M r.base u)) := by
    unfold phaseR
    rw [hn]
  have c0 : W.cell? ⟨wb, 0, none⟩ = some (.pointer (some ⟨rb, 0, none⟩)) := by rw [Blk.cell h.wk]; rfl
  have d0 := h.rk.c0
  have HL := Lib.hid (load_any bm bw M u W h.mem r.base)
  have hsm := h.mem.small.getA r.base
  have HH := Lib.hid (Tr.start h)
  have HDN := Lib.hid hd
  have hZ := h.ne0 hT
  have HNZ := Lib.hid hZ
  have HTT := Lib.hid hT
  obtain ⟨m, hm⟩ : ∃ m, m = getA M r.base := ⟨_, rfl⟩
  rw [← hm] at HP HL hsm
  have hb1 : bits .and .u64 (m : Int) 255 = ((m % 256 : Nat) : Int) := by
    have := bits_and_u64_nat m 255 hsm (by omega)
    rw [show ((255 : Nat) : Int) = 255 from rfl] at this
    rw [this, show (255 : Nat) = 2 ^ 8 - 1 from rfl, Nat.and_two_pow_sub_one_eq_mod]
  obtain ⟨s, hs⟩ : ∃ s, s = m % 256 := ⟨_, rfl⟩
  have hs256 : s < 256 := by omega
  rw [← hs] at HP hb1
  obtain ⟨S, hS⟩ : ∃ S, S = phaseR good r w M u := ⟨_, rfl⟩
  rw [← hS]
  rw [← hS] at HP
  have HPS := Lib.hid HP
  clear HP hS h hd hT hm hs hn hsm hZ
  go_enter Tryz.func57, Tryz.ntmps57
  go_wp2_with fail
  refine HL.out.mono ?_
  rintro e w1 ⟨rfl, M1, C1⟩
  have HT := Lib.hid (HH.out.access M1 (C1.mono (by intro g hg; left; simp at hg ⊢; left; exact hg)))
  have TT := Lib.hid (tab_chg HTT.out (C1.mono (S' := [bm, bw]) (by intro g hg; left; simp at hg ⊢; left; exact hg)) (by have := HNZ.out; simp at this ⊢; omega))
  clear HL M1 C1 c0 d0
  by_cases h0 : s = 0
  · have e0 : ((s : Int) == 0) = true := by simp [h0]
    have H0 := Lib.hid h0
    have HE := Lib.hid (wend_any wb rb gv ob w 7 w1 HT.out.rig.wk)
    clear h0 hs256
    go_wp2_with fail
    refine HE.out.mono ?_
    rintro e w5 ⟨rfl, B5, C5⟩
    have HZ := Lib.hid (HT.out.end_ 7 B5 C5)
    clear B5 C5 HE
    go_wp2_with fail
    (first | go_end0 | refine bodyPost_ret (results_none rfl _ _ _) rfl ?_ | (rw [Exit.noGoto_normal]; go_wp2_with fail; (first | go_end0 | refine bodyPost_ret (results_none rfl _ _ _) rfl ?_)) | (rw [Exit.noGoto_normal]; (first | go_end0 | refine bodyPost_ret (results_none rfl _ _ _) rfl ?_)))
    rw [HPS.out, if_pos H0.out]
    exact HZ.out.fin rfl rfl
  · have e0 : ((s : Int) == 0) = false := by simp; omega
    have HN := Lib.hid h0
    have HLE := Lib.hid (fun w (h : TabW w) => least_any s (by omega) w h)
    have hli := least256 ⟨s, hs256⟩ h0
    have hlt := least256_lt ⟨s, hs256⟩ h0
    simp only at hli hlt
    obtain ⟨l, hl⟩ : ∃ l, l = leastTo s 8 0 := ⟨_, rfl⟩
    rw [← hl] at hli hlt HPS
    rw [hli] at HLE
    have c4 := HT.out.cell 4
    have z4 := HT.out.frozen 4
    simp only [wkCells] at c4
    have HLT := Lib.hid hlt
    clear h0 hs256 hli hlt hl
    go_upto_region 4 with (first
      | (go_at_call 47; refine (HLE.out _ TT.out).mono ?_; rintro e w2 ⟨rfl, rfl⟩)
      | fail)
    have HT2 := Lib.hid (HT.out.own (wk_s4 HT.out.rig.wk l) ((Chg.refl _ _).setCell (.inl (by simp)) _) rfl HT.out.rig.kind (fun _ => HLT.out) HT.out.rig.steps)
    obtain ⟨w2, hw2⟩ : ∃ w2, w2 = w1.setCell ⟨wb, 4, none⟩ (.int .i64 (l : Nat)) := ⟨_, rfl⟩
    rw [← hw2] at HT2 ⊢
    clear hw2 c4 z4 HT HLE
    have HD := Lib.hid (wdeque_any wb rb gv ob _ r _ HT2.out.rig.wk HT2.out.rig.rk HT2.out.rig.kind (HT2.out.rig.level HDN.out))
    go_wp2_with fail
    refine HD.out.mono ?_
    rintro e wa ⟨rfl, Ca⟩
    have HTa := Lib.hid (HT2.out.keep Ca)
    have HSS := Lib.hid (fun (g : World) => osteal_any (r.at w.kind l) r.cap g)
    clear Ca HD
    go_wp2_with fail
    refine (HSS.out _).mono ?_
    rintro e wz ⟨gn, rfl, Oz, Cz, gz⟩
    have HTb := Lib.hid (HTa.out.keep Cz)
    have d6 := HTb.out.cell 6
    have z6 := HTb.out.frozen 6
    have d1 := HTb.out.cell 1
    have z1 := HTb.out.frozen 1
    simp only [wkCells] at d6 d1
    have st1 := storeF6 wz (v := .pointer (some ⟨gn, 0, none⟩)) 91 d1 z1 (by decide)
    have HO := Lib.hid (And.intro Oz (show W.heap.size ≤ gn by have := HTa.out.size; omega))
    clear Oz Cz gz HSS
    go_wp2_with fail
    (first | go_end0 | refine bodyPost_ret (results_none rfl _ _ _) rfl ?_ | (rw [Exit.noGoto_normal]; go_wp2_with fail; (first | go_end0 | refine bodyPost_ret (results_none rfl _ _ _) rfl ?_)) | (rw [Exit.noGoto_normal]; (first | go_end0 | refine bodyPost_ret (results_none rfl _ _ _) rfl ?_)))
    rw [HPS.out, if_neg HN.out]
    exact ((HTb.out.op HO.out.1 (OkOp.new (HTb.out.opAt HDN.out).1 (HTb.out.opAt HDN.out).2 HTb.out.rig.ok.cap (by omega) (by omega)) HO.out.2).next1 .robbing).fin rfl rfl
theorem storeF810 (w : World) {g : Nat} {rx : Nat} (f : FuncId) {u : Value} (h : w.cell? ⟨g, 1, none⟩ = some u) (z : w.frozen? ⟨g, 1, none⟩ = false) :
    (store ⟨g, 1, none⟩ (.func (.func f) #[] #[])).run Tryz.prog ((w.setCell ⟨g, 8, none⟩ (.int .u64 (rx : Nat))).setCell ⟨g, 10, none⟩ (.bool true)) = .ok () (((w.setCell ⟨g, 8, none⟩ (.int .u64 (rx : Nat))).setCell ⟨g, 10, none⟩ (.bool true)).setCell ⟨g, 1, none⟩ (.func (.func f) #[] #[])) :=
  storeF _ f (csk (csk h (by decide)) (by decide)) (by rw [World.frozen?_setCell, World.frozen?_setCell]; exact z)
set_option maxRecDepth 4000 in
set_option maxHeartbeats 8000000 in
theorem sweeping_any (W : World) (wb rb bm bw : Nat) (gv : Value) (ob : Option Nat) (r : RRack) (w : RWork) (M : List Nat) (u : Nat) (h : Rig W wb rb bm bw gv ob r w M u) (hd : w.done = false) (o : DOp) (ho : w.op = some o)
    (hn : w.next = .sweeping) (good : Nat → Bool) (hk2 : o.kind = 2) (hnd : o.done = false) (hx : w.x < 18446744073709551616) :
    Calls Tryz.prog 96 #[.pointer (some ⟨wb, 0, none⟩), .pointer (some ⟨bm, 0, none⟩)] W fun e W' => Turned W W' wb rb bm bw gv ob (phaseR good r w M u) e := by
  have HP : phaseR good r w M u = (if ((stepD o M u).1.steps = 1 ∧ ahd w.from_ (stepD o M u).1.t ≤ 0) ∨ (resD (stepD o M u).1).2 = 7 then (r, { w with op := some (opR r w 0 w.x), next := .pushing }, (stepD o M u).2.1, (stepD o M u).2.2)
    else if (resD (stepD o M u).1).2 = 8 then (r, { w with op := some (opR r w 2 0) }, (stepD o M u).2.1, (stepD o M u).2.2)
    else if (resD (stepD o M u).1).2 = 0 then (r, { w with op := some (stepD o M u).1, swept := (resD (stepD o M u).1).1, holds := true, next := .asking }, (stepD o M u).2.1, (stepD o M u).2.2)
    else (r, { w with op := some (stepD o M u).1 }, (stepD o M u).2.1, (stepD o M u).2.2)) := by
    unfold phaseR
    rw [hn, ho]
    rfl
  obtain ⟨g, rfl, a1, a2, a3, a4, a5, a6⟩ := h.opOf ho
  have c6 : W.cell? ⟨wb, 6, none⟩ = some (.pointer (some ⟨g, 0, none⟩)) := by rw [Blk.cell h.wk]; rfl
  have HS := Lib.hid (step_any g o W a1 a2 bm bw M u h.mem a5 a6)
  have hok := okStep (W := M) (u := u) a2 h.mem.small
  have hkd := stepD_kind o M u
  have hps := stepD_pos M u hnd
  obtain ⟨o', ho'⟩ : ∃ o', o' = (stepD o M u).1 := ⟨_, rfl⟩
  obtain ⟨M', hM'⟩ : ∃ M', M' = (stepD o M u).2.1 := ⟨_, rfl⟩
  obtain ⟨u', hu'⟩ : ∃ u', u' = (stepD o M u).2.2 := ⟨_, rfl⟩
  unfold Stepped at HS
  rw [← ho', ← hM', ← hu'] at HS HP
  rw [← ho'] at hok hkd hps
  obtain ⟨S, hS⟩ : ∃ S, S = phaseR good r w M u := ⟨_, rfl⟩
  rw [← hS]
  rw [← hS] at HP
  have HPS := Lib.hid HP
  have HH := Lib.hid (Tr.start h)
  have NE := Lib.hid (And.intro a3 a4)
  have HDN := Lib.hid hd
  have HOK := Lib.hid hok
  have HTEL := Lib.hid (show telD 2 1 (·.t) o' = (o'.t, true) by unfold telD; rw [if_neg (by omega)])
  have HRES := Lib.hid (fun W1 (O : IsOp W1 g o') => result_any g o' W1 O)
  have HTOP := Lib.hid (fun W1 (O : IsOp W1 g o') => dtop_any g o' W1 O (by omega))
  rw [HTEL.out] at HTOP
  have HSTP := Lib.hid (fun W1 (O : IsOp W1 g o') => steps_any g o' W1 O)
  obtain ⟨t', ht'⟩ : ∃ t', t' = o'.t := ⟨_, rfl⟩
  rw [← ht'] at HTOP HPS
  obtain ⟨n', hn'⟩ : ∃ n', n' = o'.steps := ⟨_, rfl⟩
  rw [← hn'] at HSTP HPS
  obtain ⟨rx, hrx⟩ : ∃ rx, rx = (resD o').1 := ⟨_, rfl⟩
  obtain ⟨re, hre⟩ : ∃ re, re = (resD o').2 := ⟨_, rfl⟩
  rw [← hrx, ← hre] at HRES HPS
  obtain ⟨xx, hxx⟩ : ∃ xx, xx = w.x := ⟨_, rfl⟩
  obtain ⟨A, hA⟩ : ∃ A, A = ahd w.from_ t' := ⟨_, rfl⟩
  rw [← hA] at HPS
  obtain ⟨fr, hfr⟩ : ∃ fr, fr = w.from_ := ⟨_, rfl⟩
  have HXX := Lib.hid (And.intro hxx hx)
  have HFR := Lib.hid hfr
  have wr1 : IntKind.i64.wrap (IntKind.u64.wrap ((fr : Int) - (t' : Int))) = A := by rw [hfr, hA]; exact ahd_wraps _ _
  have wr2 : IntKind.i64.wrap ((fr : Int) - (t' : Int)) = A := by rw [hfr, hA]; rfl
  clear hrx hre HTEL ht' hn' hxx hfr hA
  clear HP hS ho' hM' hu' a1 a2 a3 a4 a5 a6 h hd hok hkd ho hn hk2 hnd hps hx
  go_enter Tryz.func96, Tryz.ntmps96
  go_wp2_with fail
  go_step3
  go_wp2_with fail
  refine HS.out.mono ?_
  rintro e w1 ⟨rfl, O1, M1, C1⟩
  have HT := Lib.hid (HH.out.stepped rfl O1 HOK.out M1 C1 NE.out.1 NE.out.2)
  have HO1 := Lib.hid O1
  clear HS C1 c6 O1 M1
  have c6 := HT.out.cell 6
  have c7 := HT.out.cell 7
  simp only [wkCells] at c6 c7
  rw [← HFR.out] at c7
  go_wp2_with (first
    | (go_at_call 117; refine (HTOP.out _ HO1.out).mono ?_; rintro e w2 ⟨rfl, rfl⟩)
    | (go_at_call 94; refine (HRES.out _ HO1.out).mono ?_; rintro e w3 ⟨rfl, C3⟩; have HT3 := Lib.hid (HT.out.keep C3); have HO3 := Lib.hid (HO1.out.chg C3 (by simp)); have k6 := ckp C3 c6; have k7 := ckp C3 c7; clear C3)
    | fail)
  clear c6 c7 HT HO1 HTOP HRES
  go_step3
  by_cases hq1 : n' = 1 ∧ A ≤ 0
  · have e1 : ((n' : Int) == 1) = true := by simp [hq1.1]
    have e2 : decide (A ≤ 0) = true := decide_eq_true hq1.2
    have HQ := Lib.hid (show (n' = 1 ∧ A ≤ 0) ∨ re = 7 from .inl hq1)
    clear hq1
    go_wp2_with (first
        | (go_at_call 118; refine (HSTP.out _ HO3.out).mono ?_; rintro e w4 ⟨rfl, rfl⟩)
        | fail)
    have HT5 := HT3
    have c3 : w3.cell? ⟨wb, 3, none⟩ = some (.int .u64 (xx : Nat)) := by rw [HXX.out.1]; exact HT3.out.cell 3
    have HD := Lib.hid (fun W1 (T : Tr W W1 wb rb bm bw gv (some g) (some g) r { w with op := some o' } M' u') => wdeque_any wb rb gv (some g) { w with op := some o' } r W1 T.rig.wk T.rig.rk T.rig.kind (T.rig.level HDN.out))
    have HPU := Lib.hid (fun W1 => opush_any (r.at w.kind w.level) r.cap xx W1)
    clear k6 k7 HO3 HSTP wr1 wr2
    go_region_held3 (fun w' => w'.cell? ⟨wb, 3, none⟩ = some (.int .u64 (xx : Nat)))
      (first | assumption | exact c3 | exact csk (by assumption) (by decide) | exact csk (csk (by assumption) (by decide)) (by decide) | fail)
      (first
        | (go_at_call 61; refine (HD.out _ (HT3.out.keep (Chg.refl [] _).drew)).mono ?_; rintro e wa ⟨rfl, Ca⟩; have HTa := Lib.hid ((HT3.out.keep (Chg.refl [] _).drew).keep Ca); have k3 : wa.cell? ⟨wb, 3, none⟩ = some (.int .u64 (xx : Nat)) := ckp Ca.undrew c3; clear Ca)
        | (go_at_call 62; refine (HPU.out _).mono ?_; rintro e wz ⟨gn, rfl, Oz, Cz, gz⟩; have HTb := Lib.hid (HTa.out.keep Cz); have d6 := HTb.out.cell 6; have z6 := HTb.out.frozen 6; have d1 := HTb.out.cell 1; have z1 := HTb.out.frozen 1; have k33 : wz.cell? ⟨wb, 3, none⟩ = some (.int .u64 (xx : Nat)) := ckp Cz k3; simp only [wkCells] at d6 d1; have st1 := storeF6 wz (v := .pointer (some ⟨gn, 0, none⟩)) 60 d1 z1 (by decide); have HO := Lib.hid (And.intro Oz (show W.heap.size ≤ gn by have := HTa.out.size; omega)); clear Oz Cz gz)
        | fail)
    go_wp2_with fail
    (first | go_end0 | refine bodyPost_ret (results_none rfl _ _ _) rfl ?_ | (rw [Exit.noGoto_normal]; go_wp2_with fail; (first | go_end0 | refine bodyPost_ret (results_none rfl _ _ _) rfl ?_)) | (rw [Exit.noGoto_normal]; (first | go_end0 | refine bodyPost_ret (results_none rfl _ _ _) rfl ?_)))
    rw [HPS.out, if_pos (by have := HQ.out; omega)]
    rw [HXX.out.1] at HO HXX
    exact ((HTb.out.op HO.out.1 (OkOp.new (HTb.out.opAt HDN.out).1 (HTb.out.opAt HDN.out).2 HTb.out.rig.ok.cap (by omega) (by exact HXX.out.2)) HO.out.2).next1 .pushing).fin rfl rfl
  · rcases (show (((n' : Int) == 1) = false) ∨ (((n' : Int) == 1) = true ∧ decide (A ≤ 0) = false) by
        by_cases h1 : n' = 1
        · exact .inr ⟨by simp [h1], decide_eq_false (fun h2 => hq1 ⟨h1, h2⟩)⟩
        · exact .inl (by simp; omega)) with e1 | ⟨e1, e2⟩
    all_goals
      have HN1 := Lib.hid hq1
      clear hq1
      by_cases h7 : re = 7
      · subst h7
        have HQ := Lib.hid (show (n' = 1 ∧ A ≤ 0) ∨ (7 : Int) = 7 from .inr rfl)
        go_wp2_with (first
            | (go_at_call 118; refine (HSTP.out _ HO3.out).mono ?_; rintro e w4 ⟨rfl, rfl⟩)
            | fail)
        have HT5 := HT3
        have c3 : w3.cell? ⟨wb, 3, none⟩ = some (.int .u64 (xx : Nat)) := by rw [HXX.out.1]; exact HT3.out.cell 3
        have HD := Lib.hid (fun W1 (T : Tr W W1 wb rb bm bw gv (some g) (some g) r { w with op := some o' } M' u') => wdeque_any wb rb gv (some g) { w with op := some o' } r W1 T.rig.wk T.rig.rk T.rig.kind (T.rig.level HDN.out))
        have HPU := Lib.hid (fun W1 => opush_any (r.at w.kind w.level) r.cap xx W1)
        clear k6 k7 HO3 HSTP wr1 wr2
        go_region_held3 (fun w' => w'.cell? ⟨wb, 3, none⟩ = some (.int .u64 (xx : Nat)))
          (first | assumption | exact c3 | exact csk (by assumption) (by decide) | exact csk (csk (by assumption) (by decide)) (by decide) | fail)
          (first
            | (go_at_call 61; refine (HD.out _ (HT3.out.keep (Chg.refl [] _).drew)).mono ?_; rintro e wa ⟨rfl, Ca⟩; have HTa := Lib.hid ((HT3.out.keep (Chg.refl [] _).drew).keep Ca); have k3 : wa.cell? ⟨wb, 3, none⟩ = some (.int .u64 (xx : Nat)) := ckp Ca.undrew c3; clear Ca)
            | (go_at_call 62; refine (HPU.out _).mono ?_; rintro e wz ⟨gn, rfl, Oz, Cz, gz⟩; have HTb := Lib.hid (HTa.out.keep Cz); have d6 := HTb.out.cell 6; have z6 := HTb.out.frozen 6; have d1 := HTb.out.cell 1; have z1 := HTb.out.frozen 1; have k33 : wz.cell? ⟨wb, 3, none⟩ = some (.int .u64 (xx : Nat)) := ckp Cz k3; simp only [wkCells] at d6 d1; have st1 := storeF6 wz (v := .pointer (some ⟨gn, 0, none⟩)) 60 d1 z1 (by decide); have HO := Lib.hid (And.intro Oz (show W.heap.size ≤ gn by have := HTa.out.size; omega)); clear Oz Cz gz)
            | fail)
        go_wp2_with fail
        (first | go_end0 | refine bodyPost_ret (results_none rfl _ _ _) rfl ?_ | (rw [Exit.noGoto_normal]; go_wp2_with fail; (first | go_end0 | refine bodyPost_ret (results_none rfl _ _ _) rfl ?_)) | (rw [Exit.noGoto_normal]; (first | go_end0 | refine bodyPost_ret (results_none rfl _ _ _) rfl ?_)))
        rw [HPS.out, if_pos (by have := HQ.out; omega)]
        rw [HXX.out.1] at HO HXX
        exact ((HTb.out.op HO.out.1 (OkOp.new (HTb.out.opAt HDN.out).1 (HTb.out.opAt HDN.out).2 HTb.out.rig.ok.cap (by omega) (by exact HXX.out.2)) HO.out.2).next1 .pushing).fin rfl rfl
      · by_cases h8 : re = 8
        · subst h8
          have HQ := Lib.hid (show ¬ ((n' = 1 ∧ A ≤ 0) ∨ (8 : Int) = 7) by have := HN1.out; omega)
          clear h7
          go_wp2_with (first
        | (go_at_call 118; refine (HSTP.out _ HO3.out).mono ?_; rintro e w4 ⟨rfl, rfl⟩)
        | fail)
          have HDx := HDN
          have HD := Lib.hid (wdeque_any wb rb gv (some g) _ r _ HT3.out.rig.wk HT3.out.rig.rk HT3.out.rig.kind (HT3.out.rig.level HDN.out))
          refine HD.out.mono ?_
          rintro e wa ⟨rfl, Ca⟩
          have HTa := Lib.hid (HT3.out.keep Ca)
          have HSS := Lib.hid (fun (g : World) => osteal_any (r.at w.kind w.level) r.cap g)
          clear Ca HD
          go_wp2_with fail
          refine (HSS.out _).mono ?_
          rintro e wz ⟨gn, rfl, Oz, Cz, gz⟩
          have HTb := Lib.hid (HTa.out.keep Cz)
          have d6 := HTb.out.cell 6
          have z6 := HTb.out.frozen 6
          have d1 := HTb.out.cell 1
          have z1 := HTb.out.frozen 1
          simp only [wkCells] at d6 d1
          have HO := Lib.hid (And.intro Oz (show W.heap.size ≤ gn by have := HTa.out.size; omega))
          clear Oz Cz gz HSS
          go_wp2_with fail
          (first | go_end0 | refine bodyPost_ret (results_none rfl _ _ _) rfl ?_ | (rw [Exit.noGoto_normal]; go_wp2_with fail; (first | go_end0 | refine bodyPost_ret (results_none rfl _ _ _) rfl ?_)) | (rw [Exit.noGoto_normal]; (first | go_end0 | refine bodyPost_ret (results_none rfl _ _ _) rfl ?_)))
          rw [HPS.out, if_neg HQ.out, if_pos (by trivial)]
          exact (HTb.out.op HO.out.1 (OkOp.new (HTb.out.opAt HDN.out).1 (HTb.out.opAt HDN.out).2 HTb.out.rig.ok.cap (by omega) (by omega)) HO.out.2).fin rfl rfl
        · by_cases h0 : re = 0
          · subst h0
            have HQ := Lib.hid (show ¬ ((n' = 1 ∧ A ≤ 0) ∨ (0 : Int) = 7) by have := HN1.out; omega)
            clear h7 h8
            go_upto_region 8 with (first
        | (go_at_call 118; refine (HSTP.out _ HO3.out).mono ?_; rintro e w4 ⟨rfl, rfl⟩)
        | fail)
            have d8 := HT3.out.cell 8
            have z8 := HT3.out.frozen 8
            have d10 := HT3.out.cell 10
            have z10 := HT3.out.frozen 10
            have d1 := HT3.out.cell 1
            have z1 := HT3.out.frozen 1
            simp only [wkCells] at d8 d10 d1
            have st1 := storeF810 w3 (rx := rx) 119 d1 z1
            go_wp2_with fail
            (first | go_end0 | refine bodyPost_ret (results_none rfl _ _ _) rfl ?_ | (rw [Exit.noGoto_normal]; go_wp2_with fail; (first | go_end0 | refine bodyPost_ret (results_none rfl _ _ _) rfl ?_)) | (rw [Exit.noGoto_normal]; (first | go_end0 | refine bodyPost_ret (results_none rfl _ _ _) rfl ?_)))
            rw [HPS.out, if_neg HQ.out, if_neg (by decide), if_pos (by trivial)]
            exact (((HT3.out.set 8 (.int .u64 (rx : Nat)) (wk_s8 HT3.out.rig.wk rx) rfl rfl rfl rfl rfl).set 10 (.bool true) (wk_s10 (wk_s8 HT3.out.rig.wk rx) true) rfl rfl rfl rfl rfl).next1 .asking).fin rfl rfl
          · have HQ := Lib.hid (show ¬ ((n' = 1 ∧ A ≤ 0) ∨ re = 7) by have := HN1.out; omega)
            have HQ2 := Lib.hid (And.intro h8 h0)
            have e7 : (re == 7) = false := by simp [h7]
            have e8 : (re == 8) = false := by simp [h8]
            have e0 : (re == 0) = false := by simp [h0]
            clear h7 h8 h0
            go_wp2_with (first
        | (go_at_call 118; refine (HSTP.out _ HO3.out).mono ?_; rintro e w4 ⟨rfl, rfl⟩)
        | fail)
            (first | go_end0 | refine bodyPost_ret (results_none rfl _ _ _) rfl ?_ | (rw [Exit.noGoto_normal]; go_wp2_with fail; (first | go_end0 | refine bodyPost_ret (results_none rfl _ _ _) rfl ?_)) | (rw [Exit.noGoto_normal]; (first | go_end0 | refine bodyPost_ret (results_none rfl _ _ _) rfl ?_)))
            rw [HPS.out, if_neg HQ.out, if_neg HQ2.out.1, if_neg HQ2.out.2]
            exact HT3.out.fin rfl rfl
end Go.Proofs.YtjdbgohfedjifaaGreatDoor
