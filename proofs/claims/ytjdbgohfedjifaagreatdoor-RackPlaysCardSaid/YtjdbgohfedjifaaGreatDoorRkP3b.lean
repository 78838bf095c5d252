/- rack: asking, minding: what tells of a word is the closure of begin$1. Printed by gen_phase.py. -/
import Derived.Test.YtjdbgohfedjifaaGreatDoorRkP2
namespace Go.Proofs.YtjdbgohfedjifaaGreatDoor
open Go.RowKit Bosun
/-- What tells of a word: a closure whose call tells good, in every world that differs in the work's block alone. -/
def GoodF (W : World) (wb : Nat) (gv : Value) (good : Nat → Bool) : Prop :=
  ∃ cb, gv = .func (.func 31) #[] #[.pointer (some ⟨cb, 0, none⟩)] ∧ ∀ W1, Chg [wb] W W1 → ∀ x : Nat, x < 18446744073709551616 → Calls Tryz.prog 31 #[.int .u64 (x : Nat), .pointer (some ⟨cb, 0, none⟩)] W1 fun e W2 => e = .returned (.bool (good x)) ∧ Chg [] W1 W2
set_option maxRecDepth 4000 in
set_option maxHeartbeats 8000000 in
theorem asking_any (W : World) (wb rb bm bw : Nat) (gv : Value) (ob : Option Nat) (r : RRack) (w : RWork) (M : List Nat) (u : Nat) (h : Rig W wb rb bm bw gv ob r w M u) (hd : w.done = false)
    (hn : w.next = .asking) (good : Nat → Bool) (hG : GoodF W wb gv good) (hs : w.swept < 18446744073709551616) :
    Calls Tryz.prog 119 #[.pointer (some ⟨wb, 0, none⟩), .pointer (some ⟨bm, 0, none⟩)] W fun e W' => Turned W W' wb rb bm bw gv ob (phaseR good r w M u) e := by
  have HP : phaseR good r w M u = (if good w.swept = true then (r, { w with op := some (opR r w 0 w.swept), next := .again }, M, u)
    else (r, { w with holds := false, op := some (opR r w 2 0), next := .sweeping }, M, u)) := by
    unfold phaseR
    rw [hn]
  obtain ⟨cb, rfl, hG⟩ := hG
  have c2 : W.cell? ⟨wb, 2, none⟩ = some (.func (.func 31) #[] #[.pointer (some ⟨cb, 0, none⟩)]) := by rw [Blk.cell h.wk]; rfl
  have c8 : W.cell? ⟨wb, 8, none⟩ = some (.int .u64 (w.swept : Nat)) := by rw [Blk.cell h.wk]; rfl
  obtain ⟨S, hS⟩ : ∃ S, S = phaseR good r w M u := ⟨_, rfl⟩
  rw [← hS]
  rw [← hS] at HP
  have HPS := Lib.hid HP
  have HT := Lib.hid (Tr.start h)
  have HDN := Lib.hid hd
  have HG := Lib.hid (hG W.drew (Chg.refl _ _).drew w.swept hs)
  obtain ⟨b, hb⟩ : ∃ b, b = good w.swept := ⟨_, rfl⟩
  rw [← hb] at HG HPS
  obtain ⟨sw, hsw⟩ : ∃ sw, sw = w.swept := ⟨_, rfl⟩
  have HSW := Lib.hid (And.intro hsw hs)
  rw [← hsw] at HG c8
  clear HP hS h hd hs hG hb hn hsw
  go_enter Tryz.func119, Tryz.ntmps119
  go_wp2_with fail
  go_region_held3 (fun w' => w'.cell? ⟨wb, 2, none⟩ = some (.func (.func 31) #[] #[.pointer (some ⟨cb, 0, none⟩)]) ∧ w'.cell? ⟨wb, 8, none⟩ = some (.int .u64 (sw : Nat)))
    (first | assumption | exact ⟨c2, c8⟩ | fail)
    (first | (go_at_call 31; refine HG.out.mono ?_; rintro e w3 ⟨rfl, C2⟩; have k2 := And.intro (ckp (C2.undrew) c2) (ckp (C2.undrew) c8)) | fail)
  have HT3 := Lib.hid (HT.out.keep C2.undrew)
  have c3 := k2.2
  clear C2 k2 c2 c8 HG HT
  cases b with
  | true =>
    have HD := Lib.hid (fun W1 (T : Tr W W1 wb rb bm bw (.func (.func 31) #[] #[.pointer (some ⟨cb, 0, none⟩)]) ob ob r w M u) => wdeque_any wb rb _ ob w r W1 T.rig.wk T.rig.rk T.rig.kind (T.rig.level HDN.out))
    have HPU := Lib.hid (fun W1 => opush_any (r.at w.kind w.level) r.cap sw W1)
    go_wp2_with fail
    go_region_held3 (fun w' => w'.cell? ⟨wb, 8, none⟩ = some (.int .u64 (sw : Nat)))
      (first | assumption | exact c3 | exact csk (by assumption) (by decide) | exact csk (csk (by assumption) (by decide)) (by decide) | fail)
      (first
        | (go_at_call 61; refine (HD.out _ (HT3.out.keep (Chg.refl [] _).drew)).mono ?_; rintro e wa ⟨rfl, Ca⟩; have HTa := Lib.hid ((HT3.out.keep (Chg.refl [] _).drew).keep Ca); have k3 : wa.cell? ⟨wb, 8, none⟩ = some (.int .u64 (sw : Nat)) := ckp Ca.undrew c3; clear Ca)
        | (go_at_call 62; refine (HPU.out _).mono ?_; rintro e wz ⟨gn, rfl, Oz, Cz, gz⟩; have HTb := Lib.hid (HTa.out.keep Cz); have d6 := HTb.out.cell 6; have z6 := HTb.out.frozen 6; have d1 := HTb.out.cell 1; have z1 := HTb.out.frozen 1; have k33 : wz.cell? ⟨wb, 8, none⟩ = some (.int .u64 (sw : Nat)) := ckp Cz k3; simp only [wkCells] at d6 d1; have st1 := storeF6 wz (v := .pointer (some ⟨gn, 0, none⟩)) 130 d1 z1 (by decide); have HO := Lib.hid (And.intro Oz (show W.heap.size ≤ gn by have := HTa.out.size; omega)); clear Oz Cz gz)
        | fail)
    go_wp2_with fail
    (first | go_end0 | refine bodyPost_ret (results_none rfl _ _ _) rfl ?_ | (rw [Exit.noGoto_normal]; go_wp2_with fail; (first | go_end0 | refine bodyPost_ret (results_none rfl _ _ _) rfl ?_)) | (rw [Exit.noGoto_normal]; (first | go_end0 | refine bodyPost_ret (results_none rfl _ _ _) rfl ?_)))
    rw [HPS.out, if_pos (by trivial)]
    rw [HSW.out.1] at HO HSW
    exact ((HTb.out.op HO.out.1 (OkOp.new (HTb.out.opAt HDN.out).1 (HTb.out.opAt HDN.out).2 HTb.out.rig.ok.cap (by omega) (by exact HSW.out.2)) HO.out.2).next1 .again).fin rfl rfl
  | false =>
    have c10 := HT3.out.cell 10
    have y10 := HT3.out.frozen 10
    simp only [wkCells] at c10
    go_upto_region 3 with (fail)
    have HT4 := Lib.hid (HT3.out.set 10 (.bool false) (wk_s10 HT3.out.rig.wk false) rfl rfl rfl rfl rfl)
    obtain ⟨w4, hw4⟩ : ∃ w4, w4 = w3.setCell ⟨wb, 10, none⟩ (.bool false) := ⟨_, rfl⟩
    rw [← hw4] at HT4 ⊢
    clear hw4 c10 y10 HT3 c3
    have HD := Lib.hid (wdeque_any wb rb _ ob _ r _ HT4.out.rig.wk HT4.out.rig.rk HT4.out.rig.kind (HT4.out.rig.level HDN.out))
    go_wp2_with fail
    refine HD.out.mono ?_
    rintro e wa ⟨rfl, Ca⟩
    have HTa := Lib.hid (HT4.out.keep Ca)
    have HSS := Lib.hid (fun (g : World) => osteal_any (r.at w.kind w.level) r.cap g)
    clear Ca HD
    go_wp2_with fail
    refine (HSS.out _).mono ?_
    rintro e wz ⟨gn, rfl, Oz, Cz, gz⟩
    have HTb := Lib.hid (HTa.out.keep Cz)
    have d6 := HTb.out.cell 6
    have z6 := HTb.out.frozen 6
    have d1 := HTb.out.cell 1
    have z1 := HTb.out.frozen 1
    simp only [wkCells] at d6 d1
    have st1 := storeF6 wz (v := .pointer (some ⟨gn, 0, none⟩)) 96 d1 z1 (by decide)
    have HO := Lib.hid (And.intro Oz (show W.heap.size ≤ gn by have := HTa.out.size; omega))
    clear Oz Cz gz HSS
    go_wp2_with fail
    (first | go_end0 | refine bodyPost_ret (results_none rfl _ _ _) rfl ?_ | (rw [Exit.noGoto_normal]; go_wp2_with fail; (first | go_end0 | refine bodyPost_ret (results_none rfl _ _ _) rfl ?_)) | (rw [Exit.noGoto_normal]; (first | go_end0 | refine bodyPost_ret (results_none rfl _ _ _) rfl ?_)))
    rw [HPS.out, if_neg (by simp)]
    exact ((HTb.out.op HO.out.1 (OkOp.new (HTb.out.opAt HDN.out).1 (HTb.out.opAt HDN.out).2 HTb.out.rig.ok.cap (by omega) (by omega)) HO.out.2).next1 .sweeping).fin rfl rfl
set_option maxRecDepth 4000 in
set_option maxHeartbeats 8000000 in
theorem minding_any (W : World) (wb rb bm bw : Nat) (gv : Value) (ob : Option Nat) (r : RRack) (w : RWork) (M : List Nat) (u : Nat) (h : Rig W wb rb bm bw gv ob r w M u) (hd : w.done = false) (o : DOp) (ho : w.op = some o)
    (hn : w.next = .minding) (good : Nat → Bool) (hG : GoodF W wb gv good) (hk2 : o.kind = 2) (hs3 : 3 ≤ o.steps) (hx : o.x < 18446744073709551616) :
    Calls Tryz.prog 112 #[.pointer (some ⟨wb, 0, none⟩), .pointer (some ⟨bm, 0, none⟩)] W fun e W' => Turned W W' wb rb bm bw gv ob (phaseR good r w M u) e := by
  have HP : phaseR good r w M u = (if good o.x = true then (r, { w with next := .robbing }, M, u)
    else (r, { w with next := .robbing, done := true, err := 10 }, M, u)) := by
    unfold phaseR
    rw [hn, ho]
    rfl
  obtain ⟨g, rfl, a1, a2, a3, a4, a5, a6⟩ := h.opOf ho
  obtain ⟨cb, rfl, hG⟩ := hG
  have c6 : W.cell? ⟨wb, 6, none⟩ = some (.pointer (some ⟨g, 0, none⟩)) := by rw [Blk.cell h.wk]; rfl
  have c1 : W.cell? ⟨wb, 1, none⟩ = some (nextV w.next) := by rw [Blk.cell h.wk]; rfl
  have z1 : W.frozen? ⟨wb, 1, none⟩ = false := Blk.frozen h.wk 1
  have HTEL := Lib.hid (show telD 2 3 (·.x) o = (o.x, true) by unfold telD; rw [if_neg (by omega)])
  have HSEEN := Lib.hid (fun W1 (O : IsOp W1 g o) => dseen_any g o W1 O (by omega))
  rw [HTEL.out] at HSEEN
  have HO1 := Lib.hid (a1.chg (S := [wb]) ((Chg.refl _ _).setCell (a := ⟨wb, 1, none⟩) (.inl (by simp)) (nextV .robbing)) (by simp; exact a3))
  have HT := Lib.hid ((Tr.start h).next1 .robbing)
  have HG := Lib.hid (hG _ ((Chg.refl _ _).setCell (a := ⟨wb, 1, none⟩) (.inl (by simp)) (nextV .robbing)) o.x hx)
  have st1 := storeF W 91 c1 z1
  obtain ⟨S, hS⟩ : ∃ S, S = phaseR good r w M u := ⟨_, rfl⟩
  rw [← hS]
  rw [← hS] at HP
  have HPS := Lib.hid HP
  obtain ⟨b, hb⟩ : ∃ b, b = good o.x := ⟨_, rfl⟩
  rw [← hb] at HG HPS
  obtain ⟨x, hx'⟩ : ∃ x, x = o.x := ⟨_, rfl⟩
  rw [← hx'] at HG HSEEN
  clear HP hS h hd hG hb hn hx' HTEL a1 a2 a3 a4 a5 a6 hk2 hs3 hx ho
  go_enter Tryz.func112, Tryz.ntmps112
  go_upto_region 1 with (fail)
  obtain ⟨w1, hw1⟩ : ∃ w1, w1 = W.setCell ⟨wb, 1, none⟩ (nextV .robbing) := ⟨_, rfl⟩
  have hw1' : w1 = W.setCell ⟨wb, 1, none⟩ (.func (.func 91) #[] #[]) := hw1
  rw [← hw1] at HO1 HT HG
  rw [← hw1']
  clear hw1 hw1' st1 c1 z1 c6
  have c6 := HT.out.cell 6
  have c2 := HT.out.cell 2
  simp only [wkCells] at c6 c2
  have HE := Lib.hid (fun W1 (T : Tr W W1 wb rb bm bw _ (some g) (some g) r { w with next := .robbing } M u) => wend_any wb rb (.func (.func 31) #[] #[.pointer (some ⟨cb, 0, none⟩)]) (some g) { w with next := .robbing } 10 W1 T.rig.wk)
  cases b
  all_goals
    go_wp2_with (first
      | (go_at_call 111; refine (HSEEN.out _ HO1.out).mono ?_; rintro e w2 ⟨rfl, rfl⟩)
      | (go_at_call 31; refine HG.out.mono ?_; rintro e w3 ⟨rfl, C3⟩; have HT3 := Lib.hid (HT.out.keep C3); clear C3)
      | (go_at_call 83; refine (HE.out _ HT3.out).mono ?_; rintro e w5 ⟨rfl, B5, C5⟩; have HZ := Lib.hid (HT3.out.end_ 10 B5 C5); clear B5 C5)
      | fail)
    (first | go_end0 | refine bodyPost_ret (results_none rfl _ _ _) rfl ?_ | (rw [Exit.noGoto_normal]; go_wp2_with fail; (first | go_end0 | refine bodyPost_ret (results_none rfl _ _ _) rfl ?_)) | (rw [Exit.noGoto_normal]; (first | go_end0 | refine bodyPost_ret (results_none rfl _ _ _) rfl ?_)))
  · rw [HPS.out, if_neg (by simp)]
    exact HZ.out.fin rfl rfl
  · rw [HPS.out, if_pos (by trivial)]
    exact HT3.out.fin rfl rfl
end Go.Proofs.YtjdbgohfedjifaaGreatDoor
