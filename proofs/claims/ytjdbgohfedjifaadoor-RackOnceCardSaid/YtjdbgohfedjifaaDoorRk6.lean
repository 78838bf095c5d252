/- rack: taking. -/
import Derived.Test.YtjdbgohfedjifaaDoorRk5
namespace Go.Proofs.YtjdbgohfedjifaaDoor
open Go.RowKit Bosun
theorem okErr {o : DOp} (ok : OkOp o) : -9223372036854775808 ≤ (resD o).2 ∧ (resD o).2 ≤ 9223372036854775807 := by
  have := ok.e0; have := ok.e1
  unfold resD; split
  · simp
  · split
    · simp only; omega
    · simp
set_option maxHeartbeats 8000000 in
theorem taking_any (W : World) (wb rb bm bw : Nat) (gv : Value) (ob : Option Nat) (r : RRack) (w : RWork) (M : List Nat) (u : Nat) (h : Rig W wb rb bm bw gv ob r w M u) (hd : w.done = false) (o : DOp) (ho : w.op = some o)
    (hn : w.next = .taking) (good : Nat → Bool) :
    Calls Tryd.prog 60 #[.pointer (some ⟨wb, 0, none⟩), .pointer (some ⟨bm, 0, none⟩)] W fun e W' => Turned W W' wb rb bm bw gv ob (phaseR good r w M u) e := by
  obtain ⟨g, rfl, a1, a2, a3, a4, a5, a6⟩ := h.opOf ho
  have HP : phaseR good r w M u = (if (stepD o M u).1.done = false then (r, { w with op := some (stepD o M u).1 }, (stepD o M u).2.1, (stepD o M u).2.2)
    else if (resD (stepD o M u).1).2 ≠ 7 then (r, { w with op := some (stepD o M u).1, x := (resD (stepD o M u).1).1, done := true, err := (resD (stepD o M u).1).2 }, (stepD o M u).2.1, (stepD o M u).2.2)
    else (if put (r.set w.kind) w.level false ≠ r.set w.kind ∧ w.kind = 0 then (r.put w.kind (put (r.set w.kind) w.level false), { w with op := some (stepD o M u).1, next := .emptying }, (stepD o M u).2.1, (stepD o M u).2.2)
       else (r.put w.kind (put (r.set w.kind) w.level false), { w with op := some (stepD o M u).1, done := true, err := 8 }, (stepD o M u).2.1, (stepD o M u).2.2))) := by
    unfold phaseR
    rw [hn, ho]
    rfl
  have c6 : W.cell? ⟨wb, 6, none⟩ = some (.pointer (some ⟨g, 0, none⟩)) := by rw [Blk.cell h.wk]; rfl
  have HS := Lib.hid (step_any g o W a1 a2 bm bw M u h.mem a5 a6)
  have hok := okStep (W := M) (u := u) a2 h.mem.small
  obtain ⟨o', ho'⟩ : ∃ o', o' = (stepD o M u).1 := ⟨_, rfl⟩
  obtain ⟨M', hM'⟩ : ∃ M', M' = (stepD o M u).2.1 := ⟨_, rfl⟩
  obtain ⟨u', hu'⟩ : ∃ u', u' = (stepD o M u).2.2 := ⟨_, rfl⟩
  unfold Stepped at HS
  rw [← ho', ← hM', ← hu'] at HS HP
  rw [← ho'] at hok
  obtain ⟨S, hS⟩ : ∃ S, S = phaseR good r w M u := ⟨_, rfl⟩
  rw [← hS]
  rw [← hS] at HP
  have HPS := Lib.hid HP
  have HH := Lib.hid h
  have NE := Lib.hid (And.intro a3 (And.intro a4 (And.intro a5 a6)))
  clear HP hS ho' hM' hu' a1 a2 h
  go_enter Tryd.func60, Tryd.ntmps60
  go_wp2_with fail
  refine HS.out.mono ?_
  rintro e w1 ⟨rfl, O1, M1, C1⟩
  have W1 : IsWk w1 wb rb gv (some g) w := Blk.chg HH.out.wk C1 (by simp; exact ⟨Ne.symm NE.out.1, HH.out.wm, HH.out.ww⟩)
  have R1 : IsRk w1 rb r := Blk.chg HH.out.rk C1 (by simp; exact ⟨Ne.symm NE.out.2.1, HH.out.rm, HH.out.rw_⟩)
  have D1 : Chg (wb :: rb :: bm :: bw :: [g]) W w1 := C1.mono (by intro g hg; left; simp at hg ⊢; omega)
  clear HS C1 c6
  cases hdn : o'.done with
  | false =>
    have e1 : Rig w1 wb rb bm bw gv (some g) r { w with op := some o' } M' u' := ⟨W1, R1, M1, ⟨O1, hok⟩, HH.out.ok, HH.out.kind, HH.out.level, HH.out.steps⟩
    have E1 := Lib.hid e1
    clear e1 W1 R1 O1 M1
    go_wp2_with fail
    (first | go_end0 | refine bodyPost_ret (results_none rfl _ _ _) rfl ?_)
    rw [HPS.out, if_pos hdn]
    exact ⟨rfl, some g, E1.out, D1, .inl rfl⟩
  | true =>
    have c6 : w1.cell? ⟨wb, 6, none⟩ = some (.pointer (some ⟨g, 0, none⟩)) := by rw [Blk.cell W1]; rfl
    have HR := Lib.hid (result_any g o' w1 O1)
    obtain ⟨rx, hrx⟩ : ∃ rx, rx = (resD o').1 := ⟨_, rfl⟩
    obtain ⟨re, hre⟩ : ∃ re, re = (resD o').2 := ⟨_, rfl⟩
    rw [← hrx, ← hre] at HR HPS
    clear hrx hre
    by_cases h7 : re = 7
    · subst h7
      go_wp2_with fail
      refine HR.out.mono ?_
      rintro e w2 ⟨rfl, C2⟩
      have W2 := Blk.chg W1 C2 (by simp)
      have R2 : IsRk w2 rb r := Blk.chg R1 C2 (by simp)
      have O2 := O1.chg C2 (by simp)
      have M2 := M1.chg C2 (by simp) (by simp)
      have D2 := D1.then C2 (by simp)
      have HM := Lib.hid (mark_any wb rb gv (some g) w r w2 false W2 R2 HH.out.kind (HH.out.level hd) HH.out.ok)
      clear W1 R1 O1 M1 D1 C2 c6 HR
      go_wp2_with fail
      refine HM.out.mono ?_
      rintro e w4 ⟨rfl, R4, C4⟩
      have W4 := Blk.chg W2 C4 (by simp; exact HH.out.wr)
      have O4 := O2.chg C4 (by simp; exact NE.out.2.1)
      have M4 := M2.chg C4 (by simp; exact Ne.symm HH.out.rm) (by simp; exact Ne.symm HH.out.rw_)
      have D4 : Chg (wb :: rb :: bm :: bw :: [g]) W w4 := D2.then C4 (by intro g hg; left; simp at hg ⊢; omega)
      have K4 : OkRack (r.put w.kind (put (r.set w.kind) w.level false)) := okRack_put HH.out.ok (put256 (okRack_set256 HH.out.ok _) (HH.out.level hd) false)
      clear W2 R2 O2 M2 D2 C4 HM
      by_cases hc : put (r.set w.kind) w.level false ≠ r.set w.kind ∧ w.kind = 0
      · rw [decide_eq_true hc]
        have HC := Lib.hid hc
        have HK := Lib.hid K4
        have HX := Lib.hid (And.intro W4 (And.intro R4 (And.intro O4 (And.intro M4 D4))))
        clear hc W4 R4 O4 M4 D4 K4
        go_wp2_with (first
          | (refine wpList_val_store rfl 78 (.tmp 34) (.func 83) rfl wb 1 rfl _ rfl _ _ HX.out.1 (by simp [wkCells]) (by kernel_rfl) rfl ?_
             intro w5 B5 C5
             have W5 : IsWk w5 wb rb gv (some g) { w with next := .emptying } := B5
             have HW5 := Lib.hid W5
             have HC5 := Lib.hid C5
             clear B5 W5 C5)
          | fail)
        (first | go_end0 | refine bodyPost_ret (results_none rfl _ _ _) rfl ?_)
        rw [HPS.out, if_neg (by simp [hdn]), if_neg (by simp), if_pos HC.out]
        obtain ⟨W4, R4, O4, M4, D4⟩ := HX.out
        have C5 := HC5.out
        exact ⟨rfl, some g, ⟨HW5.out, Blk.chg R4 C5 (by simp; exact Ne.symm HH.out.wr), M4.chg C5 (by simp; exact Ne.symm HH.out.wm) (by simp; exact Ne.symm HH.out.ww), ⟨O4.chg C5 (by simp; exact NE.out.1), hok⟩, HK.out, HH.out.kind, HH.out.level, HH.out.steps⟩, D4.then C5 (by intro g hg; left; simp at hg ⊢; omega), .inl rfl⟩
      · rw [decide_eq_false hc]
        have HC := Lib.hid hc
        have HK := Lib.hid K4
        have HE := Lib.hid (wend_any wb rb gv (some g) w 8 w4 W4)
        clear hc K4
        go_wp2_with fail
        refine HE.out.mono ?_
        rintro e w5 ⟨rfl, W5, C5⟩
        have R5 : IsRk w5 rb _ := Blk.chg R4 C5 (by simp; exact Ne.symm HH.out.wr)
        have O5 := O4.chg C5 (by simp; exact NE.out.1)
        have M5 := M4.chg C5 (by simp; exact Ne.symm HH.out.wm) (by simp; exact Ne.symm HH.out.ww)
        have D5 : Chg (wb :: rb :: bm :: bw :: [g]) W w5 := D4.then C5 (by intro g hg; left; simp at hg ⊢; omega)
        have HX := Lib.hid (And.intro W5 (And.intro R5 (And.intro O5 (And.intro M5 D5))))
        clear W4 R4 O4 M4 D4 W5 R5 O5 M5 D5 C5 HE
        go_wp2_with fail
        (first | go_end0 | refine bodyPost_ret (results_none rfl _ _ _) rfl ?_)
        rw [HPS.out, if_neg (by simp [hdn]), if_neg (by simp), if_neg HC.out]
        obtain ⟨W5, R5, O5, M5, D5⟩ := HX.out
        exact ⟨rfl, some g, ⟨W5, R5, M5, ⟨O5, hok⟩, HK.out, HH.out.kind, fun h => by simp at h, HH.out.steps⟩, D5, .inl rfl⟩
    · have h7b : (re != 7) = true := by simp [h7]
      have H7 := Lib.hid h7
      clear h7
      go_wp2_with fail
      refine HR.out.mono ?_
      rintro e w2 ⟨rfl, C2⟩
      have W2 : IsWk w2 wb rb gv (some g) w := Blk.chg W1 C2 (by simp)
      have R2 : IsRk w2 rb r := Blk.chg R1 C2 (by simp)
      have O2 := O1.chg C2 (by simp)
      have M2 := M1.chg C2 (by simp) (by simp)
      have D2 := D1.then C2 (by simp)
      have c3 : w2.cell? ⟨wb, 3, none⟩ = some (.int .u64 (w.x : Nat)) := by rw [Blk.cell W2]; rfl
      have z3 : w2.frozen? ⟨wb, 3, none⟩ = false := Blk.frozen W2 _
      clear W1 R1 O1 M1 D1 C2 c6 HR
      go_upto_region 4 with (fail)
      have W3 := wk_s3 W2 rx
      have C3 : Chg [wb] w2 (w2.setCell ⟨wb, 3, none⟩ (.int .u64 (rx : Nat))) := (Chg.refl _ _).setCell (.inl (by simp)) _
      obtain ⟨w3, hw3⟩ : ∃ w3, w3 = w2.setCell ⟨wb, 3, none⟩ (.int .u64 (rx : Nat)) := ⟨_, rfl⟩
      rw [← hw3] at W3 C3 ⊢
      have HE := Lib.hid (wend_any wb rb gv (some g) _ re w3 W3)
      clear hw3 c3 z3
      go_wp2_with fail
      refine HE.out.mono ?_
      rintro e w5 ⟨rfl, W5, C5⟩
      have C35 : Chg [wb] w2 w5 := C3.then C5 (by simp)
      have R5 : IsRk w5 rb _ := Blk.chg R2 C35 (by simp; exact Ne.symm HH.out.wr)
      have O5 := O2.chg C35 (by simp; exact NE.out.1)
      have M5 := M2.chg C35 (by simp; exact Ne.symm HH.out.wm) (by simp; exact Ne.symm HH.out.ww)
      have D5 : Chg (wb :: rb :: bm :: bw :: [g]) W w5 := D2.then C35 (by intro g hg; left; simp at hg ⊢; omega)
      have HX := Lib.hid (And.intro W5 (And.intro R5 (And.intro O5 (And.intro M5 D5))))
      clear W2 R2 O2 M2 D2 W3 C3 W5 R5 O5 M5 D5 C5 C35 HE
      go_wp2_with fail
      (first | go_end0 | refine bodyPost_ret (results_none rfl _ _ _) rfl ?_)
      rw [HPS.out, if_neg (by simp [hdn]), if_pos H7.out]
      obtain ⟨W5, R5, O5, M5, D5⟩ := HX.out
      exact ⟨rfl, some g, ⟨W5, R5, M5, ⟨O5, hok⟩, HH.out.ok, HH.out.kind, fun h => by simp at h, HH.out.steps⟩, D5, .inl rfl⟩
end Go.Proofs.YtjdbgohfedjifaaDoor
