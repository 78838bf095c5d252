/- rack: choosing. -/
import Derived.Test.YtjdbgohfedjifaaGreatDoorRkB3
namespace Go.Proofs.YtjdbgohfedjifaaGreatDoor
open Go.RowKit Bosun
theorem wk_s4 {W : World} {wb rb : Nat} {gv : Value} {ob : Option Nat} {w : RWork} (h : IsWk W wb rb gv ob w) (x : Nat) : IsWk (W.setCell ⟨wb, 4, none⟩ (.int .i64 (x : Nat))) wb rb gv ob { w with level := x } := Blk.setCell h 4 _
theorem wk_s5 {W : World} {wb rb : Nat} {gv : Value} {ob : Option Nat} {w : RWork} (h : IsWk W wb rb gv ob w) (x : Nat) : IsWk (W.setCell ⟨wb, 5, none⟩ (.int .i64 (x : Nat))) wb rb gv ob { w with kind := x } := Blk.setCell h 5 _
theorem has_nat {s l : Nat} (hl : l < 64) : has s (l : Int) = s.testBit l := by
  unfold has
  have h1 : decide ((0 : Int) ≤ (l : Int)) = true := by simp
  have h2 : decide ((l : Int) < 64) = true := by simp; omega
  rw [h1, h2]; simp
theorem bestR_lt {r : RRack} (ok : OkRack r) (h : bestR r ≠ 8) : bestR r < 8 := by
  by_cases h0 : r.s0 ||| r.s1 = 0
  · exact absurd (bestR_zero h0) h
  · exact least256_lt ⟨r.s0 ||| r.s1, or256 ok.z0 ok.z1⟩ h0
theorem atOk {r : RRack} (ok : OkRack r) {k l : Nat} (hk : k < 2) (hl : l < 8) : -100 ≤ r.at k l ∧ r.at k l ≤ 1000000 := by
  have h1 := ok.b0; have h2 := ok.b1; have h3 := ok.cap.le
  unfold RRack.at
  have : (8 * k + l) * (2 + r.cap) ≤ 15 * 258 := Nat.mul_le_mul (by omega) (by omega)
  omega
set_option maxRecDepth 4000 in
set_option maxHeartbeats 8000000 in
theorem choosing_any (W : World) (wb rb bm bw : Nat) (gv : Value) (ob : Option Nat) (r : RRack) (w : RWork) (M : List Nat) (u : Nat) (h : Rig W wb rb bm bw gv ob r w M u) (hd : w.done = false)
    (hn : w.next = .choosing) (good : Nat → Bool) (hT : TabW W) :
    Calls Tryz.prog 55 #[.pointer (some ⟨wb, 0, none⟩), .pointer (some ⟨bm, 0, none⟩)] W fun e W' => Turned W W' wb rb bm bw gv ob (phaseR good r w M u) e := by
  have HP : phaseR good r w M u = (if bestR r = 8 then (r, { w with level := 8, done := true, err := 7 }, M, u)
    else ((if (r.s0.testBit (bestR r) && r.s1.testBit (bestR r)) = true then { r with turn := 1 - r.turn } else r),
      { w with level := bestR r, kind := if (r.s0.testBit (bestR r) && r.s1.testBit (bestR r)) = true then r.turn else if r.s1.testBit (bestR r) = true then 1 else w.kind,
               op := some (newD (r.at (if (r.s0.testBit (bestR r) && r.s1.testBit (bestR r)) = true then r.turn else if r.s1.testBit (bestR r) = true then 1 else w.kind) (bestR r)) r.cap 2 0), next := .taking }, M, u)) := by
    unfold phaseR
    rw [hn]
    rfl
  have HL := fun h8 => bestR_lt h.ok h8
  have c0 : W.cell? ⟨wb, 0, none⟩ = some (.pointer (some ⟨rb, 0, none⟩)) := by rw [Blk.cell h.wk]; rfl
  have HB := Lib.hid (best_any rb r W h.rk h.ok hT)
  obtain ⟨l, hl⟩ : ∃ l, l = bestR r := ⟨_, rfl⟩
  rw [← hl] at HP HB HL
  obtain ⟨S, hS⟩ : ∃ S, S = phaseR good r w M u := ⟨_, rfl⟩
  rw [← hS]
  rw [← hS] at HP
  have HPS := Lib.hid HP
  have HH := Lib.hid h
  have HLL := Lib.hid HL
  clear HP hS h hl HL hT
  go_enter Tryz.func55, Tryz.ntmps55
  go_wp2_with fail
  refine HB.out.mono ?_
  rintro e w1 ⟨rfl, C1⟩
  have W1 : IsWk w1 wb rb gv ob w := Blk.chg HH.out.wk C1 (by simp)
  have c4 : w1.cell? ⟨wb, 4, none⟩ = some (.int .i64 (w.level : Nat)) := by rw [Blk.cell W1]; rfl
  have z4 : w1.frozen? ⟨wb, 4, none⟩ = false := Blk.frozen W1 _
  clear c0 HB
  go_upto_region 2 with (fail)
  have W2 := wk_s4 W1 l
  have C2 : Chg [wb] W (w1.setCell ⟨wb, 4, none⟩ (.int .i64 (l : Nat))) := C1.weak.setCell (.inl (by simp)) _
  obtain ⟨w2, hw2⟩ : ∃ w2, w2 = w1.setCell ⟨wb, 4, none⟩ (.int .i64 (l : Nat)) := ⟨_, rfl⟩
  rw [← hw2] at W2 C2 ⊢
  clear hw2 W1 C1 c4 z4
  have R2 : IsRk w2 rb r := Blk.chg HH.out.rk C2 (by simp; exact Ne.symm HH.out.wr)
  have M2 := HH.out.mem.chg C2 (by simp; exact Ne.symm HH.out.wm) (by simp; exact Ne.symm HH.out.ww)
  have O2 : OpAt w2 ob w.op := HH.out.opChg (C2.mono (by intro g hg; left; simp at hg ⊢; omega))
  have c4 : w2.cell? ⟨wb, 4, none⟩ = some (.int .i64 (l : Nat)) := by rw [Blk.cell W2]; rfl
  by_cases h8 : l = 8
  · have HE := Lib.hid (wend_any wb rb gv ob _ 7 w2 W2)
    have e8 : ((l : Int) == 8) = true := by simp [h8]
    have H8 := Lib.hid h8
    have HX := Lib.hid (And.intro R2 (And.intro M2 (And.intro O2 C2)))
    clear h8 W2 R2 M2 O2 C2
    go_wp2_with fail
    refine HE.out.mono ?_
    rintro e w5 ⟨rfl, W5, C5⟩
    have HX5 := Lib.hid (And.intro W5 C5)
    clear W5 C5 HE
    go_wp2_with fail
    (first | go_end0 | refine bodyPost_ret (results_none rfl _ _ _) rfl ?_)
    rw [HPS.out, if_pos H8.out]
    obtain ⟨R2, M2, O2, C2⟩ := HX.out
    obtain ⟨W5, C5⟩ := HX5.out
    have CC : Chg (wb :: rb :: bm :: bw :: ob.toList) W w5 := C2.mono (by intro g hg; left; simp at hg ⊢; left; exact hg) |>.then C5 (by intro g hg; left; simp at hg ⊢; left; exact hg)
    rw [H8.out] at W5
    exact ⟨rfl, ob, ⟨W5, Blk.chg R2 C5 (by simp; exact Ne.symm HH.out.wr), M2.chg C5 (by simp; exact Ne.symm HH.out.wm) (by simp; exact Ne.symm HH.out.ww), HH.out.opChg ((C2.then C5 (by simp)).mono (by intro g hg; left; simp at hg ⊢; left; exact hg)), HH.out.ok, HH.out.kind, fun h => by simp at h, HH.out.steps⟩, CC, .inl rfl⟩
  · have hl8 := HLL.out h8
    have e8 : ((l : Int) == 8) = false := by simp; omega
    have d0 : w2.cell? ⟨rb, 33, none⟩ = some (.int .u64 (r.s0 : Nat)) := R2.cset (k := 0) (by omega)
    have d1 : w2.cell? ⟨rb, 34, none⟩ = some (.int .u64 (r.s1 : Nat)) := R2.cset (k := 1) (by omega)
    have HA := Lib.hid (fun w => shas_any r.s0 HH.out.ok.s0 (l : Int) (by omega) (by omega) w)
    have HBb := Lib.hid (fun w => shas_any r.s1 HH.out.ok.s1 (l : Int) (by omega) (by omega) w)
    rw [has_nat (by omega)] at HA HBb
    obtain ⟨a, ha⟩ : ∃ a, a = r.s0.testBit l := ⟨_, rfl⟩
    obtain ⟨b, hb⟩ : ∃ b, b = r.s1.testBit l := ⟨_, rfl⟩
    rw [← ha] at HA HPS
    rw [← hb] at HBb HPS
    have H8 := Lib.hid h8
    have HL8 := Lib.hid hl8
    have HX := Lib.hid (And.intro W2 (And.intro R2 (And.intro M2 C2)))
    clear h8 W2 R2 M2 O2 C2 ha hb hl8
    go_upto_region 4 with (fail)
    go_region_held3 (fun w' => w'.cell? ⟨wb, 4, none⟩ = some (.int .i64 (l : Nat)) ∧ w'.cell? ⟨rb, 33, none⟩ = some (.int .u64 (r.s0 : Nat)) ∧ w'.cell? ⟨rb, 34, none⟩ = some (.int .u64 (r.s1 : Nat)))
      (first | assumption | exact ⟨c4, d0, d1⟩ | fail)
      (first
        | (go_at_call 84; refine (HA.out _).mono ?_; rintro e w3 ⟨rfl, rfl⟩)
        | (go_at_call 84; refine (HBb.out _).mono ?_; rintro e w3 ⟨rfl, rfl⟩)
        | fail)
    obtain ⟨W2, R2, M2, C2⟩ := HX.out
    have c5 : w2.cell? ⟨wb, 5, none⟩ = some (.int .i64 (w.kind : Nat)) := by rw [Blk.cell W2]; rfl
    have z5 : w2.frozen? ⟨wb, 5, none⟩ = false := Blk.frozen W2 _
    have ct : w2.cell? ⟨rb, 35, none⟩ = some (.int .i64 (r.turn : Nat)) := R2.cturn
    have zt : w2.frozen? ⟨rb, 35, none⟩ = false := Blk.frozen R2 _
    have htt := HH.out.ok.turn
    have hwr := HH.out.wr
    clear W2 R2 M2 C2 c4 d0 d1 HA HBb
    cases a
    · cases b
      · go_upto_region 9 with (fail)
        obtain ⟨W2, R2, M2, C2⟩ := HX.out
        obtain ⟨wq, hwq⟩ : ∃ wq, wq = w2.drew := ⟨_, rfl⟩
        rw [← hwq]
        have W4 : IsWk wq wb rb gv ob { w with level := l, kind := w.kind } := by rw [hwq]; exact Blk.drew W2
        have R4 : IsRk wq rb r := by rw [hwq]; exact Blk.drew R2
        have C4 : Chg [wb, rb] W wq := by rw [hwq]; exact (C2.mono (by intro g hg; left; simp at hg ⊢; left; exact hg)).drew
        clear hwq W2 R2 M2 C2 c5 z5 ct zt
        have HD := Lib.hid (wdeque_any wb rb gv ob { w with level := l, kind := w.kind } r wq W4 R4 (by exact HH.out.kind) HL8.out)
        have HY := Lib.hid (And.intro W4 (And.intro R4 C4))
        clear W4 R4 C4
        go_wp2_with fail
        refine HD.out.mono ?_
        rintro e w5 ⟨rfl, C5⟩
        have HS := Lib.hid (osteal_any (r.at w.kind l) r.cap w5)
        have HC5 := Lib.hid C5
        clear C5 HD
        go_wp2_with fail
        refine HS.out.mono ?_
        rintro e w6 ⟨gn, rfl, O6, C6, g6⟩
        have C56 := HC5.out.then C6 (by simp)
        have W6 : IsWk w6 wb rb gv ob { w with level := l, kind := w.kind } := Blk.chg HY.out.1 C56 (by simp)
        have hgw : gn ≠ wb := by have := Blk.lt HY.out.1; have := HC5.out.size; omega
        have HO6 := Lib.hid O6
        have HC56 := Lib.hid C56
        have c6 : w6.cell? ⟨wb, 6, none⟩ = some (ptrO ob) := by rw [Blk.cell W6]; rfl
        have z6 : w6.frozen? ⟨wb, 6, none⟩ = false := Blk.frozen W6 _
        have W7 : IsWk (w6.setCell ⟨wb, 6, none⟩ (.pointer (some ⟨gn, 0, none⟩))) wb rb gv (some gn) { w with level := l, kind := w.kind } := Blk.setCell W6 6 _
        have C7 : Chg [wb] w6 (w6.setCell ⟨wb, 6, none⟩ (.pointer (some ⟨gn, 0, none⟩))) := (Chg.refl _ _).setCell (.inl (by simp)) _
        have H7 := Lib.hid (And.intro W7 C7)
        clear O6 C6 C56 W6 W7 C7 HS
        go_wp2_with (first
          | (refine wpList_val_store rfl 91 (.tmp 76) (.func 86) rfl wb 1 rfl _ rfl _ _ H7.out.1 (by simp [wkCells]) (by kernel_rfl) rfl ?_
             intro w8 B8 C8
             have W8 : IsWk w8 wb rb gv (some gn) { w with level := l, kind := w.kind, next := .taking } := B8
             have HW8 := Lib.hid W8
             have HC8 := Lib.hid C8
             clear B8 W8 C8)
          | fail)
        (first | go_end0 | refine bodyPost_ret (results_none rfl _ _ _) rfl ?_)
        rw [HPS.out, if_neg H8.out]
        have C78 : Chg [wb] w6 w8 := H7.out.2.then HC8.out (by simp)
        have C48 : Chg [wb] wq w8 := HC56.out.weak.then C78 (by simp)
        have C0 : Chg [wb, rb] W w8 := HY.out.2.2.then C48 (by simp)
        exact ⟨rfl, some gn, ⟨HW8.out, Blk.chg HY.out.2.1 C48 (by simp; exact Ne.symm HH.out.wr), HH.out.mem.chg C0 (by simp; exact ⟨Ne.symm HH.out.wm, Ne.symm HH.out.rm⟩) (by simp; exact ⟨Ne.symm HH.out.ww, Ne.symm HH.out.rw_⟩),
          ⟨HO6.out.chg C78 (by simp; exact hgw), OkOp.new (atOk HH.out.ok (by exact HH.out.kind) HL8.out).1 (atOk HH.out.ok (by exact HH.out.kind) HL8.out).2 HH.out.ok.cap (by omega) (by omega)⟩, HH.out.ok, (by exact HH.out.kind), fun _ => HL8.out, HH.out.steps⟩, C0.mono (by intro g hg; left; simp at hg ⊢; omega), .inr ⟨gn, rfl, by have := HY.out.2.2.size; have := HC5.out.size; omega⟩⟩
      · go_upto_region 9 with (fail)
        obtain ⟨W2, R2, M2, C2⟩ := HX.out
        obtain ⟨wq, hwq⟩ : ∃ wq, wq = (w2.setCell ⟨wb, 5, none⟩ (.int .i64 1)).drew := ⟨_, rfl⟩
        rw [← hwq]
        have W4 : IsWk wq wb rb gv ob { w with level := l, kind := 1 } := by rw [hwq]; exact Blk.drew (wk_s5 W2 1)
        have R4 : IsRk wq rb r := by rw [hwq]; exact Blk.drew (Blk.setCell_other R2 _ (Ne.symm hwr))
        have C4 : Chg [wb, rb] W wq := by rw [hwq]; exact ((C2.mono (by intro g hg; left; simp at hg ⊢; left; exact hg)).setCell (.inl (by simp)) _).drew
        clear hwq W2 R2 M2 C2 c5 z5 ct zt
        have HD := Lib.hid (wdeque_any wb rb gv ob { w with level := l, kind := 1 } r wq W4 R4 (by exact (by decide : (1 : Nat) < 2)) HL8.out)
        have HY := Lib.hid (And.intro W4 (And.intro R4 C4))
        clear W4 R4 C4
        go_wp2_with fail
        refine HD.out.mono ?_
        rintro e w5 ⟨rfl, C5⟩
        have HS := Lib.hid (osteal_any (r.at 1 l) r.cap w5)
        have HC5 := Lib.hid C5
        clear C5 HD
        go_wp2_with fail
        refine HS.out.mono ?_
        rintro e w6 ⟨gn, rfl, O6, C6, g6⟩
        have C56 := HC5.out.then C6 (by simp)
        have W6 : IsWk w6 wb rb gv ob { w with level := l, kind := 1 } := Blk.chg HY.out.1 C56 (by simp)
        have hgw : gn ≠ wb := by have := Blk.lt HY.out.1; have := HC5.out.size; omega
        have HO6 := Lib.hid O6
        have HC56 := Lib.hid C56
        have c6 : w6.cell? ⟨wb, 6, none⟩ = some (ptrO ob) := by rw [Blk.cell W6]; rfl
        have z6 : w6.frozen? ⟨wb, 6, none⟩ = false := Blk.frozen W6 _
        have W7 : IsWk (w6.setCell ⟨wb, 6, none⟩ (.pointer (some ⟨gn, 0, none⟩))) wb rb gv (some gn) { w with level := l, kind := 1 } := Blk.setCell W6 6 _
        have C7 : Chg [wb] w6 (w6.setCell ⟨wb, 6, none⟩ (.pointer (some ⟨gn, 0, none⟩))) := (Chg.refl _ _).setCell (.inl (by simp)) _
        have H7 := Lib.hid (And.intro W7 C7)
        clear O6 C6 C56 W6 W7 C7 HS
        go_wp2_with (first
          | (refine wpList_val_store rfl 91 (.tmp 76) (.func 86) rfl wb 1 rfl _ rfl _ _ H7.out.1 (by simp [wkCells]) (by kernel_rfl) rfl ?_
             intro w8 B8 C8
             have W8 : IsWk w8 wb rb gv (some gn) { w with level := l, kind := 1, next := .taking } := B8
             have HW8 := Lib.hid W8
             have HC8 := Lib.hid C8
             clear B8 W8 C8)
          | fail)
        (first | go_end0 | refine bodyPost_ret (results_none rfl _ _ _) rfl ?_)
        rw [HPS.out, if_neg H8.out]
        have C78 : Chg [wb] w6 w8 := H7.out.2.then HC8.out (by simp)
        have C48 : Chg [wb] wq w8 := HC56.out.weak.then C78 (by simp)
        have C0 : Chg [wb, rb] W w8 := HY.out.2.2.then C48 (by simp)
        exact ⟨rfl, some gn, ⟨HW8.out, Blk.chg HY.out.2.1 C48 (by simp; exact Ne.symm HH.out.wr), HH.out.mem.chg C0 (by simp; exact ⟨Ne.symm HH.out.wm, Ne.symm HH.out.rm⟩) (by simp; exact ⟨Ne.symm HH.out.ww, Ne.symm HH.out.rw_⟩),
          ⟨HO6.out.chg C78 (by simp; exact hgw), OkOp.new (atOk HH.out.ok (by exact (by decide : (1 : Nat) < 2)) HL8.out).1 (atOk HH.out.ok (by exact (by decide : (1 : Nat) < 2)) HL8.out).2 HH.out.ok.cap (by omega) (by omega)⟩, HH.out.ok, (by exact (by decide : (1 : Nat) < 2)), fun _ => HL8.out, HH.out.steps⟩, C0.mono (by intro g hg; left; simp at hg ⊢; omega), .inr ⟨gn, rfl, by have := HY.out.2.2.size; have := HC5.out.size; omega⟩⟩
    · cases b
      · go_upto_region 9 with (fail)
        obtain ⟨W2, R2, M2, C2⟩ := HX.out
        obtain ⟨wq, hwq⟩ : ∃ wq, wq = w2.drew := ⟨_, rfl⟩
        rw [← hwq]
        have W4 : IsWk wq wb rb gv ob { w with level := l, kind := w.kind } := by rw [hwq]; exact Blk.drew W2
        have R4 : IsRk wq rb r := by rw [hwq]; exact Blk.drew R2
        have C4 : Chg [wb, rb] W wq := by rw [hwq]; exact (C2.mono (by intro g hg; left; simp at hg ⊢; left; exact hg)).drew
        clear hwq W2 R2 M2 C2 c5 z5 ct zt
        have HD := Lib.hid (wdeque_any wb rb gv ob { w with level := l, kind := w.kind } r wq W4 R4 (by exact HH.out.kind) HL8.out)
        have HY := Lib.hid (And.intro W4 (And.intro R4 C4))
        clear W4 R4 C4
        go_wp2_with fail
        refine HD.out.mono ?_
        rintro e w5 ⟨rfl, C5⟩
        have HS := Lib.hid (osteal_any (r.at w.kind l) r.cap w5)
        have HC5 := Lib.hid C5
        clear C5 HD
        go_wp2_with fail
        refine HS.out.mono ?_
        rintro e w6 ⟨gn, rfl, O6, C6, g6⟩
        have C56 := HC5.out.then C6 (by simp)
        have W6 : IsWk w6 wb rb gv ob { w with level := l, kind := w.kind } := Blk.chg HY.out.1 C56 (by simp)
        have hgw : gn ≠ wb := by have := Blk.lt HY.out.1; have := HC5.out.size; omega
        have HO6 := Lib.hid O6
        have HC56 := Lib.hid C56
        have c6 : w6.cell? ⟨wb, 6, none⟩ = some (ptrO ob) := by rw [Blk.cell W6]; rfl
        have z6 : w6.frozen? ⟨wb, 6, none⟩ = false := Blk.frozen W6 _
        have W7 : IsWk (w6.setCell ⟨wb, 6, none⟩ (.pointer (some ⟨gn, 0, none⟩))) wb rb gv (some gn) { w with level := l, kind := w.kind } := Blk.setCell W6 6 _
        have C7 : Chg [wb] w6 (w6.setCell ⟨wb, 6, none⟩ (.pointer (some ⟨gn, 0, none⟩))) := (Chg.refl _ _).setCell (.inl (by simp)) _
        have H7 := Lib.hid (And.intro W7 C7)
        clear O6 C6 C56 W6 W7 C7 HS
        go_wp2_with (first
          | (refine wpList_val_store rfl 91 (.tmp 76) (.func 86) rfl wb 1 rfl _ rfl _ _ H7.out.1 (by simp [wkCells]) (by kernel_rfl) rfl ?_
             intro w8 B8 C8
             have W8 : IsWk w8 wb rb gv (some gn) { w with level := l, kind := w.kind, next := .taking } := B8
             have HW8 := Lib.hid W8
             have HC8 := Lib.hid C8
             clear B8 W8 C8)
          | fail)
        (first | go_end0 | refine bodyPost_ret (results_none rfl _ _ _) rfl ?_)
        rw [HPS.out, if_neg H8.out]
        have C78 : Chg [wb] w6 w8 := H7.out.2.then HC8.out (by simp)
        have C48 : Chg [wb] wq w8 := HC56.out.weak.then C78 (by simp)
        have C0 : Chg [wb, rb] W w8 := HY.out.2.2.then C48 (by simp)
        exact ⟨rfl, some gn, ⟨HW8.out, Blk.chg HY.out.2.1 C48 (by simp; exact Ne.symm HH.out.wr), HH.out.mem.chg C0 (by simp; exact ⟨Ne.symm HH.out.wm, Ne.symm HH.out.rm⟩) (by simp; exact ⟨Ne.symm HH.out.ww, Ne.symm HH.out.rw_⟩),
          ⟨HO6.out.chg C78 (by simp; exact hgw), OkOp.new (atOk HH.out.ok (by exact HH.out.kind) HL8.out).1 (atOk HH.out.ok (by exact HH.out.kind) HL8.out).2 HH.out.ok.cap (by omega) (by omega)⟩, HH.out.ok, (by exact HH.out.kind), fun _ => HL8.out, HH.out.steps⟩, C0.mono (by intro g hg; left; simp at hg ⊢; omega), .inr ⟨gn, rfl, by have := HY.out.2.2.size; have := HC5.out.size; omega⟩⟩
      · go_wp2_with fail
        go_big_region
        obtain ⟨W2, R2, M2, C2⟩ := HX.out
        obtain ⟨wq, hwq⟩ : ∃ wq, wq = ((w2.setCell ⟨wb, 5, none⟩ (.int .i64 (r.turn : Nat))).setCell ⟨rb, 35, none⟩ (.int .i64 (1 - (r.turn : Int)))).drew.drew := ⟨_, rfl⟩
        rw [← hwq]
        have h1t : (1 : Int) - (r.turn : Int) = ((1 - r.turn : Nat) : Int) := by omega
        have W4 : IsWk wq wb rb gv ob { w with level := l, kind := r.turn } := by rw [hwq]; exact (Blk.setCell_other (wk_s5 W2 r.turn) _ hwr).drew.drew
        have R4 : IsRk wq rb { r with turn := 1 - r.turn } := by
          have h := Blk.setCell (Blk.setCell_other R2 (a := ⟨wb, 5, none⟩) (.int .i64 (r.turn : Nat)) (Ne.symm hwr)) 35 (.int .i64 ((1 - r.turn : Nat) : Int))
          rw [rackRow_turn] at h
          rw [hwq, h1t]
          exact h.drew.drew
        have C4 : Chg [wb, rb] W wq := by rw [hwq]; exact (((C2.mono (by intro g hg; left; simp at hg ⊢; left; exact hg)).setCell (.inl (by simp)) _).setCell (.inl (by simp)) _).drew.drew
        clear hwq W2 R2 M2 C2 c5 z5 ct zt
        have HD := Lib.hid (wdeque_any wb rb gv ob { w with level := l, kind := r.turn } { r with turn := 1 - r.turn } wq W4 R4 (by exact HH.out.ok.turn) HL8.out)
        have HY := Lib.hid (And.intro W4 (And.intro R4 C4))
        clear W4 R4 C4
        go_wp2_with fail
        refine HD.out.mono ?_
        rintro e w5 ⟨rfl, C5⟩
        have HS := Lib.hid (osteal_any (r.at r.turn l) r.cap w5)
        have HC5 := Lib.hid C5
        clear C5 HD
        go_wp2_with fail
        refine HS.out.mono ?_
        rintro e w6 ⟨gn, rfl, O6, C6, g6⟩
        have C56 := HC5.out.then C6 (by simp)
        have W6 : IsWk w6 wb rb gv ob { w with level := l, kind := r.turn } := Blk.chg HY.out.1 C56 (by simp)
        have hgw : gn ≠ wb := by have := Blk.lt HY.out.1; have := HC5.out.size; omega
        have HO6 := Lib.hid O6
        have HC56 := Lib.hid C56
        have c6 : w6.cell? ⟨wb, 6, none⟩ = some (ptrO ob) := by rw [Blk.cell W6]; rfl
        have z6 : w6.frozen? ⟨wb, 6, none⟩ = false := Blk.frozen W6 _
        have W7 : IsWk (w6.setCell ⟨wb, 6, none⟩ (.pointer (some ⟨gn, 0, none⟩))) wb rb gv (some gn) { w with level := l, kind := r.turn } := Blk.setCell W6 6 _
        have C7 : Chg [wb] w6 (w6.setCell ⟨wb, 6, none⟩ (.pointer (some ⟨gn, 0, none⟩))) := (Chg.refl _ _).setCell (.inl (by simp)) _
        have H7 := Lib.hid (And.intro W7 C7)
        clear O6 C6 C56 W6 W7 C7 HS
        go_wp2_with (first
          | (refine wpList_val_store rfl 91 (.tmp 76) (.func 86) rfl wb 1 rfl _ rfl _ _ H7.out.1 (by simp [wkCells]) (by kernel_rfl) rfl ?_
             intro w8 B8 C8
             have W8 : IsWk w8 wb rb gv (some gn) { w with level := l, kind := r.turn, next := .taking } := B8
             have HW8 := Lib.hid W8
             have HC8 := Lib.hid C8
             clear B8 W8 C8)
          | fail)
        (first | go_end0 | refine bodyPost_ret (results_none rfl _ _ _) rfl ?_)
        rw [HPS.out, if_neg H8.out]
        have C78 : Chg [wb] w6 w8 := H7.out.2.then HC8.out (by simp)
        have C48 : Chg [wb] wq w8 := HC56.out.weak.then C78 (by simp)
        have C0 : Chg [wb, rb] W w8 := HY.out.2.2.then C48 (by simp)
        exact ⟨rfl, some gn, ⟨HW8.out, Blk.chg HY.out.2.1 C48 (by simp; exact Ne.symm HH.out.wr), HH.out.mem.chg C0 (by simp; exact ⟨Ne.symm HH.out.wm, Ne.symm HH.out.rm⟩) (by simp; exact ⟨Ne.symm HH.out.ww, Ne.symm HH.out.rw_⟩),
          ⟨HO6.out.chg C78 (by simp; exact hgw), OkOp.new (atOk HH.out.ok (by exact HH.out.ok.turn) HL8.out).1 (atOk HH.out.ok (by exact HH.out.ok.turn) HL8.out).2 HH.out.ok.cap (by omega) (by omega)⟩, ⟨HH.out.ok.b0, HH.out.ok.b1, HH.out.ok.cap, HH.out.ok.z0, HH.out.ok.z1, by show 1 - r.turn < 2; omega⟩, (by exact HH.out.ok.turn), fun _ => HL8.out, HH.out.steps⟩, C0.mono (by intro g hg; left; simp at hg ⊢; omega), .inr ⟨gn, rfl, by have := HY.out.2.2.size; have := HC5.out.size; omega⟩⟩
end Go.Proofs.YtjdbgohfedjifaaGreatDoor
