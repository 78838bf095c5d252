/- deque: the steps of a steal. -/
import Derived.Test.YtjdbgohfedjifaaGreatDoorDqA
import Derived.Deep.RegionWith
namespace Go.Proofs.YtjdbgohfedjifaaGreatDoor
open Go.RowKit Bosun
set_option maxHeartbeats 1000000 in
theorem steal1_any (g : Nat) (o : DOp) (w : World) (h : IsOp w g o) (hs : o.steps = 1) (h0 : -100 ≤ o.base) (h1 : o.base ≤ 1000000) (bm bw : Nat) (W : List Nat) (u : Nat) (hm : IsMem w bm bw W u) (n1 : g ≠ bm) (n2 : g ≠ bw) :
    Calls Tryz.prog 116 #[.pointer (some ⟨g, 0, none⟩), .pointer (some ⟨bm, 0, none⟩)] w fun e w' => e = .returned (.tuple #[]) ∧ IsOp w' g { o with t := getA W o.base } ∧ IsMem w' bm bw W (tick W o.base u) ∧ Chg [g, bm, bw] w w' := by
  have c3 : w.cell? ⟨g, 3, none⟩ = some (.int .i64 1) := by rw [h.c3, hs]; rfl
  have HH := Lib.hid h
  have HB := Lib.hid (fun w h => top_any g o w h h0 h1)
  have HL := Lib.hid (fun w hm => load_any bm bw W u w hm o.base)
  obtain ⟨x, hx⟩ : ∃ x, x = getA W o.base := ⟨_, rfl⟩
  rw [← hx] at HL ⊢
  clear hs h hx
  go_enter Tryz.func116, Tryz.ntmps116
  go_wp2_with fail
  refine (HB.out _ HH.out).mono ?_
  rintro e w1 ⟨rfl, rfl⟩
  go_wp2_with fail
  refine (HL.out _ hm).mono ?_
  rintro e w2 ⟨rfl, M2, C2⟩
  have H2 := HH.out.chg C2 (by simp; exact n1)
  have d5 := H2.c5
  have f5 := H2.frozen 5
  go_wp2_with fail
  go_end0
  have CS := fun v => (Chg.refl [g] w2).setCell (a := ⟨g, 5, none⟩) (.inl (by simp)) v
  exact ⟨rfl, H2.s5 x, M2.chg (CS _) (by simp; exact n1.symm) (by simp; exact n2.symm), (C2.mono (fun g hg => .inl (by simp at hg ⊢; omega))).then (CS _) (fun g hg => .inl (by simp at hg ⊢; omega))⟩
set_option maxHeartbeats 2000000 in
theorem steal2_any (g : Nat) (o : DOp) (w : World) (h : IsOp w g o) (hs : o.steps = 2) (h0 : -100 ≤ o.base) (h1 : o.base ≤ 1000000) (ht : o.t < 18446744073709551616) (bm bw : Nat) (W : List Nat) (u : Nat) (hm : IsMem w bm bw W u) (n1 : g ≠ bm) (n2 : g ≠ bw) :
    Calls Tryz.prog 116 #[.pointer (some ⟨g, 0, none⟩), .pointer (some ⟨bm, 0, none⟩)] w fun e w' => e = .returned (.tuple #[]) ∧ IsOp w' g (if ahd (getA W (o.base + 1)) o.t ≤ 0 then { o with b := getA W (o.base + 1), done := true, err := 7 } else { o with b := getA W (o.base + 1) }) ∧ IsMem w' bm bw W (tick W (o.base + 1) u) ∧ Chg [g, bm, bw] w w' := by
  have c3 : w.cell? ⟨g, 3, none⟩ = some (.int .i64 2) := by rw [h.c3, hs]; rfl
  have HH := Lib.hid h
  have HB := Lib.hid (fun w h => bottom_any g o w h h0 h1)
  have HL := Lib.hid (fun w hm => load_any bm bw W u w hm (o.base + 1))
  have hx0 := hm.small.getA (o.base + 1)
  obtain ⟨x, hx⟩ : ∃ x, x = getA W (o.base + 1) := ⟨_, rfl⟩
  rw [← hx] at HL hx0 ⊢
  have HA := Lib.hid (fun w => ahead_any x o.t hx0 ht w)
  obtain ⟨v, hv⟩ : ∃ v, v = ahd x o.t := ⟨_, rfl⟩
  rw [← hv] at HA ⊢
  clear hs h hx hv ht hx0
  by_cases hf : v ≤ 0
  · rw [if_pos hf]
    go_enter Tryz.func116, Tryz.ntmps116
    go_wp2_with fail
    refine (HB.out _ HH.out).mono ?_
    rintro e w1 ⟨rfl, rfl⟩
    go_wp2_with fail
    refine (HL.out _ hm).mono ?_
    rintro e w2 ⟨rfl, M2, C2⟩
    have H2 := HH.out.chg C2 (by simp; exact n1)
    have d4 := H2.c4
    have f4 := H2.frozen 4
    go_wp2_with fail
    have CS := (Chg.refl [g] w2).setCell (a := ⟨g, 4, none⟩) (.inl (by simp)) (.int .u64 (x : Nat))
    have H3 := H2.s4 x
    have M3 := M2.chg CS (by simp; exact n1.symm) (by simp; exact n2.symm)
    have C3 := (C2.mono (S' := [g, bm, bw]) (fun g hg => .inl (by simp at hg ⊢; omega))).then CS (fun g hg => .inl (by simp at hg ⊢; omega))
    obtain ⟨w3, hw3⟩ : ∃ w3, w3 = w2.setCell ⟨g, 4, none⟩ (.int .u64 (x : Nat)) := ⟨_, rfl⟩
    rw [← hw3] at H3 M3 C3 ⊢
    clear hw3 CS d4 f4 M2 C2 H2 c3
    have k4 : w3.cell? ⟨g, 4, none⟩ = some (.int .u64 (x : Nat)) := H3.c4
    have k5 : w3.cell? ⟨g, 5, none⟩ = some (.int .u64 (o.t : Nat)) := H3.c5
    go_region_held3 (fun w' => w'.cell? ⟨g, 4, none⟩ = some (.int .u64 (x : Nat)) ∧ w'.cell? ⟨g, 5, none⟩ = some (.int .u64 (o.t : Nat))) (first | assumption | exact ⟨k4, k5⟩)
      ((go_at_call 99; refine (HA.out _).mono ?_; rintro e w4 ⟨rfl, rfl⟩))
    go_wp2_with (go_at_call 127; refine (end_any g _ _ (H3.chg (Chg.refl [] _).drew (by simp)) 7).mono ?_; rintro e w5 ⟨rfl, H5, C5⟩)
    go_end0
    exact ⟨rfl, H5, (M3.drew).chg C5 (by simp; exact n1.symm) (by simp; exact n2.symm), C3.drew.then C5 (fun g hg => .inl (by simp at hg ⊢; omega))⟩
  · rw [if_neg hf]
    have hd : decide (v ≤ 0) = false := by simpa using hf
    clear hf
    go_enter Tryz.func116, Tryz.ntmps116
    go_wp2_with fail
    refine (HB.out _ HH.out).mono ?_
    rintro e w1 ⟨rfl, rfl⟩
    go_wp2_with fail
    refine (HL.out _ hm).mono ?_
    rintro e w2 ⟨rfl, M2, C2⟩
    have H2 := HH.out.chg C2 (by simp; exact n1)
    have d4 := H2.c4
    have f4 := H2.frozen 4
    go_wp2_with fail
    have CS := (Chg.refl [g] w2).setCell (a := ⟨g, 4, none⟩) (.inl (by simp)) (.int .u64 (x : Nat))
    have H3 := H2.s4 x
    have M3 := M2.chg CS (by simp; exact n1.symm) (by simp; exact n2.symm)
    have C3 := (C2.mono (S' := [g, bm, bw]) (fun g hg => .inl (by simp at hg ⊢; omega))).then CS (fun g hg => .inl (by simp at hg ⊢; omega))
    obtain ⟨w3, hw3⟩ : ∃ w3, w3 = w2.setCell ⟨g, 4, none⟩ (.int .u64 (x : Nat)) := ⟨_, rfl⟩
    rw [← hw3] at H3 M3 C3 ⊢
    clear hw3 CS d4 f4 M2 C2 H2 c3
    have k4 : w3.cell? ⟨g, 4, none⟩ = some (.int .u64 (x : Nat)) := H3.c4
    have k5 : w3.cell? ⟨g, 5, none⟩ = some (.int .u64 (o.t : Nat)) := H3.c5
    go_region_held3 (fun w' => w'.cell? ⟨g, 4, none⟩ = some (.int .u64 (x : Nat)) ∧ w'.cell? ⟨g, 5, none⟩ = some (.int .u64 (o.t : Nat))) (first | assumption | exact ⟨k4, k5⟩)
      ((go_at_call 99; refine (HA.out _).mono ?_; rintro e w4 ⟨rfl, rfl⟩))
    go_wp2_with fail
    go_end0
    exact ⟨rfl, H3.chg (Chg.refl [] _).drew (by simp), M3.drew, C3.drew⟩
set_option maxHeartbeats 4000000 in
theorem steal3_any (g : Nat) (o : DOp) (w : World) (h : IsOp w g o) (hs : o.steps = 3) (h0 : -100 ≤ o.base) (h1 : o.base ≤ 1000000) (hc : Pow2 o.cap) (ht : o.t < 18446744073709551616) (bm bw : Nat) (W : List Nat) (u : Nat) (hm : IsMem w bm bw W u) (n1 : g ≠ bm) (n2 : g ≠ bw) :
    Calls Tryz.prog 116 #[.pointer (some ⟨g, 0, none⟩), .pointer (some ⟨bm, 0, none⟩)] w fun e w' => e = .returned (.tuple #[]) ∧ IsOp w' g { o with x := getA W (plc o.base o.cap o.t) } ∧ IsMem w' bm bw W (tick W (plc o.base o.cap o.t) u) ∧ Chg [g, bm, bw] w w' := by
  have c3 : w.cell? ⟨g, 3, none⟩ = some (.int .i64 3) := by rw [h.c3, hs]; rfl
  have c0 := h.c0
  have c1 := h.c1
  have c5 := h.c5
  have HH := Lib.hid h
  have lg := h.lt
  have HP := Lib.hid (fun w => place_any o.base h0 h1 o.cap hc o.t ht w)
  have HL := Lib.hid (fun w hm => load_any bm bw W u w hm (plc o.base o.cap o.t))
  obtain ⟨p, hp⟩ : ∃ p, p = plc o.base o.cap o.t := ⟨_, rfl⟩
  rw [← hp] at HP HL ⊢
  obtain ⟨x, hx⟩ : ∃ x, x = getA W p := ⟨_, rfl⟩
  rw [← hx] at HL ⊢
  clear hs h hp hx hc ht
  go_enter Tryz.func116, Tryz.ntmps116
  go_wp2_with fail
  go_region_with
    (first
      | (go_at_call 79; refine (HP.out _).mono ?_; rintro e w2 ⟨rfl, C2⟩; have H2 := HH.out.chg C2.undrew (by simp); have M2 := hm.keep C2.undrew; have k2 := And.intro H2.c0 (And.intro H2.c1 H2.c5))
      | (go_at_call 90; refine (HL.out _ M2).mono ?_; rintro e w3 ⟨rfl, M3, C3⟩; have H3 := H2.chg C3 (by simp; exact n1); have d6 := H3.c6; have f6 := H3.frozen 6; have k3 := And.intro H3.c0 (And.intro H3.c1 H3.c5)))
  all_goals
    have H4 := H3.s6 x
    have CS := (Chg.refl [g] w3).setCell (a := ⟨g, 6, none⟩) (.inl (by simp)) (.int .u64 (x : Nat))
    have M4 := M3.chg CS (by simp; exact n1.symm) (by simp; exact n2.symm)
    have C4 := ((C2.undrew.weak (S := [g, bm, bw])).then C3 (fun g hg => .inl (by simp at hg ⊢; omega))).then CS (fun g hg => .inl (by simp at hg ⊢; omega))
    go_wp2_with fail
    go_end0
    exact ⟨rfl, H4, M4, C4⟩
set_option maxHeartbeats 2000000 in
theorem steal4_any (g : Nat) (o : DOp) (w : World) (h : IsOp w g o) (hs : o.steps = 4) (h0 : -100 ≤ o.base) (h1 : o.base ≤ 1000000) (bm bw : Nat) (W : List Nat) (u : Nat) (hm : IsMem w bm bw W u) (n1 : g ≠ bm) (n2 : g ≠ bw) :
    Calls Tryz.prog 116 #[.pointer (some ⟨g, 0, none⟩), .pointer (some ⟨bm, 0, none⟩)] w fun e w' => e = .returned (.tuple #[]) ∧ IsOp w' g { o with done := true, err := if wins W o.base o.t then 0 else 8 } ∧ IsMem w' bm bw (if wins W o.base o.t then setA W o.base (add1 o.t) else W) (tick W o.base u) ∧ Chg [g, bm, bw] w w' := by
  have c3 : w.cell? ⟨g, 3, none⟩ = some (.int .i64 4) := by rw [h.c3, hs]; rfl
  have HT := Lib.hid (fun w (h : IsOp w g { o with done := true, err := 8 }) hm => take_any g { o with done := true, err := 8 } w h h0 h1 bm bw W u hm n1 n2)
  have HH := Lib.hid h
  dsimp only at HT
  by_cases hq : wins W o.base o.t = true
  · rw [hq] at HT ⊢
    simp only [if_true] at HT ⊢
    clear hs h hq
    go_enter Tryz.func116, Tryz.ntmps116
    go_wp2_with fail
    refine (end_any g _ _ HH.out 8).mono ?_
    rintro e w2 ⟨rfl, H2, C2⟩
    go_wp2_with fail
    refine (HT.out _ H2 (hm.chg C2 (by simp; exact n1.symm) (by simp; exact n2.symm))).mono ?_
    rintro e w3 ⟨rfl, H3, M3, C3⟩
    go_wp2_with fail
    refine (end_any g _ _ H3 0).mono ?_
    rintro e w4 ⟨rfl, H4, C4⟩
    go_wp2_with fail
    go_end0
    exact ⟨rfl, H4, M3.chg C4 (by simp; exact n1.symm) (by simp; exact n2.symm), ((C2.mono (S' := [g, bm, bw]) (fun g hg => .inl (by simp at hg ⊢; omega))).then C3 (fun g hg => .inl (by simp at hg ⊢; omega))).then C4 (fun g hg => .inl (by simp at hg ⊢; omega))⟩
  · have hq : wins W o.base o.t = false := by simpa using hq
    rw [hq] at HT ⊢
    simp only [Bool.false_eq_true, if_false] at HT ⊢
    clear hs h hq
    go_enter Tryz.func116, Tryz.ntmps116
    go_wp2_with fail
    refine (end_any g _ _ HH.out 8).mono ?_
    rintro e w2 ⟨rfl, H2, C2⟩
    go_wp2_with fail
    refine (HT.out _ H2 (hm.chg C2 (by simp; exact n1.symm) (by simp; exact n2.symm))).mono ?_
    rintro e w3 ⟨rfl, H3, M3, C3⟩
    go_wp2_with fail
    go_end0
    exact ⟨rfl, H3, M3, (C2.mono (S' := [g, bm, bw]) (fun g hg => .inl (by simp at hg ⊢; omega))).then C3 (fun g hg => .inl (by simp at hg ⊢; omega))⟩
end Go.Proofs.YtjdbgohfedjifaaGreatDoor
