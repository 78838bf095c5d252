/- deque: the steps of a pop. -/
import Derived.Test.YtjdbgohfedjifaaGreatDoorDqA
import Derived.Test.YtjdbgohfedjifaaGreatDoorBs
import Derived.Deep.RegionWith
namespace Go.Proofs.YtjdbgohfedjifaaGreatDoor
open Go.RowKit Bosun
set_option maxHeartbeats 1000000 in
theorem pop1_any (g : Nat) (o : DOp) (w : World) (h : IsOp w g o) (hs : o.steps = 1) (h0 : -100 ≤ o.base) (h1 : o.base ≤ 1000000) (bm bw : Nat) (W : List Nat) (u : Nat) (hm : IsMem w bm bw W u) (n1 : g ≠ bm) (n2 : g ≠ bw) :
    Calls Tryz.prog 115 #[.pointer (some ⟨g, 0, none⟩), .pointer (some ⟨bm, 0, none⟩)] w fun e w' => e = .returned (.tuple #[]) ∧ IsOp w' g { o with b := sub1 (getA W (o.base + 1)) } ∧ IsMem w' bm bw W (tick W (o.base + 1) u) ∧ Chg [g, bm, bw] w w' := by
  have c3 : w.cell? ⟨g, 3, none⟩ = some (.int .i64 1) := by rw [h.c3, hs]; rfl
  have HH := Lib.hid h
  have HB := Lib.hid (fun w h => bottom_any g o w h h0 h1)
  have HL := Lib.hid (fun w hm => load_any bm bw W u w hm (o.base + 1))
  obtain ⟨x, hx⟩ : ∃ x, x = getA W (o.base + 1) := ⟨_, rfl⟩
  rw [← hx] at HL ⊢
  have ew : IntKind.u64.wrap ((x : Int) - 1) = (sub1 x : Nat) := by rw [IntKind.wrap_u64]; unfold sub1; omega
  obtain ⟨m, hm1⟩ : ∃ m, m = sub1 x := ⟨_, rfl⟩
  rw [← hm1] at ew ⊢
  clear hs h hx hm1
  go_enter Tryz.func115, Tryz.ntmps115
  go_wp2_with fail
  go_step3
  go_wp2_with fail
  refine (HB.out _ HH.out).mono ?_
  rintro e w1 ⟨rfl, rfl⟩
  go_wp2_with fail
  refine (HL.out _ hm).mono ?_
  rintro e w2 ⟨rfl, M2, C2⟩
  have H2 := HH.out.chg C2 (by simp; exact n1)
  have d4 := H2.c4
  have f4 := H2.frozen 4
  go_wp2_with fail
  have CS := fun v => (Chg.refl [g] w2).setCell (a := ⟨g, 4, none⟩) (.inl (by simp)) v
  rw [Exit.noGoto_ret]
  refine bodyPost_ret (results_none rfl _ _ _) rfl ?_
  exact ⟨rfl, H2.s4 m, M2.chg (CS _) (by simp; exact n1.symm) (by simp; exact n2.symm), (C2.mono (fun g hg => .inl (by simp at hg ⊢; omega))).then (CS _) (fun g hg => .inl (by simp at hg ⊢; omega))⟩
set_option maxHeartbeats 2000000 in
theorem pop2_any (g : Nat) (o : DOp) (w : World) (h : IsOp w g o) (hs : o.steps = 2) (h0 : -100 ≤ o.base) (h1 : o.base ≤ 1000000) (hb : o.b < 18446744073709551616) (bm bw : Nat) (W : List Nat) (u : Nat) (hm : IsMem w bm bw W u) (n1 : g ≠ bm) (n2 : g ≠ bw) :
    Calls Tryz.prog 115 #[.pointer (some ⟨g, 0, none⟩), .pointer (some ⟨bm, 0, none⟩)] w fun e w' => e = .returned (.tuple #[]) ∧ IsOp w' g o ∧ IsMem w' bm bw (setA W (o.base + 1) o.b) (tick W (o.base + 1) u) ∧ Chg [g, bm, bw] w w' := by
  have c3 : w.cell? ⟨g, 3, none⟩ = some (.int .i64 2) := by rw [h.c3, hs]; rfl
  have c4 := h.c4
  have HH := Lib.hid h
  have HB := Lib.hid (fun w h => bottom_any g o w h h0 h1)
  clear hs h
  go_enter Tryz.func115, Tryz.ntmps115
  go_wp2_with fail
  go_step3
  go_wp2_with fail
  go_region_held3 (fun w' => w'.cell? ⟨g, 4, none⟩ = some (.int .u64 (o.b : Nat))) (first | assumption | exact c4)
    (first
      | (go_at_call 125; refine (HB.out _ (HH.out.chg (Chg.refl [] _).drew (by simp))).mono ?_; rintro e w2 ⟨rfl, rfl⟩)
      | (go_at_call 128; refine (store_any bm bw W u _ hm.drew (o.base + 1) o.b hb).mono ?_; rintro e w3 ⟨rfl, M3, C3⟩; have H3 := HH.out.chg C3.undrew (by simp; exact ⟨n1, n2⟩); have k3 := H3.c4))
  go_wp2_with fail
  rw [Exit.noGoto_ret]
  refine bodyPost_ret (results_none rfl _ _ _) rfl ?_
  exact ⟨rfl, H3, M3, C3.undrew.mono (fun g hg => .inl (by simp at hg ⊢; omega))⟩
set_option maxHeartbeats 1000000 in
theorem pop3_any (g : Nat) (o : DOp) (w : World) (h : IsOp w g o) (hs : o.steps = 3) (h0 : -100 ≤ o.base) (h1 : o.base ≤ 1000000) (bm bw : Nat) (W : List Nat) (u : Nat) (hm : IsMem w bm bw W u) (n1 : g ≠ bm) (n2 : g ≠ bw) :
    Calls Tryz.prog 115 #[.pointer (some ⟨g, 0, none⟩), .pointer (some ⟨bm, 0, none⟩)] w fun e w' => e = .returned (.tuple #[]) ∧ IsOp w' g { o with t := getA W o.base } ∧ IsMem w' bm bw W (tick W o.base u) ∧ Chg [g, bm, bw] w w' := by
  have c3 : w.cell? ⟨g, 3, none⟩ = some (.int .i64 3) := by rw [h.c3, hs]; rfl
  have HH := Lib.hid h
  have HB := Lib.hid (fun w h => top_any g o w h h0 h1)
  have HL := Lib.hid (fun w hm => load_any bm bw W u w hm o.base)
  obtain ⟨x, hx⟩ : ∃ x, x = getA W o.base := ⟨_, rfl⟩
  rw [← hx] at HL ⊢
  clear hs h hx
  go_enter Tryz.func115, Tryz.ntmps115
  go_wp2_with fail
  go_step3
  go_wp2_with fail
  refine (HB.out _ HH.out).mono ?_
  rintro e w1 ⟨rfl, rfl⟩
  go_wp2_with fail
  refine (HL.out _ hm).mono ?_
  rintro e w2 ⟨rfl, M2, C2⟩
  have H2 := HH.out.chg C2 (by simp; exact n1)
  have d5 := H2.c5
  have f5 := H2.frozen 5
  go_wp2_with fail
  have CS := fun v => (Chg.refl [g] w2).setCell (a := ⟨g, 5, none⟩) (.inl (by simp)) v
  rw [Exit.noGoto_ret]
  refine bodyPost_ret (results_none rfl _ _ _) rfl ?_
  exact ⟨rfl, H2.s5 x, M2.chg (CS _) (by simp; exact n1.symm) (by simp; exact n2.symm), (C2.mono (fun g hg => .inl (by simp at hg ⊢; omega))).then (CS _) (fun g hg => .inl (by simp at hg ⊢; omega))⟩
set_option maxHeartbeats 1000000 in
theorem pop5_any (g : Nat) (o : DOp) (w : World) (h : IsOp w g o) (hs : o.steps = 5) (h0 : -100 ≤ o.base) (h1 : o.base ≤ 1000000) (bm bw : Nat) (W : List Nat) (u : Nat) (hm : IsMem w bm bw W u) (n1 : g ≠ bm) (n2 : g ≠ bw) :
    Calls Tryz.prog 115 #[.pointer (some ⟨g, 0, none⟩), .pointer (some ⟨bm, 0, none⟩)] w fun e w' => e = .returned (.tuple #[]) ∧ IsOp w' g { o with won := wins W o.base o.t } ∧ IsMem w' bm bw (if wins W o.base o.t then setA W o.base (add1 o.t) else W) (tick W o.base u) ∧ Chg [g, bm, bw] w w' := by
  have c3 : w.cell? ⟨g, 3, none⟩ = some (.int .i64 5) := by rw [h.c3, hs]; rfl
  have HT := Lib.hid (fun w h hm => take_any g o w h h0 h1 bm bw W u hm n1 n2)
  have HH := Lib.hid h
  obtain ⟨q, hq⟩ : ∃ q, q = wins W o.base o.t := ⟨_, rfl⟩
  rw [← hq] at HT ⊢
  obtain ⟨W2, hW2⟩ : ∃ W2, W2 = (if q then setA W o.base (add1 o.t) else W) := ⟨_, rfl⟩
  rw [← hW2] at HT ⊢
  clear hs h hq hW2
  go_enter Tryz.func115, Tryz.ntmps115
  go_wp2_with fail
  go_step3
  go_wp2_with fail
  refine (HT.out _ HH.out hm).mono ?_
  rintro e w2 ⟨rfl, H2, M2, C2⟩
  have d7 := H2.c7
  have f7 := H2.frozen 7
  go_wp2_with fail
  have CS := fun v => (Chg.refl [g] w2).setCell (a := ⟨g, 7, none⟩) (.inl (by simp)) v
  rw [Exit.noGoto_ret]
  refine bodyPost_ret (results_none rfl _ _ _) rfl ?_
  exact ⟨rfl, H2.s7 q, M2.chg (CS _) (by simp; exact n1.symm) (by simp; exact n2.symm), (C2.mono (fun g hg => .inl (by simp at hg ⊢; omega))).then (CS _) (fun g hg => .inl (by simp at hg ⊢; omega))⟩
set_option maxHeartbeats 2000000 in
theorem pop6_any (g : Nat) (o : DOp) (w : World) (h : IsOp w g o) (hs : o.steps = 6) (h0 : -100 ≤ o.base) (h1 : o.base ≤ 1000000) (bm bw : Nat) (W : List Nat) (u : Nat) (hm : IsMem w bm bw W u) (n1 : g ≠ bm) (n2 : g ≠ bw) :
    Calls Tryz.prog 115 #[.pointer (some ⟨g, 0, none⟩), .pointer (some ⟨bm, 0, none⟩)] w fun e w' => e = .returned (.tuple #[]) ∧ IsOp w' g { o with done := true, err := if o.won then 0 else 7 } ∧ IsMem w' bm bw (setA W (o.base + 1) (add1 o.t)) (tick W (o.base + 1) u) ∧ Chg [g, bm, bw] w w' := by
  have c3 : w.cell? ⟨g, 3, none⟩ = some (.int .i64 6) := by rw [h.c3, hs]; rfl
  have c5 := h.c5
  have HH := Lib.hid h
  have HB := Lib.hid (fun w h => bottom_any g o w h h0 h1)
  have hlt := add1_lt o.t
  have ew : IntKind.u64.wrap ((o.t : Int) + 1) = (add1 o.t : Nat) := by rw [IntKind.wrap_u64]; rfl
  obtain ⟨m, hm1⟩ : ∃ m, m = add1 o.t := ⟨_, rfl⟩
  rw [← hm1] at ew hlt ⊢
  clear hm1 hs h
  by_cases hw : o.won = true
  · have HW := Lib.hid (hw : o.won = true)
    rw [if_pos hw]
    clear hw
    go_enter Tryz.func115, Tryz.ntmps115
    go_wp2_with fail
    refine wp_scope_ahead 0 rfl ?_
    go_wp2_with fail
    go_step3
    simp only [Exit.inBlock, Exit.then]
    refine Exit.jump_goto ?_
    go_wp2_with fail
    go_region_held3 (fun w' => w'.cell? ⟨g, 5, none⟩ = some (.int .u64 (o.t : Nat))) (first | assumption | exact c5)
      (first
        | (go_at_call 125; refine (HB.out _ (HH.out.chg (Chg.refl [] _).drew (by simp))).mono ?_; rintro e w2 ⟨rfl, rfl⟩)
        | (go_at_call 128; refine (store_any bm bw W u _ hm.drew (o.base + 1) m hlt).mono ?_; rintro e w3 ⟨rfl, M3, C3⟩; have H3 := HH.out.chg C3.undrew (by simp; exact ⟨n1, n2⟩); have k3 := H3.c5))
    have k7 : w3.cell? ⟨g, 7, none⟩ = some (.bool true) := by rw [H3.c7, HW.out]
    clear ew
    go_wp2_with (go_at_call 127; refine (end_any g _ _ H3 0).mono ?_; rintro e w5 ⟨rfl, H5, C5⟩)
    try rw [Exit.noGoto_ret]
    refine bodyPost_ret (results_none rfl _ _ _) rfl ?_
    exact ⟨rfl, H5, M3.chg C5 (by simp; exact n1.symm) (by simp; exact n2.symm), (C3.undrew.mono (fun g hg => .inl (by simp at hg ⊢; omega))).then C5 (fun g hg => .inl (by simp at hg ⊢; omega))⟩
  · have HW := Lib.hid (by simpa using hw : o.won = false)
    rw [if_neg hw]
    clear hw
    go_enter Tryz.func115, Tryz.ntmps115
    go_wp2_with fail
    refine wp_scope_ahead 0 rfl ?_
    go_wp2_with fail
    go_step3
    simp only [Exit.inBlock, Exit.then]
    refine Exit.jump_goto ?_
    go_wp2_with fail
    go_region_held3 (fun w' => w'.cell? ⟨g, 5, none⟩ = some (.int .u64 (o.t : Nat))) (first | assumption | exact c5)
      (first
        | (go_at_call 125; refine (HB.out _ (HH.out.chg (Chg.refl [] _).drew (by simp))).mono ?_; rintro e w2 ⟨rfl, rfl⟩)
        | (go_at_call 128; refine (store_any bm bw W u _ hm.drew (o.base + 1) m hlt).mono ?_; rintro e w3 ⟨rfl, M3, C3⟩; have H3 := HH.out.chg C3.undrew (by simp; exact ⟨n1, n2⟩); have k3 := H3.c5))
    have k7 : w3.cell? ⟨g, 7, none⟩ = some (.bool false) := by rw [H3.c7, HW.out]
    clear ew
    go_wp2_with (go_at_call 127; refine (end_any g _ _ H3 7).mono ?_; rintro e w5 ⟨rfl, H5, C5⟩)
    try rw [Exit.noGoto_normal]
    go_end0
    exact ⟨rfl, H5, M3.chg C5 (by simp; exact n1.symm) (by simp; exact n2.symm), (C3.undrew.mono (fun g hg => .inl (by simp at hg ⊢; omega))).then C5 (fun g hg => .inl (by simp at hg ⊢; omega))⟩
set_option maxHeartbeats 2000000 in
theorem pop4_empty (g : Nat) (o : DOp) (w : World) (h : IsOp w g o) (hs : o.steps = 4) (h0 : -100 ≤ o.base) (h1 : o.base ≤ 1000000) (hb : o.b < 18446744073709551616) (ht : o.t < 18446744073709551616) (hf : 0 < ahd o.t o.b) (bm bw : Nat) (W : List Nat) (u : Nat) (hm : IsMem w bm bw W u) (n1 : g ≠ bm) (n2 : g ≠ bw) :
    Calls Tryz.prog 115 #[.pointer (some ⟨g, 0, none⟩), .pointer (some ⟨bm, 0, none⟩)] w fun e w' => e = .returned (.tuple #[]) ∧ IsOp w' g { o with done := true, err := 7 } ∧ IsMem w' bm bw (setA W (o.base + 1) o.t) (tick W (o.base + 1) u) ∧ Chg [g, bm, bw] w w' := by
  have c3 : w.cell? ⟨g, 3, none⟩ = some (.int .i64 4) := by rw [h.c3, hs]; rfl
  have c4 := h.c4
  have c5 := h.c5
  have HH := Lib.hid h
  have HB := Lib.hid (fun w h => bottom_any g o w h h0 h1)
  have HA := Lib.hid (fun w => ahead_any o.t o.b ht hb w)
  obtain ⟨v, hv⟩ : ∃ v, v = ahd o.t o.b := ⟨_, rfl⟩
  rw [← hv] at HA hf
  clear hs h hv
  go_enter Tryz.func115, Tryz.ntmps115
  go_wp2_with fail
  refine wp_scope_ahead 1 rfl ?_
  go_wp2_with fail
  go_region_held3 (fun w' => w'.cell? ⟨g, 4, none⟩ = some (.int .u64 (o.b : Nat)) ∧ w'.cell? ⟨g, 5, none⟩ = some (.int .u64 (o.t : Nat))) (first | assumption | exact ⟨c4, c5⟩)
    ((go_at_call 99; refine (HA.out _).mono ?_; rintro e w4 ⟨rfl, rfl⟩))
  go_wp2_with fail
  go_step3
  simp only [Exit.inBlock, Exit.then]
  refine Exit.jump_goto ?_
  go_wp2_with fail
  go_region_held3 (fun w' => w'.cell? ⟨g, 5, none⟩ = some (.int .u64 (o.t : Nat))) (first | assumption | exact c5)
    (first
      | (go_at_call 125; refine (HB.out _ (HH.out.chg (((Chg.refl [] _).drew).drew) (by simp))).mono ?_; rintro e w2 ⟨rfl, rfl⟩)
      | (go_at_call 128; refine (store_any bm bw W u _ hm.drew.drew (o.base + 1) o.t ht).mono ?_; rintro e w3 ⟨rfl, M3, C3⟩; have H3 := HH.out.chg C3.undrew.undrew (by simp; exact ⟨n1, n2⟩); have k3 := H3.c5))
  go_wp2_with (go_at_call 127; refine (end_any g _ _ H3 7).mono ?_; rintro e w5 ⟨rfl, H5, C5⟩)
  try rw [Exit.noGoto_ret]
  refine bodyPost_ret (results_none rfl _ _ _) rfl ?_
  exact ⟨rfl, H5, M3.chg C5 (by simp; exact n1.symm) (by simp; exact n2.symm), (C3.undrew.undrew.mono (fun g hg => .inl (by simp at hg ⊢; omega))).then C5 (fun g hg => .inl (by simp at hg ⊢; omega))⟩
set_option maxHeartbeats 4000000 in
theorem pop4_full (g : Nat) (o : DOp) (w : World) (h : IsOp w g o) (hs : o.steps = 4) (h0 : -100 ≤ o.base) (h1 : o.base ≤ 1000000) (hc : Pow2 o.cap) (hb : o.b < 18446744073709551616) (ht : o.t < 18446744073709551616) (hf : ¬ 0 < ahd o.t o.b) (bm bw : Nat) (W : List Nat) (u : Nat) (hm : IsMem w bm bw W u) (n1 : g ≠ bm) (n2 : g ≠ bw) :
    Calls Tryz.prog 115 #[.pointer (some ⟨g, 0, none⟩), .pointer (some ⟨bm, 0, none⟩)] w fun e w' => e = .returned (.tuple #[]) ∧ IsOp w' g (if 0 < ahd o.b o.t then { o with x := getA W (plc o.base o.cap o.b), done := true, err := 0 } else { o with x := getA W (plc o.base o.cap o.b) }) ∧ IsMem w' bm bw W (tick W (plc o.base o.cap o.b) u) ∧ Chg [g, bm, bw] w w' := by
  have c3 : w.cell? ⟨g, 3, none⟩ = some (.int .i64 4) := by rw [h.c3, hs]; rfl
  have c0 := h.c0
  have c1 := h.c1
  have c4 := h.c4
  have c5 := h.c5
  have HH := Lib.hid h
  have lg := h.lt
  have HA := Lib.hid (fun w => ahead_any o.t o.b ht hb w)
  have HA2 := Lib.hid (fun w => ahead_any o.b o.t hb ht w)
  have HP := Lib.hid (fun w => place_any o.base h0 h1 o.cap hc o.b hb w)
  have HL := Lib.hid (fun w hm => load_any bm bw W u w hm (plc o.base o.cap o.b))
  obtain ⟨p, hp⟩ : ∃ p, p = plc o.base o.cap o.b := ⟨_, rfl⟩
  rw [← hp] at HP HL ⊢
  obtain ⟨x, hx⟩ : ∃ x, x = getA W p := ⟨_, rfl⟩
  rw [← hx] at HL ⊢
  obtain ⟨v, hv⟩ : ∃ v, v = ahd o.t o.b := ⟨_, rfl⟩
  rw [← hv] at HA hf
  obtain ⟨v2, hv2⟩ : ∃ v, v = ahd o.b o.t := ⟨_, rfl⟩
  rw [← hv2] at HA2 ⊢
  have hd : decide (0 < v) = false := by simpa using hf
  clear hs h hv hv2 hp hx hc hb ht hf
  by_cases hf2 : 0 < v2
  · rw [if_pos hf2]
    go_enter Tryz.func115, Tryz.ntmps115
    go_wp2_with fail
    go_step3
    go_wp2_with fail
    go_region_held3 (fun w' => w'.cell? ⟨g, 4, none⟩ = some (.int .u64 (o.b : Nat)) ∧ w'.cell? ⟨g, 5, none⟩ = some (.int .u64 (o.t : Nat))) (first | assumption | exact ⟨c4, c5⟩)
      ((go_at_call 99; refine (HA.out _).mono ?_; rintro e w4 ⟨rfl, rfl⟩))
    go_wp2_with fail
    go_region_with
      (first
        | (go_at_call 79; refine (HP.out _).mono ?_; rintro e w2 ⟨rfl, C2⟩; have H2 := HH.out.chg C2.undrew.undrew (by simp); have M2 := hm.keep C2.undrew.undrew; have k2 := And.intro H2.c0 (And.intro H2.c1 (And.intro H2.c4 H2.c5)))
        | (go_at_call 90; refine (HL.out _ M2).mono ?_; rintro e w3 ⟨rfl, M3, C3⟩; have H3 := H2.chg C3 (by simp; exact n1); have d6 := H3.c6; have f6 := H3.frozen 6; have k3 := And.intro H3.c0 (And.intro H3.c1 (And.intro H3.c4 H3.c5))))
    all_goals
      have H4 := H3.s6 x
      have CS := (Chg.refl [g] w3).setCell (a := ⟨g, 6, none⟩) (.inl (by simp)) (.int .u64 (x : Nat))
      have M4 := M3.chg CS (by simp; exact n1.symm) (by simp; exact n2.symm)
      have C4 := ((C2.undrew.undrew.weak (S := [g, bm, bw])).then C3 (fun g hg => .inl (by simp at hg ⊢; omega))).then CS (fun g hg => .inl (by simp at hg ⊢; omega))
      obtain ⟨w4, hw4⟩ : ∃ w4, w4 = w3.setCell ⟨g, 6, none⟩ (.int .u64 (x : Nat)) := ⟨_, rfl⟩
      rw [← hw4] at H4 M4 C4 ⊢
      clear hw4 CS k3 k2 d6 f6 M3 C3 H3 H2 M2 C2
      have j4 : w4.cell? ⟨g, 4, none⟩ = some (.int .u64 (o.b : Nat)) := H4.c4
      have j5 : w4.cell? ⟨g, 5, none⟩ = some (.int .u64 (o.t : Nat)) := H4.c5
      go_wp2_with fail
      go_region_held3 (fun w' => w'.cell? ⟨g, 4, none⟩ = some (.int .u64 (o.b : Nat)) ∧ w'.cell? ⟨g, 5, none⟩ = some (.int .u64 (o.t : Nat))) (first | assumption | exact ⟨j4, j5⟩)
        ((go_at_call 99; refine (HA2.out _).mono ?_; rintro e w5 ⟨rfl, rfl⟩))
      go_wp2_with (go_at_call 127; refine (end_any g _ _ (H4.chg (Chg.refl [] _).drew (by simp)) 0).mono ?_; rintro e w6 ⟨rfl, H6, C6⟩)
      try rw [Exit.noGoto_ret]
      refine bodyPost_ret (results_none rfl _ _ _) rfl ?_
      exact ⟨rfl, H6, M4.drew.chg C6 (by simp; exact n1.symm) (by simp; exact n2.symm), C4.drew.then C6 (fun g hg => .inl (by simp at hg ⊢; omega))⟩
  · rw [if_neg hf2]
    have hd2 : decide (0 < v2) = false := by simpa using hf2
    clear hf2
    go_enter Tryz.func115, Tryz.ntmps115
    go_wp2_with fail
    go_step3
    go_wp2_with fail
    go_region_held3 (fun w' => w'.cell? ⟨g, 4, none⟩ = some (.int .u64 (o.b : Nat)) ∧ w'.cell? ⟨g, 5, none⟩ = some (.int .u64 (o.t : Nat))) (first | assumption | exact ⟨c4, c5⟩)
      ((go_at_call 99; refine (HA.out _).mono ?_; rintro e w4 ⟨rfl, rfl⟩))
    go_wp2_with fail
    go_region_with
      (first
        | (go_at_call 79; refine (HP.out _).mono ?_; rintro e w2 ⟨rfl, C2⟩; have H2 := HH.out.chg C2.undrew.undrew (by simp); have M2 := hm.keep C2.undrew.undrew; have k2 := And.intro H2.c0 (And.intro H2.c1 (And.intro H2.c4 H2.c5)))
        | (go_at_call 90; refine (HL.out _ M2).mono ?_; rintro e w3 ⟨rfl, M3, C3⟩; have H3 := H2.chg C3 (by simp; exact n1); have d6 := H3.c6; have f6 := H3.frozen 6; have k3 := And.intro H3.c0 (And.intro H3.c1 (And.intro H3.c4 H3.c5))))
    all_goals
      have H4 := H3.s6 x
      have CS := (Chg.refl [g] w3).setCell (a := ⟨g, 6, none⟩) (.inl (by simp)) (.int .u64 (x : Nat))
      have M4 := M3.chg CS (by simp; exact n1.symm) (by simp; exact n2.symm)
      have C4 := ((C2.undrew.undrew.weak (S := [g, bm, bw])).then C3 (fun g hg => .inl (by simp at hg ⊢; omega))).then CS (fun g hg => .inl (by simp at hg ⊢; omega))
      obtain ⟨w4, hw4⟩ : ∃ w4, w4 = w3.setCell ⟨g, 6, none⟩ (.int .u64 (x : Nat)) := ⟨_, rfl⟩
      rw [← hw4] at H4 M4 C4 ⊢
      clear hw4 CS k3 k2 d6 f6 M3 C3 H3 H2 M2 C2
      have j4 : w4.cell? ⟨g, 4, none⟩ = some (.int .u64 (o.b : Nat)) := H4.c4
      have j5 : w4.cell? ⟨g, 5, none⟩ = some (.int .u64 (o.t : Nat)) := H4.c5
      go_wp2_with fail
      go_region_held3 (fun w' => w'.cell? ⟨g, 4, none⟩ = some (.int .u64 (o.b : Nat)) ∧ w'.cell? ⟨g, 5, none⟩ = some (.int .u64 (o.t : Nat))) (first | assumption | exact ⟨j4, j5⟩)
        ((go_at_call 99; refine (HA2.out _).mono ?_; rintro e w5 ⟨rfl, rfl⟩))
      go_wp2_with fail
      try rw [Exit.noGoto_ret]
      refine bodyPost_ret (results_none rfl _ _ _) rfl ?_
      exact ⟨rfl, H4.chg (Chg.refl [] _).drew (by simp), M4.drew, C4.drew⟩
end Go.Proofs.YtjdbgohfedjifaaGreatDoor
