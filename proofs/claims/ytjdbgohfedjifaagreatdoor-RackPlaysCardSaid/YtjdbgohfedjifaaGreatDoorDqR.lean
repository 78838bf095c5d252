/- deque: the reference's steps. Printed by gen_r.py. -/
import Derived.Test.YtjdbgohfedjifaaGreatDoorDqA
import Derived.Test.YtjdbgohfedjifaaGreatDoorMm
import Derived.Deep.RegionWith
namespace Go.Proofs.YtjdbgohfedjifaaGreatDoor
open Go.RowKit Bosun
abbrev IsROp (w : World) (g : Nat) (o : DOp) : Prop := BlkOp 108 w g o
theorem rahead_any (a b : Nat) (ha : a < 18446744073709551616) (hb : b < 18446744073709551616) (w : World) : Calls Tryz.prog 81 #[.int .u64 (a : Nat), .int .u64 (b : Nat)] w fun e w' => e = .returned (.int .i64 (ahd a b)) ∧ w = w' := by
  have HE := Lib.hid (ahd_wrap a b ha hb)
  clear ha hb
  go_enter Tryz.func81, Tryz.ntmps81
  go_wp2_with fail
  go_ret
  exact ⟨ret_int (Eq.trans (IntWalk.i64_left _).symm HE.out), rfl⟩
theorem rplace_any (base : Int) (h0 : -100 ≤ base) (h1 : base ≤ 1000000) (cap : Nat) (hc : Pow2 cap) (k : Nat) (_hk : k < 18446744073709551616) (w : World) :
    Calls Tryz.prog 82 #[.agg #[.int .i64 base, .int .i64 (cap : Nat)], .int .u64 (k : Nat)] w fun e w' => e = .returned (.int .i64 (plc base cap k)) ∧ Chg [] w w' := by
  have hl := hc.le
  have hlt : k % cap < 256 := by have := Nat.mod_lt k (show cap > 0 by omega); omega
  obtain ⟨p, hp⟩ : ∃ p, p = k % cap := ⟨_, rfl⟩
  have hpi : (k : Int) % (cap : Int) = (p : Int) := by rw [hp]; rfl
  rw [show plc base cap k = base + 2 + ((k % cap : Nat) : Int) from rfl, ← hp]
  rw [← hp] at hlt
  have hcz : ¬ ((cap : Int) = 0) := by omega
  have hcz2 : ((cap : Int) == 0) = false := beq_eq_false_iff_ne.2 hcz
  have w1 : IntKind.u64.wrap (cap : Int) = (cap : Int) := by rw [IntKind.wrap_u64]; omega
  have w2 : IntKind.i64.wrap (p : Int) = (p : Int) := by rw [IntKind.wrap_i64]; omega
  have w3 : IntKind.i64.wrap (base + 2) = base + 2 := by rw [IntKind.wrap_i64]; omega
  have w4 : IntKind.i64.wrap (base + 2 + (p : Int)) = base + 2 + (p : Int) := by rw [IntKind.wrap_i64]; omega
  have w5 : IntKind.u64.wrap (p : Int) = (p : Int) := by rw [IntKind.wrap_u64]; omega
  clear hp hc hl _hk
  go_enter Tryz.func82, Tryz.ntmps82
  go_wp2_with fail
  go_quiet (fail)
  go_wp2_with fail
  go_ret
  exact ⟨ret_int (by first | rfl | rw [w4] | (rw [w3, w4])), ((Chg.refl _ _).alloc _).drewN _⟩
theorem rend_any (g : Nat) (o : DOp) (w : World) (h : IsROp w g o) (r : Int) : Calls Tryz.prog 123 #[.pointer (some ⟨g, 0, none⟩), .int .i64 r] w fun e w' => e = .returned (.tuple #[]) ∧ IsROp w' g { o with done := true, err := r } ∧ Chg [g] w w' := by
  have c8 := h.c8
  have c9 := h.c9
  have f8 := h.frozen 8
  have f9 := h.frozen 9
  have HH := Lib.hid h
  clear h
  go_enter Tryz.func123, Tryz.ntmps123
  go_wp2_with fail
  go_end0
  exact ⟨rfl, (HH.out.s8 true).s9 r, ((Chg.refl _ _).setCell (.inl (by simp)) _).setCell (.inl (by simp)) _⟩
set_option maxHeartbeats 4000000 in
theorem rpush1_any (g : Nat) (o : DOp) (w : World) (h : IsROp w g o) (hs : o.steps = 1) (h0 : -100 ≤ o.base) (h1 : o.base ≤ 1000000) (bm bw : Nat) (W : List Nat) (u : Nat) (hm : IsRef w bm bw W u) (n1 : g ≠ bm) (n2 : g ≠ bw) :
    Calls Tryz.prog 100 #[.pointer (some ⟨g, 0, none⟩), .pointer (some ⟨bm, 0, none⟩)] w fun e w' => e = .returned (.tuple #[]) ∧ IsROp w' g { o with b := getA W (o.base + 1) } ∧ IsRef w' bm bw W (tick W (o.base + 1) u) ∧ Chg [g, bm, bw] w w' := by
  have c3 : w.cell? ⟨g, 3, none⟩ = some (.int .i64 1) := by rw [h.c3, hs]; rfl
  have wb : IntKind.i64.wrap (o.base + 1) = o.base + 1 := by rw [IntKind.wrap_i64]; omega
  have HH := Lib.hid h
  have c0 := h.c0
  have HL := Lib.hid (fun w hm => rload_any bm bw W u w hm (o.base + 1))
  obtain ⟨x, hx⟩ : ∃ x, x = getA W (o.base + 1) := ⟨_, rfl⟩
  rw [← hx] at HL ⊢
  clear hs h hx
  go_enter Tryz.func100, Tryz.ntmps100
  go_wp2_with (go_at_call 72; refine (HL.out _ hm).mono ?_; rintro e w2 ⟨rfl, M2, C2⟩; have H2 := HH.out.chg C2 (by simp; exact n1); have d := H2.c4; have f := H2.frozen 4)
  go_end0
  have CS := fun v => (Chg.refl [g] w2).setCell (a := ⟨g, 4, none⟩) (.inl (by simp)) v
  exact ⟨rfl, H2.s4 x, M2.chg (CS _) (by simp; exact n1.symm) (by simp; exact n2.symm), (C2.mono (S' := [g, bm, bw]) (fun g hg => .inl (by simp at hg ⊢; omega))).then (CS _) (fun g hg => .inl (by simp at hg ⊢; omega))⟩
set_option maxHeartbeats 4000000 in
theorem rpush2_any (g : Nat) (o : DOp) (w : World) (h : IsROp w g o) (hs : o.steps = 2) (h0 : -100 ≤ o.base) (h1 : o.base ≤ 1000000) (hb : o.b < 18446744073709551616) (bm bw : Nat) (W : List Nat) (u : Nat) (hm : IsRef w bm bw W u) (n1 : g ≠ bm) (n2 : g ≠ bw) :
    Calls Tryz.prog 100 #[.pointer (some ⟨g, 0, none⟩), .pointer (some ⟨bm, 0, none⟩)] w fun e w' => e = .returned (.tuple #[]) ∧ IsROp w' g (if (o.cap : Int) ≤ ahd o.b (getA W o.base) then { o with t := getA W o.base, done := true, err := 6 } else { o with t := getA W o.base }) ∧ IsRef w' bm bw W (tick W o.base u) ∧ Chg [g, bm, bw] w w' := by
  have c3 : w.cell? ⟨g, 3, none⟩ = some (.int .i64 2) := by rw [h.c3, hs]; rfl
  have wb : IntKind.i64.wrap (o.base + 1) = o.base + 1 := by rw [IntKind.wrap_i64]; omega
  have HH := Lib.hid h
  have c0 := h.c0
  have HL := Lib.hid (fun w hm => rload_any bm bw W u w hm o.base)
  have hx0 := hm.small.getA o.base
  obtain ⟨x, hx⟩ : ∃ x, x = getA W o.base := ⟨_, rfl⟩
  rw [← hx] at HL hx0 ⊢
  have HA := Lib.hid (fun w => rahead_any o.b x hb hx0 w)
  obtain ⟨v, hv⟩ : ∃ v, v = ahd o.b x := ⟨_, rfl⟩
  rw [← hv] at HA ⊢
  clear hs h hx hv hb hx0
  by_cases hf : (o.cap : Int) ≤ v
  · rw [if_pos hf]
    go_enter Tryz.func100, Tryz.ntmps100
    go_wp2_with (go_at_call 72; refine (HL.out _ hm).mono ?_; rintro e w2 ⟨rfl, M2, C2⟩; have H2 := HH.out.chg C2 (by simp; exact n1); have d5 := H2.c5; have f5 := H2.frozen 5)
    have CS := (Chg.refl [g] w2).setCell (a := ⟨g, 5, none⟩) (.inl (by simp)) (.int .u64 (x : Nat))
    have H3 := H2.s5 x
    have M3 := M2.chg CS (by simp; exact n1.symm) (by simp; exact n2.symm)
    have C3 := (C2.mono (S' := [g, bm, bw]) (fun g hg => .inl (by simp at hg ⊢; omega))).then CS (fun g hg => .inl (by simp at hg ⊢; omega))
    obtain ⟨w3, hw3⟩ : ∃ w3, w3 = w2.setCell ⟨g, 5, none⟩ (.int .u64 (x : Nat)) := ⟨_, rfl⟩
    rw [← hw3] at H3 M3 C3 ⊢
    clear hw3 CS d5 f5 M2 C2 H2 c3 c0
    have k1 : w3.cell? ⟨g, 1, none⟩ = some (.int .i64 (o.cap : Nat)) := H3.c1
    have k4 : w3.cell? ⟨g, 4, none⟩ = some (.int .u64 (o.b : Nat)) := H3.c4
    have k5 : w3.cell? ⟨g, 5, none⟩ = some (.int .u64 (x : Nat)) := H3.c5
    go_region_held3 (fun w' => w'.cell? ⟨g, 1, none⟩ = some (.int .i64 (o.cap : Nat)) ∧ w'.cell? ⟨g, 4, none⟩ = some (.int .u64 (o.b : Nat)) ∧ w'.cell? ⟨g, 5, none⟩ = some (.int .u64 (x : Nat))) (first | assumption | exact ⟨k1, k4, k5⟩)
      ((go_at_call 81; refine (HA.out _).mono ?_; rintro e w4 ⟨rfl, rfl⟩))
    go_wp2_with (go_at_call 123; refine (rend_any g _ _ (H3.chg (Chg.refl [] _).drew (by simp)) 6).mono ?_; rintro e w5 ⟨rfl, H5, C5⟩)
    go_end0
    exact ⟨rfl, H5, (M3.drew).chg C5 (by simp; exact n1.symm) (by simp; exact n2.symm), C3.drew.then C5 (fun g hg => .inl (by simp at hg ⊢; omega))⟩
  · rw [if_neg hf]
    have hd : decide ((o.cap : Int) ≤ v) = false := by simpa using hf
    clear hf
    go_enter Tryz.func100, Tryz.ntmps100
    go_wp2_with (go_at_call 72; refine (HL.out _ hm).mono ?_; rintro e w2 ⟨rfl, M2, C2⟩; have H2 := HH.out.chg C2 (by simp; exact n1); have d5 := H2.c5; have f5 := H2.frozen 5)
    have CS := (Chg.refl [g] w2).setCell (a := ⟨g, 5, none⟩) (.inl (by simp)) (.int .u64 (x : Nat))
    have H3 := H2.s5 x
    have M3 := M2.chg CS (by simp; exact n1.symm) (by simp; exact n2.symm)
    have C3 := (C2.mono (S' := [g, bm, bw]) (fun g hg => .inl (by simp at hg ⊢; omega))).then CS (fun g hg => .inl (by simp at hg ⊢; omega))
    obtain ⟨w3, hw3⟩ : ∃ w3, w3 = w2.setCell ⟨g, 5, none⟩ (.int .u64 (x : Nat)) := ⟨_, rfl⟩
    rw [← hw3] at H3 M3 C3 ⊢
    clear hw3 CS d5 f5 M2 C2 H2 c3 c0
    have k1 : w3.cell? ⟨g, 1, none⟩ = some (.int .i64 (o.cap : Nat)) := H3.c1
    have k4 : w3.cell? ⟨g, 4, none⟩ = some (.int .u64 (o.b : Nat)) := H3.c4
    have k5 : w3.cell? ⟨g, 5, none⟩ = some (.int .u64 (x : Nat)) := H3.c5
    go_region_held3 (fun w' => w'.cell? ⟨g, 1, none⟩ = some (.int .i64 (o.cap : Nat)) ∧ w'.cell? ⟨g, 4, none⟩ = some (.int .u64 (o.b : Nat)) ∧ w'.cell? ⟨g, 5, none⟩ = some (.int .u64 (x : Nat))) (first | assumption | exact ⟨k1, k4, k5⟩)
      ((go_at_call 81; refine (HA.out _).mono ?_; rintro e w4 ⟨rfl, rfl⟩))
    go_wp2_with fail
    go_end0
    exact ⟨rfl, H3.chg (Chg.refl [] _).drew (by simp), M3.drew, C3.drew⟩
set_option maxHeartbeats 4000000 in
theorem rpush3_any (g : Nat) (o : DOp) (w : World) (h : IsROp w g o) (hs : o.steps = 3) (h0 : -100 ≤ o.base) (h1 : o.base ≤ 1000000) (hc : Pow2 o.cap) (hb : o.b < 18446744073709551616) (hx : o.x < 18446744073709551616) (bm bw : Nat) (W : List Nat) (u : Nat) (hm : IsRef w bm bw W u) (n1 : g ≠ bm) (n2 : g ≠ bw) :
    Calls Tryz.prog 100 #[.pointer (some ⟨g, 0, none⟩), .pointer (some ⟨bm, 0, none⟩)] w fun e w' => e = .returned (.tuple #[]) ∧ IsROp w' g o ∧ IsRef w' bm bw (setA W (plc o.base o.cap o.b) o.x) (tick W (plc o.base o.cap o.b) u) ∧ Chg [g, bm, bw] w w' := by
  have c3 : w.cell? ⟨g, 3, none⟩ = some (.int .i64 3) := by rw [h.c3, hs]; rfl
  have wb : IntKind.i64.wrap (o.base + 1) = o.base + 1 := by rw [IntKind.wrap_i64]; omega
  have HH := Lib.hid h
  have c0 := h.c0
  have c1 := h.c1
  have c4 := h.c4
  have c6 := h.c6
  have HB := Lib.hid (fun w => rplace_any o.base h0 h1 o.cap hc o.b hb w)
  have HL := Lib.hid (fun w hm => rstore_any bm bw W u w hm (plc o.base o.cap o.b) o.x hx)
  obtain ⟨p, hp⟩ : ∃ p, p = plc o.base o.cap o.b := ⟨_, rfl⟩
  rw [← hp] at HB HL ⊢
  have lg := h.lt
  clear hs h hp hb hx hc
  go_enter Tryz.func100, Tryz.ntmps100
  go_wp2_with fail
  go_region_held3 (fun w' => w'.cell? ⟨g, 0, none⟩ = some (.int .i64 o.base) ∧ w'.cell? ⟨g, 1, none⟩ = some (.int .i64 (o.cap : Nat)) ∧ w'.cell? ⟨g, 4, none⟩ = some (.int .u64 (o.b : Nat)) ∧ w'.cell? ⟨g, 6, none⟩ = some (.int .u64 (o.x : Nat))) (first | assumption | exact ⟨c0, c1, c4, c6⟩)
    (first
      | (go_at_call 82; refine (HB.out _).mono ?_; rintro e w2 ⟨rfl, C2⟩; have H2 := HH.out.chg C2.undrew (by simp); have M2 := hm.keep C2.undrew; have k2 := And.intro H2.c0 (And.intro H2.c1 (And.intro H2.c4 (H2.c6))))
      | (go_at_call 69; refine (HL.out _ M2).mono ?_; rintro e w3 ⟨rfl, M3, C3⟩; have H3 := H2.chg C3 (by simp; exact ⟨n1, n2⟩); have k3 := And.intro H3.c0 (And.intro H3.c1 (And.intro H3.c4 (H3.c6)))))
  go_wp2_with fail
  go_end0
  exact ⟨rfl, H3, M3, C2.undrew.weak.then C3 (fun g hg => .inl (by simp at hg ⊢; omega))⟩
set_option maxHeartbeats 4000000 in
theorem rpush4_any (g : Nat) (o : DOp) (w : World) (h : IsROp w g o) (hs : o.steps = 4) (h0 : -100 ≤ o.base) (h1 : o.base ≤ 1000000) (bm bw : Nat) (W : List Nat) (u : Nat) (hm : IsRef w bm bw W u) (n1 : g ≠ bm) (n2 : g ≠ bw) :
    Calls Tryz.prog 100 #[.pointer (some ⟨g, 0, none⟩), .pointer (some ⟨bm, 0, none⟩)] w fun e w' => e = .returned (.tuple #[]) ∧ IsROp w' g { o with done := true, err := 0 } ∧ IsRef w' bm bw (setA W (o.base + 1) (add1 o.b)) (tick W (o.base + 1) u) ∧ Chg [g, bm, bw] w w' := by
  have c3 : w.cell? ⟨g, 3, none⟩ = some (.int .i64 4) := by rw [h.c3, hs]; rfl
  have wb : IntKind.i64.wrap (o.base + 1) = o.base + 1 := by rw [IntKind.wrap_i64]; omega
  have HH := Lib.hid h
  have c0 := h.c0
  have c4 := h.c4
  have hlt := add1_lt o.b
  have ew : IntKind.u64.wrap ((o.b : Int) + 1) = (add1 o.b : Nat) := by rw [IntKind.wrap_u64]; rfl
  obtain ⟨m, hm1⟩ : ∃ m, m = add1 o.b := ⟨_, rfl⟩
  rw [← hm1] at ew hlt ⊢
  clear hm1
  clear hs h
  go_enter Tryz.func100, Tryz.ntmps100
  go_wp2_with fail
  go_region_held3 (fun w' => w'.cell? ⟨g, 0, none⟩ = some (.int .i64 o.base) ∧ w'.cell? ⟨g, 4, none⟩ = some (.int .u64 (o.b : Nat))) (first | assumption | exact ⟨c0, c4⟩)
    ((go_at_call 69; refine (rstore_any bm bw W u _ hm.drew (o.base + 1) m hlt).mono ?_; rintro e w3 ⟨rfl, M3, C3⟩; have H3 := HH.out.chg C3.undrew (by simp; exact ⟨n1, n2⟩); have k3 := And.intro H3.c0 (H3.c4)))
  clear wb
  go_wp2_with (go_at_call 123; refine (rend_any g _ _ H3 0).mono ?_; rintro e w5 ⟨rfl, H5, C5⟩)
  go_end0
  exact ⟨rfl, H5, M3.chg C5 (by simp; exact n1.symm) (by simp; exact n2.symm), (C3.undrew.mono (S' := [g, bm, bw]) (fun g hg => .inl (by simp at hg ⊢; omega))).then C5 (fun g hg => .inl (by simp at hg ⊢; omega))⟩
set_option maxHeartbeats 4000000 in
theorem rpop1_any (g : Nat) (o : DOp) (w : World) (h : IsROp w g o) (hs : o.steps = 1) (h0 : -100 ≤ o.base) (h1 : o.base ≤ 1000000) (bm bw : Nat) (W : List Nat) (u : Nat) (hm : IsRef w bm bw W u) (n1 : g ≠ bm) (n2 : g ≠ bw) :
    Calls Tryz.prog 101 #[.pointer (some ⟨g, 0, none⟩), .pointer (some ⟨bm, 0, none⟩)] w fun e w' => e = .returned (.tuple #[]) ∧ IsROp w' g { o with b := sub1 (getA W (o.base + 1)) } ∧ IsRef w' bm bw W (tick W (o.base + 1) u) ∧ Chg [g, bm, bw] w w' := by
  have c3 : w.cell? ⟨g, 3, none⟩ = some (.int .i64 1) := by rw [h.c3, hs]; rfl
  have wb : IntKind.i64.wrap (o.base + 1) = o.base + 1 := by rw [IntKind.wrap_i64]; omega
  have HH := Lib.hid h
  have c0 := h.c0
  have HL := Lib.hid (fun w hm => rload_any bm bw W u w hm (o.base + 1))
  obtain ⟨x, hx⟩ : ∃ x, x = getA W (o.base + 1) := ⟨_, rfl⟩
  rw [← hx] at HL ⊢
  have ew : IntKind.u64.wrap ((x : Int) - 1) = (sub1 x : Nat) := by rw [IntKind.wrap_u64]; unfold sub1; omega
  obtain ⟨m, hm1⟩ : ∃ m, m = sub1 x := ⟨_, rfl⟩
  rw [← hm1] at ew ⊢
  clear hm1
  clear hs h hx
  go_enter Tryz.func101, Tryz.ntmps101
  go_wp2_with (go_at_call 72; refine (HL.out _ hm).mono ?_; rintro e w2 ⟨rfl, M2, C2⟩; have H2 := HH.out.chg C2 (by simp; exact n1); have d := H2.c4; have f := H2.frozen 4)
  go_end0
  have CS := fun v => (Chg.refl [g] w2).setCell (a := ⟨g, 4, none⟩) (.inl (by simp)) v
  exact ⟨rfl, H2.s4 m, M2.chg (CS _) (by simp; exact n1.symm) (by simp; exact n2.symm), (C2.mono (S' := [g, bm, bw]) (fun g hg => .inl (by simp at hg ⊢; omega))).then (CS _) (fun g hg => .inl (by simp at hg ⊢; omega))⟩
set_option maxHeartbeats 4000000 in
theorem rpop2_any (g : Nat) (o : DOp) (w : World) (h : IsROp w g o) (hs : o.steps = 2) (h0 : -100 ≤ o.base) (h1 : o.base ≤ 1000000) (hb : o.b < 18446744073709551616) (bm bw : Nat) (W : List Nat) (u : Nat) (hm : IsRef w bm bw W u) (n1 : g ≠ bm) (n2 : g ≠ bw) :
    Calls Tryz.prog 101 #[.pointer (some ⟨g, 0, none⟩), .pointer (some ⟨bm, 0, none⟩)] w fun e w' => e = .returned (.tuple #[]) ∧ IsROp w' g o ∧ IsRef w' bm bw (setA W (o.base + 1) o.b) (tick W (o.base + 1) u) ∧ Chg [g, bm, bw] w w' := by
  have c3 : w.cell? ⟨g, 3, none⟩ = some (.int .i64 2) := by rw [h.c3, hs]; rfl
  have wb : IntKind.i64.wrap (o.base + 1) = o.base + 1 := by rw [IntKind.wrap_i64]; omega
  have HH := Lib.hid h
  have c0 := h.c0
  have c4 := h.c4
  clear hs h
  go_enter Tryz.func101, Tryz.ntmps101
  go_wp2_with fail
  go_region_held3 (fun w' => w'.cell? ⟨g, 0, none⟩ = some (.int .i64 o.base) ∧ w'.cell? ⟨g, 4, none⟩ = some (.int .u64 (o.b : Nat))) (first | assumption | exact ⟨c0, c4⟩)
    ((go_at_call 69; refine (rstore_any bm bw W u _ hm.drew (o.base + 1) o.b hb).mono ?_; rintro e w3 ⟨rfl, M3, C3⟩; have H3 := HH.out.chg C3.undrew (by simp; exact ⟨n1, n2⟩); have k3 := And.intro H3.c0 (H3.c4)))
  clear wb
  go_wp2_with fail
  go_end0
  exact ⟨rfl, H3, M3, C3.undrew.mono (S' := [g, bm, bw]) (fun g hg => .inl (by simp at hg ⊢; omega))⟩
set_option maxHeartbeats 4000000 in
theorem rpop3_any (g : Nat) (o : DOp) (w : World) (h : IsROp w g o) (hs : o.steps = 3) (h0 : -100 ≤ o.base) (h1 : o.base ≤ 1000000) (bm bw : Nat) (W : List Nat) (u : Nat) (hm : IsRef w bm bw W u) (n1 : g ≠ bm) (n2 : g ≠ bw) :
    Calls Tryz.prog 101 #[.pointer (some ⟨g, 0, none⟩), .pointer (some ⟨bm, 0, none⟩)] w fun e w' => e = .returned (.tuple #[]) ∧ IsROp w' g { o with t := getA W o.base } ∧ IsRef w' bm bw W (tick W o.base u) ∧ Chg [g, bm, bw] w w' := by
  have c3 : w.cell? ⟨g, 3, none⟩ = some (.int .i64 3) := by rw [h.c3, hs]; rfl
  have wb : IntKind.i64.wrap (o.base + 1) = o.base + 1 := by rw [IntKind.wrap_i64]; omega
  have HH := Lib.hid h
  have c0 := h.c0
  have HL := Lib.hid (fun w hm => rload_any bm bw W u w hm o.base)
  obtain ⟨x, hx⟩ : ∃ x, x = getA W o.base := ⟨_, rfl⟩
  rw [← hx] at HL ⊢
  clear hs h hx
  go_enter Tryz.func101, Tryz.ntmps101
  go_wp2_with (go_at_call 72; refine (HL.out _ hm).mono ?_; rintro e w2 ⟨rfl, M2, C2⟩; have H2 := HH.out.chg C2 (by simp; exact n1); have d := H2.c5; have f := H2.frozen 5)
  go_end0
  have CS := fun v => (Chg.refl [g] w2).setCell (a := ⟨g, 5, none⟩) (.inl (by simp)) v
  exact ⟨rfl, H2.s5 x, M2.chg (CS _) (by simp; exact n1.symm) (by simp; exact n2.symm), (C2.mono (S' := [g, bm, bw]) (fun g hg => .inl (by simp at hg ⊢; omega))).then (CS _) (fun g hg => .inl (by simp at hg ⊢; omega))⟩
set_option maxHeartbeats 4000000 in
theorem rpop4_empty (g : Nat) (o : DOp) (w : World) (h : IsROp w g o) (hs : o.steps = 4) (h0 : -100 ≤ o.base) (h1 : o.base ≤ 1000000) (hb : o.b < 18446744073709551616) (ht : o.t < 18446744073709551616) (hf : 0 < ahd o.t o.b) (bm bw : Nat) (W : List Nat) (u : Nat) (hm : IsRef w bm bw W u) (n1 : g ≠ bm) (n2 : g ≠ bw) :
    Calls Tryz.prog 101 #[.pointer (some ⟨g, 0, none⟩), .pointer (some ⟨bm, 0, none⟩)] w fun e w' => e = .returned (.tuple #[]) ∧ IsROp w' g { o with done := true, err := 7 } ∧ IsRef w' bm bw (setA W (o.base + 1) o.t) (tick W (o.base + 1) u) ∧ Chg [g, bm, bw] w w' := by
  have c3 : w.cell? ⟨g, 3, none⟩ = some (.int .i64 4) := by rw [h.c3, hs]; rfl
  have wb : IntKind.i64.wrap (o.base + 1) = o.base + 1 := by rw [IntKind.wrap_i64]; omega
  have HH := Lib.hid h
  have c0 := h.c0
  have c4 := h.c4
  have c5 := h.c5
  have HA := Lib.hid (fun w => rahead_any o.t o.b ht hb w)
  obtain ⟨v, hv⟩ : ∃ v, v = ahd o.t o.b := ⟨_, rfl⟩
  rw [← hv] at HA hf
  clear hs h hv
  go_enter Tryz.func101, Tryz.ntmps101
  go_wp2_with fail
  go_region_held3 (fun w' => w'.cell? ⟨g, 4, none⟩ = some (.int .u64 (o.b : Nat)) ∧ w'.cell? ⟨g, 5, none⟩ = some (.int .u64 (o.t : Nat))) (first | assumption | exact ⟨c4, c5⟩)
    ((go_at_call 81; refine (HA.out _).mono ?_; rintro e w4 ⟨rfl, rfl⟩))
  go_wp2_with fail
  go_region_held3 (fun w' => w'.cell? ⟨g, 0, none⟩ = some (.int .i64 o.base) ∧ w'.cell? ⟨g, 5, none⟩ = some (.int .u64 (o.t : Nat))) (first | assumption | exact ⟨c0, c5⟩)
    ((go_at_call 69; refine (rstore_any bm bw W u _ hm.drew.drew (o.base + 1) o.t ht).mono ?_; rintro e w3 ⟨rfl, M3, C3⟩; have H3 := HH.out.chg C3.undrew.undrew (by simp; exact ⟨n1, n2⟩); have k3 := And.intro H3.c0 (H3.c5)))
  clear wb
  go_wp2_with (go_at_call 123; refine (rend_any g _ _ H3 7).mono ?_; rintro e w5 ⟨rfl, H5, C5⟩)
  refine bodyPost_ret (results_none rfl _ _ _) rfl ?_
  exact ⟨rfl, H5, M3.chg C5 (by simp; exact n1.symm) (by simp; exact n2.symm), (C3.undrew.undrew.mono (S' := [g, bm, bw]) (fun g hg => .inl (by simp at hg ⊢; omega))).then C5 (fun g hg => .inl (by simp at hg ⊢; omega))⟩
set_option maxHeartbeats 4000000 in
theorem rpop4_full (g : Nat) (o : DOp) (w : World) (h : IsROp w g o) (hs : o.steps = 4) (h0 : -100 ≤ o.base) (h1 : o.base ≤ 1000000) (hc : Pow2 o.cap) (hb : o.b < 18446744073709551616) (ht : o.t < 18446744073709551616) (hf : ¬ 0 < ahd o.t o.b) (bm bw : Nat) (W : List Nat) (u : Nat) (hm : IsRef w bm bw W u) (n1 : g ≠ bm) (n2 : g ≠ bw) :
    Calls Tryz.prog 101 #[.pointer (some ⟨g, 0, none⟩), .pointer (some ⟨bm, 0, none⟩)] w fun e w' => e = .returned (.tuple #[]) ∧ IsROp w' g (if 0 < ahd o.b o.t then { o with x := getA W (plc o.base o.cap o.b), done := true, err := 0 } else { o with x := getA W (plc o.base o.cap o.b) }) ∧ IsRef w' bm bw W (tick W (plc o.base o.cap o.b) u) ∧ Chg [g, bm, bw] w w' := by
  have c3 : w.cell? ⟨g, 3, none⟩ = some (.int .i64 4) := by rw [h.c3, hs]; rfl
  have wb : IntKind.i64.wrap (o.base + 1) = o.base + 1 := by rw [IntKind.wrap_i64]; omega
  have HH := Lib.hid h
  have c0 := h.c0
  have c1 := h.c1
  have c4 := h.c4
  have c5 := h.c5
  have lg := h.lt
  have HA := Lib.hid (fun w => rahead_any o.t o.b ht hb w)
  have HA2 := Lib.hid (fun w => rahead_any o.b o.t hb ht w)
  have HP := Lib.hid (fun w => rplace_any o.base h0 h1 o.cap hc o.b hb w)
  have HL := Lib.hid (fun w hm => rload_any bm bw W u w hm (plc o.base o.cap o.b))
  obtain ⟨p, hp⟩ : ∃ p, p = plc o.base o.cap o.b := ⟨_, rfl⟩
  rw [← hp] at HP HL ⊢
  obtain ⟨x, hx⟩ : ∃ x, x = getA W p := ⟨_, rfl⟩
  rw [← hx] at HL ⊢
  obtain ⟨v, hv⟩ : ∃ v, v = ahd o.t o.b := ⟨_, rfl⟩
  rw [← hv] at HA hf
  obtain ⟨v2, hv2⟩ : ∃ v, v = ahd o.b o.t := ⟨_, rfl⟩
  rw [← hv2] at HA2 ⊢
  have hd : decide (0 < v) = false := by simpa using hf
  clear hs h hv hv2 hp hx hc hb ht hf wb
  by_cases hf2 : 0 < v2
  · rw [if_pos hf2]
    go_enter Tryz.func101, Tryz.ntmps101
    go_wp2_with fail
    go_region_held3 (fun w' => w'.cell? ⟨g, 4, none⟩ = some (.int .u64 (o.b : Nat)) ∧ w'.cell? ⟨g, 5, none⟩ = some (.int .u64 (o.t : Nat))) (first | assumption | exact ⟨c4, c5⟩)
      ((go_at_call 81; refine (HA.out _).mono ?_; rintro e w4 ⟨rfl, rfl⟩))
    go_wp2_with fail
    go_region_with
      (first
        | (go_at_call 82; refine (HP.out _).mono ?_; rintro e w2 ⟨rfl, C2⟩; have H2 := HH.out.chg C2.undrew.undrew (by simp); have M2 := hm.keep C2.undrew.undrew; have k2 := And.intro H2.c0 (And.intro H2.c1 (H2.c4)))
        | (go_at_call 72; refine (HL.out _ M2).mono ?_; rintro e w3 ⟨rfl, M3, C3⟩; have H3 := H2.chg C3 (by simp; exact n1); have d6 := H3.c6; have f6 := H3.frozen 6; have k3 := And.intro H3.c0 (And.intro H3.c1 (H3.c4))))
    all_goals
      have H4 := H3.s6 x
      have CS := (Chg.refl [g] w3).setCell (a := ⟨g, 6, none⟩) (.inl (by simp)) (.int .u64 (x : Nat))
      have M4 := M3.chg CS (by simp; exact n1.symm) (by simp; exact n2.symm)
      have C4 := ((C2.undrew.undrew.weak (S := [g, bm, bw])).then C3 (fun g hg => .inl (by simp at hg ⊢; omega))).then CS (fun g hg => .inl (by simp at hg ⊢; omega))
      obtain ⟨w4, hw4⟩ : ∃ w4, w4 = w3.setCell ⟨g, 6, none⟩ (.int .u64 (x : Nat)) := ⟨_, rfl⟩
      rw [← hw4] at H4 M4 C4 ⊢
      clear hw4 CS k3 k2 d6 f6 M3 C3 H3 H2 M2 C2
      have j4 : w4.cell? ⟨g, 4, none⟩ = some (.int .u64 (o.b : Nat)) := H4.c4
      have j5 : w4.cell? ⟨g, 5, none⟩ = some (.int .u64 (o.t : Nat)) := H4.c5
      go_wp2_with fail
      go_region_held3 (fun w' => w'.cell? ⟨g, 4, none⟩ = some (.int .u64 (o.b : Nat)) ∧ w'.cell? ⟨g, 5, none⟩ = some (.int .u64 (o.t : Nat))) (first | assumption | exact ⟨j4, j5⟩)
        ((go_at_call 81; refine (HA2.out _).mono ?_; rintro e w5 ⟨rfl, rfl⟩))
      go_wp2_with (go_at_call 123; refine (rend_any g _ _ (H4.chg (Chg.refl [] _).drew (by simp)) 0).mono ?_; rintro e w6 ⟨rfl, H6, C6⟩)
      go_end0
      exact ⟨rfl, H6, M4.drew.chg C6 (by simp; exact n1.symm) (by simp; exact n2.symm), C4.drew.then C6 (fun g hg => .inl (by simp at hg ⊢; omega))⟩
  · rw [if_neg hf2]
    have hd2 : decide (0 < v2) = false := by simpa using hf2
    clear hf2
    go_enter Tryz.func101, Tryz.ntmps101
    go_wp2_with fail
    go_region_held3 (fun w' => w'.cell? ⟨g, 4, none⟩ = some (.int .u64 (o.b : Nat)) ∧ w'.cell? ⟨g, 5, none⟩ = some (.int .u64 (o.t : Nat))) (first | assumption | exact ⟨c4, c5⟩)
      ((go_at_call 81; refine (HA.out _).mono ?_; rintro e w4 ⟨rfl, rfl⟩))
    go_wp2_with fail
    go_region_with
      (first
        | (go_at_call 82; refine (HP.out _).mono ?_; rintro e w2 ⟨rfl, C2⟩; have H2 := HH.out.chg C2.undrew.undrew (by simp); have M2 := hm.keep C2.undrew.undrew; have k2 := And.intro H2.c0 (And.intro H2.c1 (H2.c4)))
        | (go_at_call 72; refine (HL.out _ M2).mono ?_; rintro e w3 ⟨rfl, M3, C3⟩; have H3 := H2.chg C3 (by simp; exact n1); have d6 := H3.c6; have f6 := H3.frozen 6; have k3 := And.intro H3.c0 (And.intro H3.c1 (H3.c4))))
    all_goals
      have H4 := H3.s6 x
      have CS := (Chg.refl [g] w3).setCell (a := ⟨g, 6, none⟩) (.inl (by simp)) (.int .u64 (x : Nat))
      have M4 := M3.chg CS (by simp; exact n1.symm) (by simp; exact n2.symm)
      have C4 := ((C2.undrew.undrew.weak (S := [g, bm, bw])).then C3 (fun g hg => .inl (by simp at hg ⊢; omega))).then CS (fun g hg => .inl (by simp at hg ⊢; omega))
      obtain ⟨w4, hw4⟩ : ∃ w4, w4 = w3.setCell ⟨g, 6, none⟩ (.int .u64 (x : Nat)) := ⟨_, rfl⟩
      rw [← hw4] at H4 M4 C4 ⊢
      clear hw4 CS k3 k2 d6 f6 M3 C3 H3 H2 M2 C2
      have j4 : w4.cell? ⟨g, 4, none⟩ = some (.int .u64 (o.b : Nat)) := H4.c4
      have j5 : w4.cell? ⟨g, 5, none⟩ = some (.int .u64 (o.t : Nat)) := H4.c5
      go_wp2_with fail
      go_region_held3 (fun w' => w'.cell? ⟨g, 4, none⟩ = some (.int .u64 (o.b : Nat)) ∧ w'.cell? ⟨g, 5, none⟩ = some (.int .u64 (o.t : Nat))) (first | assumption | exact ⟨j4, j5⟩)
        ((go_at_call 81; refine (HA2.out _).mono ?_; rintro e w5 ⟨rfl, rfl⟩))
      go_wp2_with fail
      go_end0
      exact ⟨rfl, H4.chg (Chg.refl [] _).drew (by simp), M4.drew, C4.drew⟩
set_option maxHeartbeats 4000000 in
theorem rpop5_any (g : Nat) (o : DOp) (w : World) (h : IsROp w g o) (hs : o.steps = 5) (h0 : -100 ≤ o.base) (h1 : o.base ≤ 1000000) (bm bw : Nat) (W : List Nat) (u : Nat) (hm : IsRef w bm bw W u) (n1 : g ≠ bm) (n2 : g ≠ bw) :
    Calls Tryz.prog 101 #[.pointer (some ⟨g, 0, none⟩), .pointer (some ⟨bm, 0, none⟩)] w fun e w' => e = .returned (.tuple #[]) ∧ IsROp w' g { o with won := wins W o.base o.t } ∧ IsRef w' bm bw (if wins W o.base o.t then setA W o.base (add1 o.t) else W) (tick W o.base u) ∧ Chg [g, bm, bw] w w' := by
  have c3 : w.cell? ⟨g, 3, none⟩ = some (.int .i64 5) := by rw [h.c3, hs]; rfl
  have wb : IntKind.i64.wrap (o.base + 1) = o.base + 1 := by rw [IntKind.wrap_i64]; omega
  have HH := Lib.hid h
  have c0 := h.c0
  have c5 := h.c5
  have hlt := add1_lt o.t
  have ew : IntKind.u64.wrap ((o.t : Int) + 1) = (add1 o.t : Nat) := by rw [IntKind.wrap_u64]; rfl
  obtain ⟨m, hm1⟩ : ∃ m, m = add1 o.t := ⟨_, rfl⟩
  rw [← hm1] at ew hlt ⊢
  clear hm1
  have HC := Lib.hid (fun w hm => rcas_any bm bw W u w hm o.base o.t m hlt)
  obtain ⟨q, hq⟩ : ∃ q, q = wins W o.base o.t := ⟨_, rfl⟩
  rw [← hq] at HC ⊢
  obtain ⟨W2, hW2⟩ : ∃ W2, W2 = (if q then setA W o.base m else W) := ⟨_, rfl⟩
  rw [← hW2] at HC ⊢
  clear hs h hq hW2 wb
  go_enter Tryz.func101, Tryz.ntmps101
  go_wp2_with fail
  go_region_held3 (fun w' => w'.cell? ⟨g, 0, none⟩ = some (.int .i64 o.base) ∧ w'.cell? ⟨g, 5, none⟩ = some (.int .u64 (o.t : Nat))) (first | assumption | exact ⟨c0, c5⟩)
    ((go_at_call 124; refine (HC.out _ hm.drew).mono ?_; rintro e w3 ⟨rfl, M3, C3⟩; have H3 := HH.out.chg C3.undrew (by simp; exact ⟨n1, n2⟩); have d7 := H3.c7; have f7 := H3.frozen 7; have k3 := And.intro H3.c0 (H3.c5); have H4 := H3.s7 q; have k4 : (w3.setCell ⟨g, 7, none⟩ (.bool q)).cell? ⟨g, 0, none⟩ = some (.int .i64 o.base) ∧ (w3.setCell ⟨g, 7, none⟩ (.bool q)).cell? ⟨g, 5, none⟩ = some (.int .u64 (o.t : Nat)) := ⟨H4.c0, H4.c5⟩))
  all_goals
    have CS := (Chg.refl [g] w3).setCell (a := ⟨g, 7, none⟩) (.inl (by simp)) (.bool q)
    have M4 := M3.chg CS (by simp; exact n1.symm) (by simp; exact n2.symm)
    have C4 := (C3.undrew.mono (S' := [g, bm, bw]) (fun g hg => .inl (by simp at hg ⊢; omega))).then CS (fun g hg => .inl (by simp at hg ⊢; omega))
    go_wp2_with fail
    go_end0
    exact ⟨rfl, H4, M4, C4⟩
set_option maxHeartbeats 4000000 in
theorem rpop6_any (g : Nat) (o : DOp) (w : World) (h : IsROp w g o) (hs : o.steps = 6) (h0 : -100 ≤ o.base) (h1 : o.base ≤ 1000000) (bm bw : Nat) (W : List Nat) (u : Nat) (hm : IsRef w bm bw W u) (n1 : g ≠ bm) (n2 : g ≠ bw) :
    Calls Tryz.prog 101 #[.pointer (some ⟨g, 0, none⟩), .pointer (some ⟨bm, 0, none⟩)] w fun e w' => e = .returned (.tuple #[]) ∧ IsROp w' g { o with done := true, err := if o.won then 0 else 7 } ∧ IsRef w' bm bw (setA W (o.base + 1) (add1 o.t)) (tick W (o.base + 1) u) ∧ Chg [g, bm, bw] w w' := by
  have c3 : w.cell? ⟨g, 3, none⟩ = some (.int .i64 6) := by rw [h.c3, hs]; rfl
  have wb : IntKind.i64.wrap (o.base + 1) = o.base + 1 := by rw [IntKind.wrap_i64]; omega
  have HH := Lib.hid h
  have c0 := h.c0
  have c5 := h.c5
  have hlt := add1_lt o.t
  have ew : IntKind.u64.wrap ((o.t : Int) + 1) = (add1 o.t : Nat) := by rw [IntKind.wrap_u64]; rfl
  obtain ⟨m, hm1⟩ : ∃ m, m = add1 o.t := ⟨_, rfl⟩
  rw [← hm1] at ew hlt ⊢
  clear hm1
  clear hs h
  by_cases hw : o.won = true
  · rw [if_pos hw]
    have HQ := Lib.hid (show o.won = true by simpa using hw)
    clear hw
    go_enter Tryz.func101, Tryz.ntmps101
    go_wp2_with fail
    go_region_held3 (fun w' => w'.cell? ⟨g, 0, none⟩ = some (.int .i64 o.base) ∧ w'.cell? ⟨g, 5, none⟩ = some (.int .u64 (o.t : Nat))) (first | assumption | exact ⟨c0, c5⟩)
      ((go_at_call 69; refine (rstore_any bm bw W u _ hm.drew (o.base + 1) m hlt).mono ?_; rintro e w3 ⟨rfl, M3, C3⟩; have H3 := HH.out.chg C3.undrew (by simp; exact ⟨n1, n2⟩); have k3 := And.intro H3.c0 (H3.c5)))
    clear wb
    go_wp2_with (go_at_call 123; refine (rend_any g _ _ H3 0).mono ?_; rintro e w5 ⟨rfl, H5, C5⟩; have d7 : w5.cell? ⟨g, 7, none⟩ = some (.bool true) := (by rw [H5.c7]; exact congrArg (fun b => some (Value.bool b)) HQ.out); have d9 := H5.c9; have f9 := H5.frozen 9)
    go_end0
    exact ⟨rfl, H5, M3.chg C5 (by simp; exact n1.symm) (by simp; exact n2.symm), (C3.undrew.mono (S' := [g, bm, bw]) (fun g hg => .inl (by simp at hg ⊢; omega))).then C5 (fun g hg => .inl (by simp at hg ⊢; omega))⟩
  · rw [if_neg hw]
    have HQ := Lib.hid (show o.won = false by simpa using hw)
    clear hw
    go_enter Tryz.func101, Tryz.ntmps101
    go_wp2_with fail
    go_region_held3 (fun w' => w'.cell? ⟨g, 0, none⟩ = some (.int .i64 o.base) ∧ w'.cell? ⟨g, 5, none⟩ = some (.int .u64 (o.t : Nat))) (first | assumption | exact ⟨c0, c5⟩)
      ((go_at_call 69; refine (rstore_any bm bw W u _ hm.drew (o.base + 1) m hlt).mono ?_; rintro e w3 ⟨rfl, M3, C3⟩; have H3 := HH.out.chg C3.undrew (by simp; exact ⟨n1, n2⟩); have k3 := And.intro H3.c0 (H3.c5)))
    clear wb
    go_wp2_with (go_at_call 123; refine (rend_any g _ _ H3 0).mono ?_; rintro e w5 ⟨rfl, H5, C5⟩; have d7 : w5.cell? ⟨g, 7, none⟩ = some (.bool false) := (by rw [H5.c7]; exact congrArg (fun b => some (Value.bool b)) HQ.out); have d9 := H5.c9; have f9 := H5.frozen 9)
    go_end0
    have CS := (Chg.refl [g] w5).setCell (a := ⟨g, 9, none⟩) (.inl (by simp)) (.int .i64 7)
    exact ⟨rfl, H5.s9 7, (M3.chg C5 (by simp; exact n1.symm) (by simp; exact n2.symm)).chg CS (by simp; exact n1.symm) (by simp; exact n2.symm), ((C3.undrew.mono (S' := [g, bm, bw]) (fun g hg => .inl (by simp at hg ⊢; omega))).then C5 (fun g hg => .inl (by simp at hg ⊢; omega))).then CS (fun g hg => .inl (by simp at hg ⊢; omega))⟩
set_option maxHeartbeats 4000000 in
theorem rsteal1_any (g : Nat) (o : DOp) (w : World) (h : IsROp w g o) (hs : o.steps = 1) (h0 : -100 ≤ o.base) (h1 : o.base ≤ 1000000) (bm bw : Nat) (W : List Nat) (u : Nat) (hm : IsRef w bm bw W u) (n1 : g ≠ bm) (n2 : g ≠ bw) :
    Calls Tryz.prog 102 #[.pointer (some ⟨g, 0, none⟩), .pointer (some ⟨bm, 0, none⟩)] w fun e w' => e = .returned (.tuple #[]) ∧ IsROp w' g { o with t := getA W o.base } ∧ IsRef w' bm bw W (tick W o.base u) ∧ Chg [g, bm, bw] w w' := by
  have c3 : w.cell? ⟨g, 3, none⟩ = some (.int .i64 1) := by rw [h.c3, hs]; rfl
  have wb : IntKind.i64.wrap (o.base + 1) = o.base + 1 := by rw [IntKind.wrap_i64]; omega
  have HH := Lib.hid h
  have c0 := h.c0
  have HL := Lib.hid (fun w hm => rload_any bm bw W u w hm o.base)
  obtain ⟨x, hx⟩ : ∃ x, x = getA W o.base := ⟨_, rfl⟩
  rw [← hx] at HL ⊢
  clear hs h hx
  go_enter Tryz.func102, Tryz.ntmps102
  go_wp2_with (go_at_call 72; refine (HL.out _ hm).mono ?_; rintro e w2 ⟨rfl, M2, C2⟩; have H2 := HH.out.chg C2 (by simp; exact n1); have d := H2.c5; have f := H2.frozen 5)
  go_end0
  have CS := fun v => (Chg.refl [g] w2).setCell (a := ⟨g, 5, none⟩) (.inl (by simp)) v
  exact ⟨rfl, H2.s5 x, M2.chg (CS _) (by simp; exact n1.symm) (by simp; exact n2.symm), (C2.mono (S' := [g, bm, bw]) (fun g hg => .inl (by simp at hg ⊢; omega))).then (CS _) (fun g hg => .inl (by simp at hg ⊢; omega))⟩
set_option maxHeartbeats 4000000 in
theorem rsteal2_any (g : Nat) (o : DOp) (w : World) (h : IsROp w g o) (hs : o.steps = 2) (h0 : -100 ≤ o.base) (h1 : o.base ≤ 1000000) (ht : o.t < 18446744073709551616) (bm bw : Nat) (W : List Nat) (u : Nat) (hm : IsRef w bm bw W u) (n1 : g ≠ bm) (n2 : g ≠ bw) :
    Calls Tryz.prog 102 #[.pointer (some ⟨g, 0, none⟩), .pointer (some ⟨bm, 0, none⟩)] w fun e w' => e = .returned (.tuple #[]) ∧ IsROp w' g (if ahd (getA W (o.base + 1)) o.t ≤ 0 then { o with b := getA W (o.base + 1), done := true, err := 7 } else { o with b := getA W (o.base + 1) }) ∧ IsRef w' bm bw W (tick W (o.base + 1) u) ∧ Chg [g, bm, bw] w w' := by
  have c3 : w.cell? ⟨g, 3, none⟩ = some (.int .i64 2) := by rw [h.c3, hs]; rfl
  have wb : IntKind.i64.wrap (o.base + 1) = o.base + 1 := by rw [IntKind.wrap_i64]; omega
  have HH := Lib.hid h
  have c0 := h.c0
  have HL := Lib.hid (fun w hm => rload_any bm bw W u w hm (o.base + 1))
  have hx0 := hm.small.getA (o.base + 1)
  obtain ⟨x, hx⟩ : ∃ x, x = getA W (o.base + 1) := ⟨_, rfl⟩
  rw [← hx] at HL hx0 ⊢
  have HA := Lib.hid (fun w => rahead_any x o.t hx0 ht w)
  obtain ⟨v, hv⟩ : ∃ v, v = ahd x o.t := ⟨_, rfl⟩
  rw [← hv] at HA ⊢
  clear hs h hx hv hx0
  by_cases hf : v ≤ 0
  · rw [if_pos hf]
    go_enter Tryz.func102, Tryz.ntmps102
    go_wp2_with (go_at_call 72; refine (HL.out _ hm).mono ?_; rintro e w2 ⟨rfl, M2, C2⟩; have H2 := HH.out.chg C2 (by simp; exact n1); have d4 := H2.c4; have f4 := H2.frozen 4)
    have CS := (Chg.refl [g] w2).setCell (a := ⟨g, 4, none⟩) (.inl (by simp)) (.int .u64 (x : Nat))
    have H3 := H2.s4 x
    have M3 := M2.chg CS (by simp; exact n1.symm) (by simp; exact n2.symm)
    have C3 := (C2.mono (S' := [g, bm, bw]) (fun g hg => .inl (by simp at hg ⊢; omega))).then CS (fun g hg => .inl (by simp at hg ⊢; omega))
    obtain ⟨w3, hw3⟩ : ∃ w3, w3 = w2.setCell ⟨g, 4, none⟩ (.int .u64 (x : Nat)) := ⟨_, rfl⟩
    rw [← hw3] at H3 M3 C3 ⊢
    clear hw3 CS d4 f4 M2 C2 H2 c3 c0 wb
    have k4 : w3.cell? ⟨g, 4, none⟩ = some (.int .u64 (x : Nat)) := H3.c4
    have k5 : w3.cell? ⟨g, 5, none⟩ = some (.int .u64 (o.t : Nat)) := H3.c5
    go_region_held3 (fun w' => w'.cell? ⟨g, 4, none⟩ = some (.int .u64 (x : Nat)) ∧ w'.cell? ⟨g, 5, none⟩ = some (.int .u64 (o.t : Nat))) (first | assumption | exact ⟨k4, k5⟩)
      ((go_at_call 81; refine (HA.out _).mono ?_; rintro e w4 ⟨rfl, rfl⟩))
    go_wp2_with (go_at_call 123; refine (rend_any g _ _ (H3.chg (Chg.refl [] _).drew (by simp)) 7).mono ?_; rintro e w5 ⟨rfl, H5, C5⟩)
    go_end0
    exact ⟨rfl, H5, (M3.drew).chg C5 (by simp; exact n1.symm) (by simp; exact n2.symm), C3.drew.then C5 (fun g hg => .inl (by simp at hg ⊢; omega))⟩
  · rw [if_neg hf]
    have hd : decide (v ≤ 0) = false := by simpa using hf
    clear hf
    go_enter Tryz.func102, Tryz.ntmps102
    go_wp2_with (go_at_call 72; refine (HL.out _ hm).mono ?_; rintro e w2 ⟨rfl, M2, C2⟩; have H2 := HH.out.chg C2 (by simp; exact n1); have d4 := H2.c4; have f4 := H2.frozen 4)
    have CS := (Chg.refl [g] w2).setCell (a := ⟨g, 4, none⟩) (.inl (by simp)) (.int .u64 (x : Nat))
    have H3 := H2.s4 x
    have M3 := M2.chg CS (by simp; exact n1.symm) (by simp; exact n2.symm)
    have C3 := (C2.mono (S' := [g, bm, bw]) (fun g hg => .inl (by simp at hg ⊢; omega))).then CS (fun g hg => .inl (by simp at hg ⊢; omega))
    obtain ⟨w3, hw3⟩ : ∃ w3, w3 = w2.setCell ⟨g, 4, none⟩ (.int .u64 (x : Nat)) := ⟨_, rfl⟩
    rw [← hw3] at H3 M3 C3 ⊢
    clear hw3 CS d4 f4 M2 C2 H2 c3 c0 wb
    have k4 : w3.cell? ⟨g, 4, none⟩ = some (.int .u64 (x : Nat)) := H3.c4
    have k5 : w3.cell? ⟨g, 5, none⟩ = some (.int .u64 (o.t : Nat)) := H3.c5
    go_region_held3 (fun w' => w'.cell? ⟨g, 4, none⟩ = some (.int .u64 (x : Nat)) ∧ w'.cell? ⟨g, 5, none⟩ = some (.int .u64 (o.t : Nat))) (first | assumption | exact ⟨k4, k5⟩)
      ((go_at_call 81; refine (HA.out _).mono ?_; rintro e w4 ⟨rfl, rfl⟩))
    go_wp2_with fail
    go_end0
    exact ⟨rfl, H3.chg (Chg.refl [] _).drew (by simp), M3.drew, C3.drew⟩
set_option maxHeartbeats 4000000 in
theorem rsteal3_any (g : Nat) (o : DOp) (w : World) (h : IsROp w g o) (hs : o.steps = 3) (h0 : -100 ≤ o.base) (h1 : o.base ≤ 1000000) (hc : Pow2 o.cap) (ht : o.t < 18446744073709551616) (bm bw : Nat) (W : List Nat) (u : Nat) (hm : IsRef w bm bw W u) (n1 : g ≠ bm) (n2 : g ≠ bw) :
    Calls Tryz.prog 102 #[.pointer (some ⟨g, 0, none⟩), .pointer (some ⟨bm, 0, none⟩)] w fun e w' => e = .returned (.tuple #[]) ∧ IsROp w' g { o with x := getA W (plc o.base o.cap o.t) } ∧ IsRef w' bm bw W (tick W (plc o.base o.cap o.t) u) ∧ Chg [g, bm, bw] w w' := by
  have c3 : w.cell? ⟨g, 3, none⟩ = some (.int .i64 3) := by rw [h.c3, hs]; rfl
  have wb : IntKind.i64.wrap (o.base + 1) = o.base + 1 := by rw [IntKind.wrap_i64]; omega
  have HH := Lib.hid h
  have c0 := h.c0
  have c1 := h.c1
  have c5 := h.c5
  have lg := h.lt
  have HP := Lib.hid (fun w => rplace_any o.base h0 h1 o.cap hc o.t ht w)
  have HL := Lib.hid (fun w hm => rload_any bm bw W u w hm (plc o.base o.cap o.t))
  obtain ⟨p, hp⟩ : ∃ p, p = plc o.base o.cap o.t := ⟨_, rfl⟩
  rw [← hp] at HP HL ⊢
  obtain ⟨x, hx⟩ : ∃ x, x = getA W p := ⟨_, rfl⟩
  rw [← hx] at HL ⊢
  clear hs h hp hx hc ht wb
  go_enter Tryz.func102, Tryz.ntmps102
  go_wp2_with fail
  go_region_with
      (first
        | (go_at_call 82; refine (HP.out _).mono ?_; rintro e w2 ⟨rfl, C2⟩; have H2 := HH.out.chg C2.undrew (by simp); have M2 := hm.keep C2.undrew; have k2 := And.intro H2.c0 (And.intro H2.c1 (H2.c5)))
        | (go_at_call 72; refine (HL.out _ M2).mono ?_; rintro e w3 ⟨rfl, M3, C3⟩; have H3 := H2.chg C3 (by simp; exact n1); have d6 := H3.c6; have f6 := H3.frozen 6; have k3 := And.intro H3.c0 (And.intro H3.c1 (H3.c5))))
  all_goals
    have H4 := H3.s6 x
    have CS := (Chg.refl [g] w3).setCell (a := ⟨g, 6, none⟩) (.inl (by simp)) (.int .u64 (x : Nat))
    have M4 := M3.chg CS (by simp; exact n1.symm) (by simp; exact n2.symm)
    have C4 := ((C2.undrew.weak (S := [g, bm, bw])).then C3 (fun g hg => .inl (by simp at hg ⊢; omega))).then CS (fun g hg => .inl (by simp at hg ⊢; omega))
    go_wp2_with fail
    go_end0
    exact ⟨rfl, H4, M4, C4⟩
set_option maxHeartbeats 4000000 in
theorem rsteal4_any (g : Nat) (o : DOp) (w : World) (h : IsROp w g o) (hs : o.steps = 4) (h0 : -100 ≤ o.base) (h1 : o.base ≤ 1000000) (bm bw : Nat) (W : List Nat) (u : Nat) (hm : IsRef w bm bw W u) (n1 : g ≠ bm) (n2 : g ≠ bw) :
    Calls Tryz.prog 102 #[.pointer (some ⟨g, 0, none⟩), .pointer (some ⟨bm, 0, none⟩)] w fun e w' => e = .returned (.tuple #[]) ∧ IsROp w' g { o with done := true, err := if wins W o.base o.t then 0 else 8 } ∧ IsRef w' bm bw (if wins W o.base o.t then setA W o.base (add1 o.t) else W) (tick W o.base u) ∧ Chg [g, bm, bw] w w' := by
  have c3 : w.cell? ⟨g, 3, none⟩ = some (.int .i64 4) := by rw [h.c3, hs]; rfl
  have wb : IntKind.i64.wrap (o.base + 1) = o.base + 1 := by rw [IntKind.wrap_i64]; omega
  have HH := Lib.hid h
  have hlt := add1_lt o.t
  have ew : IntKind.u64.wrap ((o.t : Int) + 1) = (add1 o.t : Nat) := by rw [IntKind.wrap_u64]; rfl
  obtain ⟨m, hm1⟩ : ∃ m, m = add1 o.t := ⟨_, rfl⟩
  rw [← hm1] at ew hlt ⊢
  clear hm1
  have HC := Lib.hid (fun w hm => rcas_any bm bw W u w hm o.base o.t m hlt)
  obtain ⟨q, hq⟩ : ∃ q, q = wins W o.base o.t := ⟨_, rfl⟩
  rw [← hq] at HC ⊢
  obtain ⟨W2, hW2⟩ : ∃ W2, W2 = (if q then setA W o.base m else W) := ⟨_, rfl⟩
  rw [← hW2] at HC ⊢
  clear hs h hq hW2 wb
  cases q
  · go_enter Tryz.func102, Tryz.ntmps102
    go_wp2_with (go_at_call 123; refine (rend_any g _ _ HH.out 8).mono ?_; rintro e w2 ⟨rfl, H2, C2⟩; have M2 := hm.chg C2 (by simp; exact n1.symm) (by simp; exact n2.symm); have j0 : w2.cell? ⟨g, 0, none⟩ = some (.int .i64 o.base) := H2.c0; have j5 : w2.cell? ⟨g, 5, none⟩ = some (.int .u64 (o.t : Nat)) := H2.c5)
    go_region_held3 (fun w' => w'.cell? ⟨g, 0, none⟩ = some (.int .i64 o.base) ∧ w'.cell? ⟨g, 5, none⟩ = some (.int .u64 (o.t : Nat))) (first | assumption | exact ⟨j0, j5⟩)
      ((go_at_call 124; refine (HC.out _ M2.drew).mono ?_; rintro e w3 ⟨rfl, M3, C3⟩; have H3 := H2.chg C3.undrew (by simp; exact ⟨n1, n2⟩); have d9 := H3.c9; have f9 := H3.frozen 9; have k3 : w3.cell? ⟨g, 0, none⟩ = some (.int .i64 o.base) ∧ w3.cell? ⟨g, 5, none⟩ = some (.int .u64 (o.t : Nat)) := ⟨H3.c0, H3.c5⟩))
    go_wp2_with fail
    go_end0
    exact ⟨rfl, H3, M3, (C2.mono (S' := [g, bm, bw]) (fun g hg => .inl (by simp at hg ⊢; omega))).then C3.undrew (fun g hg => .inl (by simp at hg ⊢; omega))⟩
  · go_enter Tryz.func102, Tryz.ntmps102
    go_wp2_with (go_at_call 123; refine (rend_any g _ _ HH.out 8).mono ?_; rintro e w2 ⟨rfl, H2, C2⟩; have M2 := hm.chg C2 (by simp; exact n1.symm) (by simp; exact n2.symm); have j0 : w2.cell? ⟨g, 0, none⟩ = some (.int .i64 o.base) := H2.c0; have j5 : w2.cell? ⟨g, 5, none⟩ = some (.int .u64 (o.t : Nat)) := H2.c5)
    go_region_held3 (fun w' => w'.cell? ⟨g, 0, none⟩ = some (.int .i64 o.base) ∧ w'.cell? ⟨g, 5, none⟩ = some (.int .u64 (o.t : Nat))) (first | assumption | exact ⟨j0, j5⟩)
      ((go_at_call 124; refine (HC.out _ M2.drew).mono ?_; rintro e w3 ⟨rfl, M3, C3⟩; have H3 := H2.chg C3.undrew (by simp; exact ⟨n1, n2⟩); have d9 := H3.c9; have f9 := H3.frozen 9; have k3 : w3.cell? ⟨g, 0, none⟩ = some (.int .i64 o.base) ∧ w3.cell? ⟨g, 5, none⟩ = some (.int .u64 (o.t : Nat)) := ⟨H3.c0, H3.c5⟩))
    go_wp2_with fail
    go_end0
    have CS := (Chg.refl [g] w3).setCell (a := ⟨g, 9, none⟩) (.inl (by simp)) (.int .i64 0)
    exact ⟨rfl, H3.s9 0, M3.chg CS (by simp; exact n1.symm) (by simp; exact n2.symm), ((C2.mono (S' := [g, bm, bw]) (fun g hg => .inl (by simp at hg ⊢; omega))).then C3.undrew (fun g hg => .inl (by simp at hg ⊢; omega))).then CS (fun g hg => .inl (by simp at hg ⊢; omega))⟩
end Go.Proofs.YtjdbgohfedjifaaGreatDoor
