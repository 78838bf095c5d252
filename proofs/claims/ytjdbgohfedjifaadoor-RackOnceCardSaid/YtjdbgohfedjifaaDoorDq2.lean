/- deque: the steps of a push. -/
import Derived.Test.YtjdbgohfedjifaaDoorDqA
namespace Go.Proofs.YtjdbgohfedjifaaDoor
open Go.RowKit Bosun
set_option maxHeartbeats 1000000 in
theorem push1_any (g : Nat) (o : DOp) (w : World) (h : IsOp w g o) (hs : o.steps = 1) (h0 : -100 ≤ o.base) (h1 : o.base ≤ 1000000) (bm bw : Nat) (W : List Nat) (u : Nat) (hm : IsMem w bm bw W u) (n1 : g ≠ bm) (n2 : g ≠ bw) :
    Calls Tryd.prog 73 #[.pointer (some ⟨g, 0, none⟩), .pointer (some ⟨bm, 0, none⟩)] w fun e w' => e = .returned (.tuple #[]) ∧ IsOp w' g { o with b := getA W (o.base + 1) } ∧ IsMem w' bm bw W (tick W (o.base + 1) u) ∧ Chg [g, bm, bw] w w' := by
  have c3 : w.cell? ⟨g, 3, none⟩ = some (.int .i64 1) := by rw [h.c3, hs]; rfl
  have HH := Lib.hid h
  have HB := Lib.hid (fun w h => bottom_any g o w h h0 h1)
  have HL := Lib.hid (fun w hm => load_any bm bw W u w hm (o.base + 1))
  obtain ⟨x, hx⟩ : ∃ x, x = getA W (o.base + 1) := ⟨_, rfl⟩
  rw [← hx] at HL ⊢
  clear hs h hx
  go_enter Tryd.func73, Tryd.ntmps73
  go_wp2_with fail
  refine (HB.out _ HH.out).mono ?_
  rintro e w1 ⟨rfl, rfl⟩
  go_wp2_with fail
  refine (HL.out _ hm).mono ?_
  rintro e w2 ⟨rfl, M2, C2⟩
  have H2 := HH.out.chg C2 (by simp; exact n1)
  have d4 := H2.c4
  have f4 := H2.frozen 4
  go_wp2_with fail
  go_end0
  have CS := fun v => (Chg.refl [g] w2).setCell (a := ⟨g, 4, none⟩) (.inl (by simp)) v
  exact ⟨rfl, H2.s4 x, M2.chg (CS _) (by simp; exact n1.symm) (by simp; exact n2.symm), (C2.mono (fun g hg => .inl (by simp at hg ⊢; omega))).then (CS _) (fun g hg => .inl (by simp at hg ⊢; omega))⟩
set_option maxHeartbeats 2000000 in
theorem push2_any (g : Nat) (o : DOp) (w : World) (h : IsOp w g o) (hs : o.steps = 2) (h0 : -100 ≤ o.base) (h1 : o.base ≤ 1000000) (hb : o.b < 18446744073709551616) (bm bw : Nat) (W : List Nat) (u : Nat) (hm : IsMem w bm bw W u) (n1 : g ≠ bm) (n2 : g ≠ bw) :
    Calls Tryd.prog 73 #[.pointer (some ⟨g, 0, none⟩), .pointer (some ⟨bm, 0, none⟩)] w fun e w' => e = .returned (.tuple #[]) ∧ IsOp w' g (if (o.cap : Int) ≤ ahd o.b (getA W o.base) then { o with t := getA W o.base, done := true, err := 6 } else { o with t := getA W o.base }) ∧ IsMem w' bm bw W (tick W o.base u) ∧ Chg [g, bm, bw] w w' := by
  have c3 : w.cell? ⟨g, 3, none⟩ = some (.int .i64 2) := by rw [h.c3, hs]; rfl
  have HH := Lib.hid h
  have HB := Lib.hid (fun w h => top_any g o w h h0 h1)
  have HL := Lib.hid (fun w hm => load_any bm bw W u w hm o.base)
  have hx0 := hm.small.getA o.base
  obtain ⟨x, hx⟩ : ∃ x, x = getA W o.base := ⟨_, rfl⟩
  rw [← hx] at HL hx0 ⊢
  have HA := Lib.hid (fun w => ahead_any o.b x hb hx0 w)
  obtain ⟨v, hv⟩ : ∃ v, v = ahd o.b x := ⟨_, rfl⟩
  rw [← hv] at HA ⊢
  clear hs h hx hv hb hx0
  by_cases hf : (o.cap : Int) ≤ v
  · rw [if_pos hf]
    go_enter Tryd.func73, Tryd.ntmps73
    go_wp2_with fail
    refine (HB.out _ HH.out).mono ?_
    rintro e w1 ⟨rfl, rfl⟩
    go_wp2_with fail
    refine (HL.out _ hm).mono ?_
    rintro e w2 ⟨rfl, M2, C2⟩
    have H2 := HH.out.chg C2 (by simp; exact n1)
    have d5 := H2.c5
    have f5 := H2.frozen 5
    go_wp2_with fail
    have CS := (Chg.refl [g] w2).setCell (a := ⟨g, 5, none⟩) (.inl (by simp)) (.int .u64 (x : Nat))
    have H3 := H2.s5 x
    have M3 := M2.chg CS (by simp; exact n1.symm) (by simp; exact n2.symm)
    have C3 := (C2.mono (S' := [g, bm, bw]) (fun g hg => .inl (by simp at hg ⊢; omega))).then CS (fun g hg => .inl (by simp at hg ⊢; omega))
    obtain ⟨w3, hw3⟩ : ∃ w3, w3 = w2.setCell ⟨g, 5, none⟩ (.int .u64 (x : Nat)) := ⟨_, rfl⟩
    rw [← hw3] at H3 M3 C3 ⊢
    clear hw3 CS d5 f5 M2 C2 H2 c3
    have k1 : w3.cell? ⟨g, 1, none⟩ = some (.int .i64 (o.cap : Nat)) := H3.c1
    have k4 := H3.c4
    have k5 : w3.cell? ⟨g, 5, none⟩ = some (.int .u64 (x : Nat)) := H3.c5
    go_region_held3 (fun w' => w'.cell? ⟨g, 1, none⟩ = some (.int .i64 (o.cap : Nat)) ∧ w'.cell? ⟨g, 4, none⟩ = some (.int .u64 (o.b : Nat)) ∧ w'.cell? ⟨g, 5, none⟩ = some (.int .u64 (x : Nat))) (first | assumption | exact ⟨k1, k4, k5⟩)
      ((go_at_call 66; refine (HA.out _).mono ?_; rintro e w4 ⟨rfl, rfl⟩))
    go_wp2_with (go_at_call 93; refine (end_any g _ _ (H3.chg (Chg.refl [] _).drew (by simp)) 6).mono ?_; rintro e w5 ⟨rfl, H5, C5⟩)
    go_end0
    exact ⟨rfl, H5, (M3.drew).chg C5 (by simp; exact n1.symm) (by simp; exact n2.symm), C3.drew.then C5 (fun g hg => .inl (by simp at hg ⊢; omega))⟩
  · rw [if_neg hf]
    have hd : decide ((o.cap : Int) ≤ v) = false := by simpa using hf
    clear hf
    go_enter Tryd.func73, Tryd.ntmps73
    go_wp2_with fail
    refine (HB.out _ HH.out).mono ?_
    rintro e w1 ⟨rfl, rfl⟩
    go_wp2_with fail
    refine (HL.out _ hm).mono ?_
    rintro e w2 ⟨rfl, M2, C2⟩
    have H2 := HH.out.chg C2 (by simp; exact n1)
    have d5 := H2.c5
    have f5 := H2.frozen 5
    go_wp2_with fail
    have CS := (Chg.refl [g] w2).setCell (a := ⟨g, 5, none⟩) (.inl (by simp)) (.int .u64 (x : Nat))
    have H3 := H2.s5 x
    have M3 := M2.chg CS (by simp; exact n1.symm) (by simp; exact n2.symm)
    have C3 := (C2.mono (S' := [g, bm, bw]) (fun g hg => .inl (by simp at hg ⊢; omega))).then CS (fun g hg => .inl (by simp at hg ⊢; omega))
    obtain ⟨w3, hw3⟩ : ∃ w3, w3 = w2.setCell ⟨g, 5, none⟩ (.int .u64 (x : Nat)) := ⟨_, rfl⟩
    rw [← hw3] at H3 M3 C3 ⊢
    clear hw3 CS d5 f5 M2 C2 H2 c3
    have k1 : w3.cell? ⟨g, 1, none⟩ = some (.int .i64 (o.cap : Nat)) := H3.c1
    have k4 := H3.c4
    have k5 : w3.cell? ⟨g, 5, none⟩ = some (.int .u64 (x : Nat)) := H3.c5
    go_region_held3 (fun w' => w'.cell? ⟨g, 1, none⟩ = some (.int .i64 (o.cap : Nat)) ∧ w'.cell? ⟨g, 4, none⟩ = some (.int .u64 (o.b : Nat)) ∧ w'.cell? ⟨g, 5, none⟩ = some (.int .u64 (x : Nat))) (first | assumption | exact ⟨k1, k4, k5⟩)
      ((go_at_call 66; refine (HA.out _).mono ?_; rintro e w4 ⟨rfl, rfl⟩))
    go_wp2_with fail
    go_end0
    exact ⟨rfl, H3.chg (Chg.refl [] _).drew (by simp), M3.drew, C3.drew⟩
set_option maxHeartbeats 2000000 in
theorem push3_any (g : Nat) (o : DOp) (w : World) (h : IsOp w g o) (hs : o.steps = 3) (h0 : -100 ≤ o.base) (h1 : o.base ≤ 1000000) (hc : Pow2 o.cap) (hb : o.b < 18446744073709551616) (hx : o.x < 18446744073709551616) (bm bw : Nat) (W : List Nat) (u : Nat) (hm : IsMem w bm bw W u) (n1 : g ≠ bm) (n2 : g ≠ bw) :
    Calls Tryd.prog 73 #[.pointer (some ⟨g, 0, none⟩), .pointer (some ⟨bm, 0, none⟩)] w fun e w' => e = .returned (.tuple #[]) ∧ IsOp w' g o ∧ IsMem w' bm bw (setA W (plc o.base o.cap o.b) o.x) (tick W (plc o.base o.cap o.b) u) ∧ Chg [g, bm, bw] w w' := by
  have c3 : w.cell? ⟨g, 3, none⟩ = some (.int .i64 3) := by rw [h.c3, hs]; rfl
  have c0 := h.c0
  have c1 := h.c1
  have c4 := h.c4
  have c6 := h.c6
  have HH := Lib.hid h
  have HB := Lib.hid (fun w => place_any o.base h0 h1 o.cap hc o.b hb w)
  have HL := Lib.hid (fun w hm => store_any bm bw W u w hm (plc o.base o.cap o.b) o.x hx)
  obtain ⟨p, hp⟩ : ∃ p, p = plc o.base o.cap o.b := ⟨_, rfl⟩
  rw [← hp] at HB HL ⊢
  have lg := h.lt
  clear hs h hp hb hx hc
  go_enter Tryd.func73, Tryd.ntmps73
  go_wp2_with fail
  go_region_held3 (fun w' => w'.cell? ⟨g, 0, none⟩ = some (.int .i64 o.base) ∧ w'.cell? ⟨g, 1, none⟩ = some (.int .i64 (o.cap : Nat)) ∧ w'.cell? ⟨g, 4, none⟩ = some (.int .u64 (o.b : Nat)) ∧ w'.cell? ⟨g, 6, none⟩ = some (.int .u64 (o.x : Nat))) (first | assumption | exact ⟨c0, c1, c4, c6⟩)
    (first
      | (go_at_call 65; refine (HB.out _).mono ?_; rintro e w2 ⟨rfl, C2⟩; have H2 := HH.out.chg C2.undrew (by simp); have M2 := hm.keep C2.undrew; have k2 := And.intro H2.c0 (And.intro H2.c1 (And.intro H2.c4 H2.c6)))
      | (go_at_call 94; refine (HL.out _ M2).mono ?_; rintro e w3 ⟨rfl, M3, C3⟩; have H3 := H2.chg C3 (by simp; exact ⟨n1, n2⟩); have k3 := And.intro H3.c0 (And.intro H3.c1 (And.intro H3.c4 H3.c6))))
  go_wp2_with fail
  go_end0
  exact ⟨rfl, H3, M3, C2.undrew.weak.then C3 (fun g hg => .inl (by simp at hg ⊢; omega))⟩
set_option maxHeartbeats 2000000 in
theorem push4_any (g : Nat) (o : DOp) (w : World) (h : IsOp w g o) (hs : o.steps = 4) (h0 : -100 ≤ o.base) (h1 : o.base ≤ 1000000) (bm bw : Nat) (W : List Nat) (u : Nat) (hm : IsMem w bm bw W u) (n1 : g ≠ bm) (n2 : g ≠ bw) :
    Calls Tryd.prog 73 #[.pointer (some ⟨g, 0, none⟩), .pointer (some ⟨bm, 0, none⟩)] w fun e w' => e = .returned (.tuple #[]) ∧ IsOp w' g { o with done := true, err := 0 } ∧ IsMem w' bm bw (setA W (o.base + 1) (add1 o.b)) (tick W (o.base + 1) u) ∧ Chg [g, bm, bw] w w' := by
  have c3 : w.cell? ⟨g, 3, none⟩ = some (.int .i64 4) := by rw [h.c3, hs]; rfl
  have c4 := h.c4
  have HH := Lib.hid h
  have HB := Lib.hid (fun w h => bottom_any g o w h h0 h1)
  have hlt := add1_lt o.b
  have ew : IntKind.u64.wrap ((o.b : Int) + 1) = (add1 o.b : Nat) := by rw [IntKind.wrap_u64]; rfl
  obtain ⟨m, hm1⟩ : ∃ m, m = add1 o.b := ⟨_, rfl⟩
  rw [← hm1] at ew hlt ⊢
  clear hm1 hs h
  go_enter Tryd.func73, Tryd.ntmps73
  go_wp2_with fail
  go_region_held3 (fun w' => w'.cell? ⟨g, 4, none⟩ = some (.int .u64 (o.b : Nat))) (first | assumption | exact c4)
    (first
      | (go_at_call 91; refine (HB.out _ (HH.out.chg (Chg.refl [] _).drew (by simp))).mono ?_; rintro e w2 ⟨rfl, rfl⟩)
      | (go_at_call 94; refine (store_any bm bw W u _ hm.drew (o.base + 1) m hlt).mono ?_; rintro e w3 ⟨rfl, M3, C3⟩; have H3 := HH.out.chg C3.undrew (by simp; exact ⟨n1, n2⟩); have k3 := H3.c4))
  go_wp2_with (go_at_call 93; refine (end_any g _ _ H3 0).mono ?_; rintro e w5 ⟨rfl, H5, C5⟩)
  go_end0
  exact ⟨rfl, H5, M3.chg C5 (by simp; exact n1.symm) (by simp; exact n2.symm), (C3.undrew.mono (fun g hg => .inl (by simp at hg ⊢; omega))).then C5 (fun g hg => .inl (by simp at hg ⊢; omega))⟩
end Go.Proofs.YtjdbgohfedjifaaDoor
