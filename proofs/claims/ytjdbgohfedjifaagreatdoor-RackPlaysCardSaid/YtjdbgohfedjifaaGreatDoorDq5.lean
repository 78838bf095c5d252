/- deque: a step of any work. -/
import Derived.Test.YtjdbgohfedjifaaGreatDoorDqA
import Derived.Test.YtjdbgohfedjifaaGreatDoorDq3
import Derived.Test.YtjdbgohfedjifaaGreatDoorDq4
namespace Go.Proofs.YtjdbgohfedjifaaGreatDoor
open Go.RowKit Bosun
theorem step_done (g : Nat) (o : DOp) (w : World) (h : IsOp w g o) (hd : o.done = true) (bm : Nat) :
    Calls Tryz.prog 93 #[.pointer (some ⟨g, 0, none⟩), .pointer (some ⟨bm, 0, none⟩)] w fun e w' => e = .returned (.bool true) ∧ w = w' := by
  have c8 : w.cell? ⟨g, 8, none⟩ = some (.bool true) := by rw [h.c8, hd]
  have HD := Lib.hid (done_any g o w h)
  rw [hd] at HD
  clear h hd
  go_enter Tryz.func93, Tryz.ntmps93
  go_wp2_with (go_at_call 113; refine HD.out.mono ?_; rintro e w2 ⟨rfl, rfl⟩)
  go_ret
  exact ⟨rfl, rfl⟩
set_option maxHeartbeats 1000000 in
theorem step_push (g : Nat) (o : DOp) (w : World) (h : IsOp w g o) (hk : o.kind = 0) (hd : o.done = false) (hs : o.steps ≤ 6) (bm bw : Nat) (W : List Nat) (u : Nat) (hm : IsMem w bm bw W u) (n1 : g ≠ bm) (n2 : g ≠ bw) (o' : DOp) (W' : List Nat) (u' : Nat)
    (hc : ∀ w, IsOp w g { o with steps := o.steps + 1 } → IsMem w bm bw W u → Calls Tryz.prog 114 #[.pointer (some ⟨g, 0, none⟩), .pointer (some ⟨bm, 0, none⟩)] w fun e w' => e = .returned (.tuple #[]) ∧ IsOp w' g o' ∧ IsMem w' bm bw W' u' ∧ Chg [g, bm, bw] w w') :
    Calls Tryz.prog 93 #[.pointer (some ⟨g, 0, none⟩), .pointer (some ⟨bm, 0, none⟩)] w fun e w' => e = .returned (.bool o'.done) ∧ IsOp w' g o' ∧ IsMem w' bm bw W' u' ∧ Chg [g, bm, bw] w w' := by
  have c8 : w.cell? ⟨g, 8, none⟩ = some (.bool false) := by rw [h.c8, hd]
  have c2 : w.cell? ⟨g, 2, none⟩ = some (.int .i64 0) := by rw [h.c2, hk]; rfl
  have c3 := h.c3
  have f3 := h.frozen 3
  have HC := Lib.hid hc
  have H1 := Lib.hid (h.s3 (o.steps + 1))
  have CS := Lib.hid ((Chg.refl [g] w).setCell (a := ⟨g, 3, none⟩) (.inl (by simp)) (.int .i64 ((o.steps + 1 : Nat) : Int)))
  clear h hc hk hd
  go_enter Tryz.func93, Tryz.ntmps93
  go_wp2_with fail
  rw [show ((o.steps : Int) + 1) = ((o.steps + 1 : Nat) : Int) from by omega]
  refine (HC.out _ H1.out (hm.chg CS.out (by simp; exact n1.symm) (by simp; exact n2.symm))).mono ?_
  rintro e w2 ⟨rfl, H2, M2, C2⟩
  have d8 := H2.c8
  go_wp2_with fail
  go_ret
  exact ⟨rfl, H2, M2, (CS.out.mono (S' := [g, bm, bw]) (fun g hg => .inl (by simp at hg ⊢; omega))).then C2 (fun g hg => .inl (by simp at hg ⊢; omega))⟩
set_option maxHeartbeats 1000000 in
theorem step_pop (g : Nat) (o : DOp) (w : World) (h : IsOp w g o) (hk : o.kind = 1) (hd : o.done = false) (hs : o.steps ≤ 6) (bm bw : Nat) (W : List Nat) (u : Nat) (hm : IsMem w bm bw W u) (n1 : g ≠ bm) (n2 : g ≠ bw) (o' : DOp) (W' : List Nat) (u' : Nat)
    (hc : ∀ w, IsOp w g { o with steps := o.steps + 1 } → IsMem w bm bw W u → Calls Tryz.prog 115 #[.pointer (some ⟨g, 0, none⟩), .pointer (some ⟨bm, 0, none⟩)] w fun e w' => e = .returned (.tuple #[]) ∧ IsOp w' g o' ∧ IsMem w' bm bw W' u' ∧ Chg [g, bm, bw] w w') :
    Calls Tryz.prog 93 #[.pointer (some ⟨g, 0, none⟩), .pointer (some ⟨bm, 0, none⟩)] w fun e w' => e = .returned (.bool o'.done) ∧ IsOp w' g o' ∧ IsMem w' bm bw W' u' ∧ Chg [g, bm, bw] w w' := by
  have c8 : w.cell? ⟨g, 8, none⟩ = some (.bool false) := by rw [h.c8, hd]
  have c2 : w.cell? ⟨g, 2, none⟩ = some (.int .i64 1) := by rw [h.c2, hk]; rfl
  have c3 := h.c3
  have f3 := h.frozen 3
  have HC := Lib.hid hc
  have H1 := Lib.hid (h.s3 (o.steps + 1))
  have CS := Lib.hid ((Chg.refl [g] w).setCell (a := ⟨g, 3, none⟩) (.inl (by simp)) (.int .i64 ((o.steps + 1 : Nat) : Int)))
  clear h hc hk hd
  go_enter Tryz.func93, Tryz.ntmps93
  go_wp2_with fail
  rw [show ((o.steps : Int) + 1) = ((o.steps + 1 : Nat) : Int) from by omega]
  refine (HC.out _ H1.out (hm.chg CS.out (by simp; exact n1.symm) (by simp; exact n2.symm))).mono ?_
  rintro e w2 ⟨rfl, H2, M2, C2⟩
  have d8 := H2.c8
  go_wp2_with fail
  go_ret
  exact ⟨rfl, H2, M2, (CS.out.mono (S' := [g, bm, bw]) (fun g hg => .inl (by simp at hg ⊢; omega))).then C2 (fun g hg => .inl (by simp at hg ⊢; omega))⟩
set_option maxHeartbeats 1000000 in
theorem step_steal (g : Nat) (o : DOp) (w : World) (h : IsOp w g o) (hk : o.kind = 2) (hd : o.done = false) (hs : o.steps ≤ 6) (bm bw : Nat) (W : List Nat) (u : Nat) (hm : IsMem w bm bw W u) (n1 : g ≠ bm) (n2 : g ≠ bw) (o' : DOp) (W' : List Nat) (u' : Nat)
    (hc : ∀ w, IsOp w g { o with steps := o.steps + 1 } → IsMem w bm bw W u → Calls Tryz.prog 116 #[.pointer (some ⟨g, 0, none⟩), .pointer (some ⟨bm, 0, none⟩)] w fun e w' => e = .returned (.tuple #[]) ∧ IsOp w' g o' ∧ IsMem w' bm bw W' u' ∧ Chg [g, bm, bw] w w') :
    Calls Tryz.prog 93 #[.pointer (some ⟨g, 0, none⟩), .pointer (some ⟨bm, 0, none⟩)] w fun e w' => e = .returned (.bool o'.done) ∧ IsOp w' g o' ∧ IsMem w' bm bw W' u' ∧ Chg [g, bm, bw] w w' := by
  have c8 : w.cell? ⟨g, 8, none⟩ = some (.bool false) := by rw [h.c8, hd]
  have c2 : w.cell? ⟨g, 2, none⟩ = some (.int .i64 2) := by rw [h.c2, hk]; rfl
  have c3 := h.c3
  have f3 := h.frozen 3
  have HC := Lib.hid hc
  have H1 := Lib.hid (h.s3 (o.steps + 1))
  have CS := Lib.hid ((Chg.refl [g] w).setCell (a := ⟨g, 3, none⟩) (.inl (by simp)) (.int .i64 ((o.steps + 1 : Nat) : Int)))
  clear h hc hk hd
  go_enter Tryz.func93, Tryz.ntmps93
  go_wp2_with fail
  rw [show ((o.steps : Int) + 1) = ((o.steps + 1 : Nat) : Int) from by omega]
  refine (HC.out _ H1.out (hm.chg CS.out (by simp; exact n1.symm) (by simp; exact n2.symm))).mono ?_
  rintro e w2 ⟨rfl, H2, M2, C2⟩
  have d8 := H2.c8
  go_wp2_with fail
  go_ret
  exact ⟨rfl, H2, M2, (CS.out.mono (S' := [g, bm, bw]) (fun g hg => .inl (by simp at hg ⊢; omega))).then C2 (fun g hg => .inl (by simp at hg ⊢; omega))⟩
/-- What a step leaves. -/
def Stepped (w w' : World) (g bm bw : Nat) (o : DOp) (W : List Nat) (u : Nat) (e : Ending) : Prop :=
  e = .returned (.bool (stepD o W u).1.done) ∧ IsOp w' g (stepD o W u).1 ∧ IsMem w' bm bw (stepD o W u).2.1 (stepD o W u).2.2 ∧ Chg [g, bm, bw] w w'
theorem step_any (g : Nat) (o : DOp) (w : World) (h : IsOp w g o) (ok : OkOp o) (bm bw : Nat) (W : List Nat) (u : Nat) (hm : IsMem w bm bw W u) (n1 : g ≠ bm) (n2 : g ≠ bw) :
    Calls Tryz.prog 93 #[.pointer (some ⟨g, 0, none⟩), .pointer (some ⟨bm, 0, none⟩)] w fun e w' => Stepped w w' g bm bw o W u e := by
  cases hd : o.done with
  | true =>
    refine (step_done g o w h hd bm).mono fun e w' ⟨he, hw⟩ => ?_
    subst hw
    have e1 : stepD o W u = (o, W, u) := by unfold stepD; rw [if_pos hd]
    unfold Stepped
    rw [e1]
    exact ⟨by rw [he, hd], h, hm, Chg.refl _ _⟩
  | false =>
    have hk := ok.kind
    have hst := ok.steps hd
    have hs6 := ok.s
    obtain ⟨b0, b1, hc, hb, ht, hx⟩ := And.intro ok.b0 (And.intro ok.b1 (And.intro ok.cap (And.intro ok.b (And.intro ok.t ok.x))))
    have herr := ok.err hd
    clear ok
    obtain ⟨base, cap, kind, steps, b, t, x, won, done, err⟩ := o
    simp only at hk hst hs6 b0 b1 hc hb ht hx herr hd
    subst hd herr
    rcases (show kind = 0 ∨ kind = 1 ∨ kind = 2 by omega) with rfl | rfl | rfl
    · simp only [show ¬ (0 = 1) from by omega, if_false] at hst
      rcases (show steps = 0 ∨ steps = 1 ∨ steps = 2 ∨ steps = 3 by omega) with rfl | rfl | rfl | rfl
      · exact step_push g _ w h rfl rfl (by omega) bm bw W u hm n1 n2 _ _ _ (fun w h hm => push1_any g _ w h rfl b0 b1 bm bw W u hm n1 n2)
      · exact step_push g _ w h rfl rfl (by omega) bm bw W u hm n1 n2 _ _ _ (fun w h hm => push2_any g _ w h rfl b0 b1 hb bm bw W u hm n1 n2)
      · exact step_push g _ w h rfl rfl (by omega) bm bw W u hm n1 n2 _ _ _ (fun w h hm => push3_any g _ w h rfl b0 b1 hc hb hx bm bw W u hm n1 n2)
      · exact step_push g _ w h rfl rfl (by omega) bm bw W u hm n1 n2 _ _ _ (fun w h hm => push4_any g _ w h rfl b0 b1 bm bw W u hm n1 n2)
    · simp only [if_true] at hst
      rcases (show steps = 0 ∨ steps = 1 ∨ steps = 2 ∨ steps = 3 ∨ steps = 4 ∨ steps = 5 by omega) with rfl | rfl | rfl | rfl | rfl | rfl
      · exact step_pop g _ w h rfl rfl (by omega) bm bw W u hm n1 n2 _ _ _ (fun w h hm => pop1_any g _ w h rfl b0 b1 bm bw W u hm n1 n2)
      · exact step_pop g _ w h rfl rfl (by omega) bm bw W u hm n1 n2 _ _ _ (fun w h hm => pop2_any g _ w h rfl b0 b1 hb bm bw W u hm n1 n2)
      · exact step_pop g _ w h rfl rfl (by omega) bm bw W u hm n1 n2 _ _ _ (fun w h hm => pop3_any g _ w h rfl b0 b1 bm bw W u hm n1 n2)
      · by_cases hf : 0 < ahd t b
        · have e1 : stepD ⟨base, cap, 1, 3, b, t, x, won, false, 0⟩ W u = (⟨base, cap, 1, 4, b, t, x, won, true, 7⟩, setA W (base + 1) t, tick W (base + 1) u) := by
            show (if 0 < ahd t b then _ else _) = _
            rw [if_pos hf]
          unfold Stepped
          rw [e1]
          exact step_pop g _ w h rfl rfl (by omega) bm bw W u hm n1 n2 _ _ _ (fun w h hm => pop4_empty g _ w h rfl b0 b1 hb ht hf bm bw W u hm n1 n2)
        · have e1 : stepD ⟨base, cap, 1, 3, b, t, x, won, false, 0⟩ W u = (if 0 < ahd b t then ⟨base, cap, 1, 4, b, t, getA W (plc base cap b), won, true, 0⟩ else ⟨base, cap, 1, 4, b, t, getA W (plc base cap b), won, false, 0⟩, W, tick W (plc base cap b) u) := by
            show (if 0 < ahd t b then _ else _) = _
            rw [if_neg hf]
          unfold Stepped
          rw [e1]
          exact step_pop g _ w h rfl rfl (by omega) bm bw W u hm n1 n2 _ _ _ (fun w h hm => pop4_full g _ w h rfl b0 b1 hc hb ht hf bm bw W u hm n1 n2)
      · exact step_pop g _ w h rfl rfl (by omega) bm bw W u hm n1 n2 _ _ _ (fun w h hm => pop5_any g _ w h rfl b0 b1 bm bw W u hm n1 n2)
      · exact step_pop g _ w h rfl rfl (by omega) bm bw W u hm n1 n2 _ _ _ (fun w h hm => pop6_any g _ w h rfl b0 b1 bm bw W u hm n1 n2)
    · simp only [show ¬ (2 = 1) from by omega, if_false] at hst
      rcases (show steps = 0 ∨ steps = 1 ∨ steps = 2 ∨ steps = 3 by omega) with rfl | rfl | rfl | rfl
      · exact step_steal g _ w h rfl rfl (by omega) bm bw W u hm n1 n2 _ _ _ (fun w h hm => steal1_any g _ w h rfl b0 b1 bm bw W u hm n1 n2)
      · exact step_steal g _ w h rfl rfl (by omega) bm bw W u hm n1 n2 _ _ _ (fun w h hm => steal2_any g _ w h rfl b0 b1 ht bm bw W u hm n1 n2)
      · exact step_steal g _ w h rfl rfl (by omega) bm bw W u hm n1 n2 _ _ _ (fun w h hm => steal3_any g _ w h rfl b0 b1 hc ht bm bw W u hm n1 n2)
      · exact step_steal g _ w h rfl rfl (by omega) bm bw W u hm n1 n2 _ _ _ (fun w h hm => steal4_any g _ w h rfl b0 b1 bm bw W u hm n1 n2)
end Go.Proofs.YtjdbgohfedjifaaGreatDoor
