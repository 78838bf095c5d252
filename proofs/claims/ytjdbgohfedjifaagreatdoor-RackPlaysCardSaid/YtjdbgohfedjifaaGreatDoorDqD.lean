/- deque: a step of the reference. Turned from XDq5. -/
import Derived.Test.YtjdbgohfedjifaaGreatDoorDqR
import Derived.Test.YtjdbgohfedjifaaGreatDoorDqC
import Derived.Test.YtjdbgohfedjifaaGreatDoorDqA
import Derived.Deep.DeepCutAuto
namespace Go.Proofs.YtjdbgohfedjifaaGreatDoor
open Go.RowKit Bosun
theorem rstep_done (g : Nat) (o : DOp) (w : World) (h : IsROp w g o) (hd : o.done = true) (bm : Nat) :
    Calls Tryz.prog 66 #[.pointer (some ⟨g, 0, none⟩), .pointer (some ⟨bm, 0, none⟩)] w fun e w' => e = .returned (.bool true) ∧ w = w' := by
  have c8 : w.cell? ⟨g, 8, none⟩ = some (.bool true) := by rw [h.c8, hd]
  clear h hd
  go_enter Tryz.func66, Tryz.ntmps66
  go_wp2_with fail
  go_ret
  exact ⟨rfl, rfl⟩
set_option maxHeartbeats 1000000 in
theorem rstep_push (g : Nat) (o : DOp) (w : World) (h : IsROp w g o) (hk : o.kind = 0) (hd : o.done = false) (hs : o.steps ≤ 6) (bm bw : Nat) (W : List Nat) (u : Nat) (hm : IsRef w bm bw W u) (n1 : g ≠ bm) (n2 : g ≠ bw) (o' : DOp) (W' : List Nat) (u' : Nat)
    (hc : ∀ w, IsROp w g { o with steps := o.steps + 1 } → IsRef w bm bw W u → Calls Tryz.prog 100 #[.pointer (some ⟨g, 0, none⟩), .pointer (some ⟨bm, 0, none⟩)] w fun e w' => e = .returned (.tuple #[]) ∧ IsROp w' g o' ∧ IsRef w' bm bw W' u' ∧ Chg [g, bm, bw] w w') :
    Calls Tryz.prog 66 #[.pointer (some ⟨g, 0, none⟩), .pointer (some ⟨bm, 0, none⟩)] w fun e w' => e = .returned (.bool o'.done) ∧ IsROp w' g o' ∧ IsRef w' bm bw W' u' ∧ Chg [g, bm, bw] w w' := by
  have c8 : w.cell? ⟨g, 8, none⟩ = some (.bool false) := by rw [h.c8, hd]
  have c2 : w.cell? ⟨g, 2, none⟩ = some (.int .i64 0) := by rw [h.c2, hk]; rfl
  have c3 := h.c3
  have f3 := h.frozen 3
  have HC := Lib.hid hc
  have H1 := Lib.hid (h.s3 (o.steps + 1))
  have CS := Lib.hid ((Chg.refl [g] w).setCell (a := ⟨g, 3, none⟩) (.inl (by simp)) (.int .i64 ((o.steps + 1 : Nat) : Int)))
  clear h hc hk hd
  go_enter Tryz.func66, Tryz.ntmps66
  go_wp2_with fail
  rw [show ((o.steps : Int) + 1) = ((o.steps + 1 : Nat) : Int) from by omega]
  refine (HC.out _ H1.out (hm.chg CS.out (by simp; exact n1.symm) (by simp; exact n2.symm))).mono ?_
  rintro e w2 ⟨rfl, H2, M2, C2⟩
  have d8 := H2.c8
  go_wp2_with fail
  go_ret
  exact ⟨rfl, H2, M2, (CS.out.mono (S' := [g, bm, bw]) (fun g hg => .inl (by simp at hg ⊢; omega))).then C2 (fun g hg => .inl (by simp at hg ⊢; omega))⟩
set_option maxHeartbeats 1000000 in
theorem rstep_pop (g : Nat) (o : DOp) (w : World) (h : IsROp w g o) (hk : o.kind = 1) (hd : o.done = false) (hs : o.steps ≤ 6) (bm bw : Nat) (W : List Nat) (u : Nat) (hm : IsRef w bm bw W u) (n1 : g ≠ bm) (n2 : g ≠ bw) (o' : DOp) (W' : List Nat) (u' : Nat)
    (hc : ∀ w, IsROp w g { o with steps := o.steps + 1 } → IsRef w bm bw W u → Calls Tryz.prog 101 #[.pointer (some ⟨g, 0, none⟩), .pointer (some ⟨bm, 0, none⟩)] w fun e w' => e = .returned (.tuple #[]) ∧ IsROp w' g o' ∧ IsRef w' bm bw W' u' ∧ Chg [g, bm, bw] w w') :
    Calls Tryz.prog 66 #[.pointer (some ⟨g, 0, none⟩), .pointer (some ⟨bm, 0, none⟩)] w fun e w' => e = .returned (.bool o'.done) ∧ IsROp w' g o' ∧ IsRef w' bm bw W' u' ∧ Chg [g, bm, bw] w w' := by
  have c8 : w.cell? ⟨g, 8, none⟩ = some (.bool false) := by rw [h.c8, hd]
  have c2 : w.cell? ⟨g, 2, none⟩ = some (.int .i64 1) := by rw [h.c2, hk]; rfl
  have c3 := h.c3
  have f3 := h.frozen 3
  have HC := Lib.hid hc
  have H1 := Lib.hid (h.s3 (o.steps + 1))
  have CS := Lib.hid ((Chg.refl [g] w).setCell (a := ⟨g, 3, none⟩) (.inl (by simp)) (.int .i64 ((o.steps + 1 : Nat) : Int)))
  clear h hc hk hd
  go_enter Tryz.func66, Tryz.ntmps66
  go_wp2_with fail
  rw [show ((o.steps : Int) + 1) = ((o.steps + 1 : Nat) : Int) from by omega]
  refine (HC.out _ H1.out (hm.chg CS.out (by simp; exact n1.symm) (by simp; exact n2.symm))).mono ?_
  rintro e w2 ⟨rfl, H2, M2, C2⟩
  have d8 := H2.c8
  go_wp2_with fail
  go_ret
  exact ⟨rfl, H2, M2, (CS.out.mono (S' := [g, bm, bw]) (fun g hg => .inl (by simp at hg ⊢; omega))).then C2 (fun g hg => .inl (by simp at hg ⊢; omega))⟩
set_option maxHeartbeats 1000000 in
theorem rstep_steal (g : Nat) (o : DOp) (w : World) (h : IsROp w g o) (hk : o.kind = 2) (hd : o.done = false) (hs : o.steps ≤ 6) (bm bw : Nat) (W : List Nat) (u : Nat) (hm : IsRef w bm bw W u) (n1 : g ≠ bm) (n2 : g ≠ bw) (o' : DOp) (W' : List Nat) (u' : Nat)
    (hc : ∀ w, IsROp w g { o with steps := o.steps + 1 } → IsRef w bm bw W u → Calls Tryz.prog 102 #[.pointer (some ⟨g, 0, none⟩), .pointer (some ⟨bm, 0, none⟩)] w fun e w' => e = .returned (.tuple #[]) ∧ IsROp w' g o' ∧ IsRef w' bm bw W' u' ∧ Chg [g, bm, bw] w w') :
    Calls Tryz.prog 66 #[.pointer (some ⟨g, 0, none⟩), .pointer (some ⟨bm, 0, none⟩)] w fun e w' => e = .returned (.bool o'.done) ∧ IsROp w' g o' ∧ IsRef w' bm bw W' u' ∧ Chg [g, bm, bw] w w' := by
  have c8 : w.cell? ⟨g, 8, none⟩ = some (.bool false) := by rw [h.c8, hd]
  have c2 : w.cell? ⟨g, 2, none⟩ = some (.int .i64 2) := by rw [h.c2, hk]; rfl
  have c3 := h.c3
  have f3 := h.frozen 3
  have HC := Lib.hid hc
  have H1 := Lib.hid (h.s3 (o.steps + 1))
  have CS := Lib.hid ((Chg.refl [g] w).setCell (a := ⟨g, 3, none⟩) (.inl (by simp)) (.int .i64 ((o.steps + 1 : Nat) : Int)))
  clear h hc hk hd
  go_enter Tryz.func66, Tryz.ntmps66
  go_wp2_with fail
  rw [show ((o.steps : Int) + 1) = ((o.steps + 1 : Nat) : Int) from by omega]
  refine (HC.out _ H1.out (hm.chg CS.out (by simp; exact n1.symm) (by simp; exact n2.symm))).mono ?_
  rintro e w2 ⟨rfl, H2, M2, C2⟩
  have d8 := H2.c8
  go_wp2_with fail
  go_ret
  exact ⟨rfl, H2, M2, (CS.out.mono (S' := [g, bm, bw]) (fun g hg => .inl (by simp at hg ⊢; omega))).then C2 (fun g hg => .inl (by simp at hg ⊢; omega))⟩
/-- What a step leaves. -/
def RStepped (w w' : World) (g bm bw : Nat) (o : DOp) (W : List Nat) (u : Nat) (e : Ending) : Prop :=
  e = .returned (.bool (stepD o W u).1.done) ∧ IsROp w' g (stepD o W u).1 ∧ IsRef w' bm bw (stepD o W u).2.1 (stepD o W u).2.2 ∧ Chg [g, bm, bw] w w'
theorem rstep_any (g : Nat) (o : DOp) (w : World) (h : IsROp w g o) (ok : OkOp o) (bm bw : Nat) (W : List Nat) (u : Nat) (hm : IsRef w bm bw W u) (n1 : g ≠ bm) (n2 : g ≠ bw) :
    Calls Tryz.prog 66 #[.pointer (some ⟨g, 0, none⟩), .pointer (some ⟨bm, 0, none⟩)] w fun e w' => RStepped w w' g bm bw o W u e := by
  cases hd : o.done with
  | true =>
    refine (rstep_done g o w h hd bm).mono fun e w' ⟨he, hw⟩ => ?_
    subst hw
    have e1 : stepD o W u = (o, W, u) := by unfold stepD; rw [if_pos hd]
    unfold RStepped
    rw [e1]
    exact ⟨by rw [he, hd], h, hm, Chg.refl _ _⟩
  | false =>
    have hk := ok.kind
    have hst := ok.steps hd
    have hs6 := ok.s
    obtain ⟨b0, b1, hc, hb, ht, hx⟩ := And.intro ok.b0 (And.intro ok.b1 (And.intro ok.cap (And.intro ok.b (And.intro ok.t ok.x))))
    have herr := ok.err hd
    clear ok
    obtain ⟨base, cap, kind, steps, b, t, x, won, done, err⟩ := o
    simp only at hk hst hs6 b0 b1 hc hb ht hx herr hd
    subst hd herr
    rcases (show kind = 0 ∨ kind = 1 ∨ kind = 2 by omega) with rfl | rfl | rfl
    · simp only [show ¬ (0 = 1) from by omega, if_false] at hst
      rcases (show steps = 0 ∨ steps = 1 ∨ steps = 2 ∨ steps = 3 by omega) with rfl | rfl | rfl | rfl
      · exact rstep_push g _ w h rfl rfl (by omega) bm bw W u hm n1 n2 _ _ _ (fun w h hm => rpush1_any g _ w h rfl b0 b1 bm bw W u hm n1 n2)
      · exact rstep_push g _ w h rfl rfl (by omega) bm bw W u hm n1 n2 _ _ _ (fun w h hm => rpush2_any g _ w h rfl b0 b1 hb bm bw W u hm n1 n2)
      · exact rstep_push g _ w h rfl rfl (by omega) bm bw W u hm n1 n2 _ _ _ (fun w h hm => rpush3_any g _ w h rfl b0 b1 hc hb hx bm bw W u hm n1 n2)
      · exact rstep_push g _ w h rfl rfl (by omega) bm bw W u hm n1 n2 _ _ _ (fun w h hm => rpush4_any g _ w h rfl b0 b1 bm bw W u hm n1 n2)
    · simp only [if_true] at hst
      rcases (show steps = 0 ∨ steps = 1 ∨ steps = 2 ∨ steps = 3 ∨ steps = 4 ∨ steps = 5 by omega) with rfl | rfl | rfl | rfl | rfl | rfl
      · exact rstep_pop g _ w h rfl rfl (by omega) bm bw W u hm n1 n2 _ _ _ (fun w h hm => rpop1_any g _ w h rfl b0 b1 bm bw W u hm n1 n2)
      · exact rstep_pop g _ w h rfl rfl (by omega) bm bw W u hm n1 n2 _ _ _ (fun w h hm => rpop2_any g _ w h rfl b0 b1 hb bm bw W u hm n1 n2)
      · exact rstep_pop g _ w h rfl rfl (by omega) bm bw W u hm n1 n2 _ _ _ (fun w h hm => rpop3_any g _ w h rfl b0 b1 bm bw W u hm n1 n2)
      · by_cases hf : 0 < ahd t b
        · have e1 : stepD ⟨base, cap, 1, 3, b, t, x, won, false, 0⟩ W u = (⟨base, cap, 1, 4, b, t, x, won, true, 7⟩, setA W (base + 1) t, tick W (base + 1) u) := by
            show (if 0 < ahd t b then _ else _) = _
            rw [if_pos hf]
          unfold RStepped
          rw [e1]
          exact rstep_pop g _ w h rfl rfl (by omega) bm bw W u hm n1 n2 _ _ _ (fun w h hm => rpop4_empty g _ w h rfl b0 b1 hb ht hf bm bw W u hm n1 n2)
        · have e1 : stepD ⟨base, cap, 1, 3, b, t, x, won, false, 0⟩ W u = (if 0 < ahd b t then ⟨base, cap, 1, 4, b, t, getA W (plc base cap b), won, true, 0⟩ else ⟨base, cap, 1, 4, b, t, getA W (plc base cap b), won, false, 0⟩, W, tick W (plc base cap b) u) := by
            show (if 0 < ahd t b then _ else _) = _
            rw [if_neg hf]
          unfold RStepped
          rw [e1]
          exact rstep_pop g _ w h rfl rfl (by omega) bm bw W u hm n1 n2 _ _ _ (fun w h hm => rpop4_full g _ w h rfl b0 b1 hc hb ht hf bm bw W u hm n1 n2)
      · exact rstep_pop g _ w h rfl rfl (by omega) bm bw W u hm n1 n2 _ _ _ (fun w h hm => rpop5_any g _ w h rfl b0 b1 bm bw W u hm n1 n2)
      · exact rstep_pop g _ w h rfl rfl (by omega) bm bw W u hm n1 n2 _ _ _ (fun w h hm => rpop6_any g _ w h rfl b0 b1 bm bw W u hm n1 n2)
    · simp only [show ¬ (2 = 1) from by omega, if_false] at hst
      rcases (show steps = 0 ∨ steps = 1 ∨ steps = 2 ∨ steps = 3 by omega) with rfl | rfl | rfl | rfl
      · exact rstep_steal g _ w h rfl rfl (by omega) bm bw W u hm n1 n2 _ _ _ (fun w h hm => rsteal1_any g _ w h rfl b0 b1 bm bw W u hm n1 n2)
      · exact rstep_steal g _ w h rfl rfl (by omega) bm bw W u hm n1 n2 _ _ _ (fun w h hm => rsteal2_any g _ w h rfl b0 b1 ht bm bw W u hm n1 n2)
      · exact rstep_steal g _ w h rfl rfl (by omega) bm bw W u hm n1 n2 _ _ _ (fun w h hm => rsteal3_any g _ w h rfl b0 b1 hc ht bm bw W u hm n1 n2)
      · exact rstep_steal g _ w h rfl rfl (by omega) bm bw W u hm n1 n2 _ _ _ (fun w h hm => rsteal4_any g _ w h rfl b0 b1 bm bw W u hm n1 n2)
end Go.Proofs.YtjdbgohfedjifaaGreatDoor

/- rack, the document's: its deque's Hold, All, Claimed, its Words. Printed by gen_t.py. -/
namespace Bosun
open Go
theorem hold_end : ∀ n, n < 257 → ∀ j, j < 9 → 2 ^ j ≤ n → n < 2 ^ (j + 1) → Nat.log2 n = j := fun n _ j _ h1 h2 => by
  have hn : n ≠ 0 := by
    have := Nat.two_pow_pos j; omega
  exact (Nat.log2_eq_iff hn).2 ⟨h1, h2⟩
end Bosun
namespace Go.Proofs.YtjdbgohfedjifaaGreatDoor
open Go.RowKit Bosun
theorem rword_any (bm bw : Nat) (W : List Nat) (u : Nat) (w : World) (h : IsRef w bm bw W u) (a : Int) :
    Calls Tryz.prog 80 #[.pointer (some ⟨bm, 0, none⟩), .int .i64 a] w fun e w' => e = .returned (.int .u64 (getA W a : Nat)) ∧ w = w' := by
  by_cases hh : hasA W a = true
  · obtain ⟨h0, h1⟩ := hasA_iff.1 hh
    obtain ⟨k, rfl⟩ := Int.eq_ofNat_of_zero_le h0
    have hk : k < W.length := by omega
    have HH := Lib.hid hh
    have HG := Lib.hid (getA_yes hk)
    have c0 := h.c0
    have ck := h.cw hk
    obtain ⟨x, hx⟩ : ∃ x, x = W[k] := ⟨_, rfl⟩
    rw [← hx] at ck HG
    have hlen := h.len
    clear hh hx
    go_enter Tryz.func80, Tryz.ntmps80
    go_wp2_with (go_at_call 104; refine (rhas_any bm bw W u _ h _).mono ?_; rw [HH.out]; rintro e w1 ⟨rfl, rfl⟩)
    go_ret
    exact ⟨by rw [HG.out]; rfl, rfl⟩
  · have hf : hasA W a = false := by simpa using hh
    have HF := Lib.hid hf
    have HG := Lib.hid (getA_no hf)
    clear hh hf
    go_enter Tryz.func80, Tryz.ntmps80
    go_wp2_with (go_at_call 104; refine (rhas_any bm bw W u _ h _).mono ?_; rw [HF.out]; rintro e w1 ⟨rfl, rfl⟩)
    go_ret
    exact ⟨by rw [HG.out]; rfl, rfl⟩
set_option maxHeartbeats 4000000 in
theorem rclaimed_any (g : Nat) (o : DOp) (w : World) (h : IsROp w g o) (_hk : o.kind ≤ 2) (hs6 : o.steps ≤ 6) (h0 : -100 ≤ o.base) (h1 : o.base ≤ 1000000) (hc : Pow2 o.cap) (hb : o.b < 18446744073709551616) (bm bw : Nat) (W : List Nat) (u : Nat) (hm : IsRef w bm bw W u) :
    Calls Tryz.prog 65 #[.pointer (some ⟨g, 0, none⟩), .pointer (some ⟨bm, 0, none⟩)] w fun e w' => e = .returned (.tuple #[.int .u64 ((clmD o W).1 : Nat), .bool (clmD o W).2]) ∧ Chg [] w w' := by
  have c0 := h.c0
  have c1 := h.c1
  have c2 := h.c2
  have c3 := h.c3
  have c4 := h.c4
  have c6 := h.c6
  have c7 := h.c7
  have c8 := h.c8
  have HH := Lib.hid h
  have HM := Lib.hid hm
  have s1 := hm.small.getA o.base
  have hpl : -9223372036854775808 ≤ plc o.base o.cap o.b ∧ plc o.base o.cap o.b ≤ 9223372036854775807 := by
    have := hc.le
    unfold plc
    have : o.b % o.cap < o.cap := Nat.mod_lt _ (by omega)
    omega
  have wb : IntKind.i64.wrap o.base = o.base := by rw [IntKind.wrap_i64]; omega
  unfold clmD
  by_cases a1 : o.kind = 1
  · rw [a1] at c2
    by_cases a2 : o.done = true
    · rw [if_pos (.inr (.inl a2))]
      rw [a2] at c8
      clear h hm a1 a2
      go_enter Tryz.func65, Tryz.ntmps65
      go_wp2_with fail
      go_ret2
      exact ⟨rfl, Chg.refl _ _⟩
    · have a2' : o.done = false := by simpa using a2
      rw [a2'] at c8
      by_cases a3 : o.steps < 2
      · rw [if_pos (.inr (.inr a3))]
        have d3 : decide ((o.steps : Int) < 2) = true := decide_eq_true (by omega)
        clear h hm a1 a2 a2'
        go_enter Tryz.func65, Tryz.ntmps65
        go_wp2_with fail
        go_ret2
        exact ⟨rfl, Chg.refl _ _⟩
      · rw [if_neg (by rintro (x | x | x); exact x a1; exact a2 x; exact a3 x)]
        have d3 : decide ((o.steps : Int) < 2) = false := decide_eq_false (by omega)
        by_cases a4 : 5 ≤ o.steps
        · rw [if_pos a4]
          have d4 : decide ((5 : Int) ≤ (o.steps : Int)) = true := decide_eq_true (by omega)
          by_cases a5 : o.won = true
          · rw [if_pos a5]
            rw [a5] at c7
            clear h hm a1 a2 a2' a3 a4 a5
            go_enter Tryz.func65, Tryz.ntmps65
            go_wp2_with fail
            go_ret2
            exact ⟨rfl, Chg.refl _ _⟩
          · rw [if_neg a5]
            rw [show o.won = false by simpa using a5] at c7
            clear h hm a1 a2 a2' a3 a4 a5
            go_enter Tryz.func65, Tryz.ntmps65
            go_wp2_with fail
            go_ret2
            exact ⟨rfl, Chg.refl _ _⟩
        · rw [if_neg a4]
          have d4 : decide ((5 : Int) ≤ (o.steps : Int)) = false := decide_eq_false (by omega)
          have HA := Lib.hid (fun w => rahead_any (getA W o.base) o.b s1 hb w)
          have HP := Lib.hid (fun w => rplace_any o.base h0 h1 o.cap hc o.b hb w)
          have HW := Lib.hid (fun w' (C : Chg [] w w') a => rword_any bm bw W u w' (HM.out.keep C) a)
          obtain ⟨t, ht⟩ : ∃ t, t = getA W o.base := ⟨_, rfl⟩
          have HW1 := Lib.hid (fun w' C => HW.out w' C o.base)
          rw [← ht] at HA HW1 ⊢
          obtain ⟨v, hv⟩ : ∃ v, v = ahd t o.b := ⟨_, rfl⟩
          rw [← hv] at HA ⊢
          have lg := h.lt
          by_cases hf : 0 < v
          · rw [if_pos hf]
            clear h hm a1 a2 a2' a3 a4 hv ht
            go_enter Tryz.func65, Tryz.ntmps65
            go_wp2_with fail
            go_region_held3 (fun w' => w'.cell? ⟨g, 0, none⟩ = some (.int .i64 o.base) ∧ w'.cell? ⟨g, 4, none⟩ = some (.int .u64 (o.b : Nat))) (first | assumption | exact ⟨c0, c4⟩)
              (first
                | (go_at_call 80; refine (HW1.out _ (Chg.refl _ _).drew).mono ?_; rintro e w2 ⟨rfl, rfl⟩)
                | (go_at_call 81; refine (HA.out _).mono ?_; rintro e w2 ⟨rfl, rfl⟩))
            go_wp2_with fail
            go_ret2
            exact ⟨rfl, (Chg.refl _ _).drew⟩
          · rw [if_neg hf]
            have hd : decide (0 < v) = false := by simpa using hf
            obtain ⟨q, hq⟩ : ∃ q, q = plc o.base o.cap o.b := ⟨_, rfl⟩
            have HW2 := Lib.hid (fun w' C => HW.out w' C q)
            rw [← hq] at HP ⊢
            obtain ⟨x, hx⟩ : ∃ x, x = getA W q := ⟨_, rfl⟩
            rw [← hx] at HW2 ⊢
            clear h hm a1 a2 a2' a3 a4 hv ht hf hq hx hpl hc hb
            go_enter Tryz.func65, Tryz.ntmps65
            go_wp2_with fail
            go_region_held3 (fun w' => w'.cell? ⟨g, 0, none⟩ = some (.int .i64 o.base) ∧ w'.cell? ⟨g, 4, none⟩ = some (.int .u64 (o.b : Nat))) (first | assumption | exact ⟨c0, c4⟩)
              (first
                | (go_at_call 80; refine (HW1.out _ (Chg.refl _ _).drew).mono ?_; rintro e w2 ⟨rfl, rfl⟩)
                | (go_at_call 81; refine (HA.out _).mono ?_; rintro e w2 ⟨rfl, rfl⟩))
            go_wp2_with fail
            go_region_held3 (fun w' => w'.cell? ⟨g, 0, none⟩ = some (.int .i64 o.base) ∧ w'.cell? ⟨g, 1, none⟩ = some (.int .i64 (o.cap : Nat)) ∧ w'.cell? ⟨g, 4, none⟩ = some (.int .u64 (o.b : Nat))) (first | assumption | exact ⟨c0, c1, c4⟩)
              (first
                | (go_at_call 82; refine (HP.out _).mono ?_; rintro e w2 ⟨rfl, C2⟩; have H2 := HH.out.chg C2.undrew.undrew (by simp); have k2 := And.intro H2.c0 (And.intro H2.c1 H2.c4))
                | (go_at_call 80; refine (HW2.out _ C2.undrew.undrew).mono ?_; rintro e w2 ⟨rfl, rfl⟩))
            go_wp2_with fail
            go_ret2
            exact ⟨rfl, C2.undrew.undrew⟩
  · rw [if_pos (.inl a1)]
    have d2 : ((o.kind : Int) == 1) = false := beq_eq_false_iff_ne.2 (by omega)
    have d2' : ((o.kind : Int) != 1) = true := by simp [bne, d2]
    clear h hm a1
    go_enter Tryz.func65, Tryz.ntmps65
    go_wp2_with fail
    go_ret2
    exact ⟨rfl, Chg.refl _ _⟩
set_option maxRecDepth 100000 in
set_option maxHeartbeats 1000000 in
theorem rhold_any (c : Int) (_h0 : -9223372036854775808 ≤ c) (_h1 : c ≤ 9223372036854775807) (w : World) :
    Calls Tryz.prog 24 #[.int .i64 c] w fun e w' => e = .returned (.int .i64 (holdN c : Nat)) ∧ w = w' := by
  have hr := clampN_range c
  have HE := Lib.hid (fun j (hj : j < 9) h1 h2 => hold_end (clampN c) (by omega) j hj h1 h2)
  have HN := Lib.hid (show holdN c = 2 ^ Nat.log2 (clampN c) from rfl)
  obtain ⟨r, hre⟩ : ∃ r, r = holdN c := ⟨_, rfl⟩
  rw [← hre] at HN ⊢
  have HCL := Lib.hid (show (clampN c : Int) = min (max c 1) 256 by unfold clampN; omega)
  obtain ⟨n, hn⟩ : ∃ n, n = clampN c := ⟨_, rfl⟩
  rw [← hn] at HE HN HCL hr
  clear hre hn
  go_enter Tryz.func24, Tryz.ntmps24
  go_wp2_with fail
  go_loopw [3] (fun x wr => ∃ p : Nat, x = .int .i64 (p : Nat) ∧ 1 ≤ p ∧ p ≤ 256 ∧ Hid (∃ j, j < 9 ∧ p = 2 ^ j ∧ p ≤ n) ∧ w = wr)
    (fun x _ => 256 - (intOf x).toNat)
  case atStart => exact ⟨1, rfl, by omega, by omega, Lib.hid ⟨0, by omega, rfl, hr.1⟩, rfl⟩
  case round =>
    obtain ⟨p, rfl, hp1, hp2, HJ, rfl⟩ := hrel
    have wm : IntKind.i64.wrap ((p : Int) * 2) = (p : Int) * 2 := by rw [IntKind.wrap_i64]; omega
    by_cases h256 : p < 256
    · by_cases hle : (p : Int) * 2 ≤ c
      · go_wp2_with fail
        go_roundw
        case rel =>
          refine ⟨p * 2, by go_num, by omega, ?_, Lib.hid ?_, by trivial⟩
          · obtain ⟨j, hj, hpj, hpn⟩ := HJ.out
            have hj8 : j < 8 := by
              rcases Nat.lt_or_ge j 8 with h | h
              · exact h
              · obtain rfl : j = 8 := by omega
                rw [hpj] at h256; exact absurd h256 (by decide)
            have : 2 ^ (j + 1) ≤ 2 ^ 8 := Nat.pow_le_pow_right (by decide) (by omega)
            rw [Nat.pow_succ, ← hpj] at this
            omega
          · obtain ⟨j, hj, hpj, hpn⟩ := HJ.out
            have hj8 : j < 8 := by
              rcases Nat.lt_or_ge j 8 with h | h
              · exact h
              · obtain rfl : j = 8 := by omega
                rw [hpj] at h256; exact absurd h256 (by decide)
            have h8 : 2 ^ (j + 1) ≤ 2 ^ 8 := Nat.pow_le_pow_right (by decide) (by omega)
            rw [Nat.pow_succ, ← hpj] at h8
            have hcl := HCL.out
            exact ⟨j + 1, by omega, by rw [Nat.pow_succ, ← hpj], by omega⟩
        case measure => simp [intOf] <;> omega
      · have hR := Lib.hid (show r = p by
          obtain ⟨j, hj, hpj, hpn⟩ := HJ.out
          have hcl := HCL.out
          rw [HN.out, HE.out j hj (by omega) (by rw [Nat.pow_succ, ← hpj]; omega), hpj])
        have d1 : decide ((p : Int) * 2 ≤ c) = false := decide_eq_false hle
        go_wp2_with fail
        go_ret
        exact ⟨ret_int (by rw [hR.out]), rfl⟩
    · obtain rfl : p = 256 := by omega
      have hR := Lib.hid (show r = 256 by
        obtain ⟨j, hj, hpj, hpn⟩ := HJ.out
        rw [HN.out, HE.out j hj (by omega) (by rw [Nat.pow_succ, ← hpj]; omega), hpj])
      go_wp2_with fail
      go_ret
      exact ⟨ret_int (by rw [hR.out]), rfl⟩
theorem numD_end {b n : Nat} (hn : n ≤ 256) (hb : b < 18446744073709551616) : numD b n n = b := by unfold numD; omega
theorem numD_ne {b n i : Nat} (hi : i < n) (hn : n ≤ 256) (_hb : b < 18446744073709551616) : numD b n i ≠ b := by unfold numD; omega
theorem numD_lt (b n i : Nat) : numD b n i < 18446744073709551616 := Nat.mod_lt _ (by omega)
theorem numD_succ {b n i : Nat} (_hi : i < n) (_hn : n ≤ 256) (_hb : b < 18446744073709551616) : IntKind.u64.wrap (((numD b n i : Nat) : Int) + 1) = ((numD b n (i + 1) : Nat) : Int) := by rw [IntKind.wrap_u64]; unfold numD; omega
theorem numD_top {b t n : Nat} (_hb : b < 18446744073709551616) (ht : t < 18446744073709551616) (hn : ahd b t = (n : Nat)) (h : n ≤ 256) : t = numD b n 0 := by
  unfold ahd at hn
  rw [IntKind.wrap_i64] at hn
  unfold numD
  omega
set_option maxHeartbeats 4000000 in
theorem rall_any (base : Int) (h0 : -100 ≤ base) (h1 : base ≤ 1000000) (cap : Nat) (hcap : Pow2 cap) (rm rw : Nat) (W : List Nat) (u : Nat) (w : World) (h : IsRef w rm rw W u) :
    Calls Tryz.prog 51 #[.agg #[.int .i64 base, .int .i64 (cap : Nat)], .pointer (some ⟨rm, 0, none⟩)] w fun e w' => ∃ v, e = .returned v ∧ Own w' w.heap.size 35 v (words (allD base cap W)) ∧ Chg [] w w' := by
  have hle := hcap.le
  have s1 : getA W base < 18446744073709551616 := h.small.getA _
  have s2 : getA W (base + 1) < 18446744073709551616 := h.small.getA _
  have hnl := lenD_le base cap W
  have HW := Lib.hid (fun w' (C : Chg [] w w') a => rword_any rm rw W u w' (h.keep C) a)
  have HP := Lib.hid (fun k hk w => rplace_any base h0 h1 cap hcap k hk w)
  have AT := Lib.hid (allTo_succ base cap W)
  have AA := Lib.hid (allTo_all base cap W)
  have AL := Lib.hid (allTo_len base cap W)
  have w1b : IntKind.i64.wrap (base + 1) = base + 1 := by rw [IntKind.wrap_i64]; omega
  obtain ⟨t, ht⟩ : ∃ t, t = getA W base := ⟨_, rfl⟩
  obtain ⟨b, hb⟩ : ∃ b, b = getA W (base + 1) := ⟨_, rfl⟩
  have HW0 := Lib.hid (fun w' C => HW.out w' C base)
  have HW1 := Lib.hid (fun w' C => HW.out w' C (base + 1))
  have hl : ((lenD base cap W : Nat) : Int) = min (max (ahd b t) 0) (cap : Int) := by unfold lenD; rw [← ht, ← hb]; omega
  rw [← ht] at HW0 s1
  rw [← hb] at HW1 s2 AT
  have HA := Lib.hid (fun w => rahead_any b t s2 s1 w)
  have hnt := fun n => @numD_top b t n s2 s1
  obtain ⟨a, ha⟩ : ∃ a, a = ahd b t := ⟨_, rfl⟩
  rw [← ha] at HA hl hnt
  obtain ⟨n, hn⟩ : ∃ n, n = lenD base cap W := ⟨_, rfl⟩
  rw [← hn] at hl hnl AT AA
  obtain ⟨A0, hA0⟩ : ∃ A0, A0 = allD base cap W := ⟨_, rfl⟩
  rw [← hA0] at AA ⊢
  have hn256 : n ≤ 256 := by omega
  have NE := Lib.hid (fun i (hi : i < n) => numD_ne hi hn256 s2)
  have ND := Lib.hid (numD_end hn256 s2)
  have NS := Lib.hid (fun i (hi : i < n) => numD_succ hi hn256 s2)
  clear h ht hb ha hn hA0 hcap
  by_cases ha0 : a ≤ 0
  · obtain rfl : n = 0 := by omega
    have hA : A0 = [] := AA.out.symm
    subst hA
    clear hnt hl
    go_enter Tryz.func51, Tryz.ntmps51
    go_wp2_with (first
      | (go_at_call 80; refine (HW0.out _ ((Chg.refl _ _).alloc _)).mono ?_; clear HW0; rintro e w2 ⟨rfl, rfl⟩)
      | (go_at_call 80; refine (HW1.out _ ((Chg.refl _ _).alloc _)).mono ?_; rintro e w3 ⟨rfl, rfl⟩)
      | (go_at_call 81; refine (HA.out _).mono ?_; rintro e w4 ⟨rfl, rfl⟩))
    go_ret
    exact ⟨_, rfl, Own.nil _ _ _, (Chg.refl _ _).alloc _⟩
  · have da : decide (a ≤ 0) = false := decide_eq_false ha0
    -- the first number
    have hc1 : (a ≤ (cap : Int) ∧ (n : Int) = a) ∨ ((cap : Int) < a ∧ n = cap) := by omega
    have HT : Hid ((a ≤ (cap : Int) ∧ t = numD b n 0) ∨ ((cap : Int) < a ∧ IntKind.u64.wrap ((b : Int) - (cap : Int)) = ((numD b n 0 : Nat) : Int))) := Lib.hid (by
      rcases hc1 with ⟨p1, p2⟩ | ⟨p1, p2⟩
      · exact .inl ⟨p1, hnt n p2.symm hn256⟩
      · refine .inr ⟨p1, ?_⟩
        rw [IntKind.wrap_u64, p2]; unfold numD; omega)
    have wc : IntKind.u64.wrap (cap : Int) = (cap : Int) := by rw [IntKind.wrap_u64]; omega
    have lb := numD_lt b n 0
    clear hnt hl hc1
    go_enter Tryz.func51, Tryz.ntmps51
    go_upto_region 6 with (first
      | (go_at_call 80; refine (HW0.out _ ((Chg.refl _ _).alloc _)).mono ?_; clear HW0; rintro e w2 ⟨rfl, rfl⟩)
      | (go_at_call 80; refine (HW1.out _ ((Chg.refl _ _).alloc _)).mono ?_; rintro e w3 ⟨rfl, rfl⟩)
      | (go_at_call 81; refine (HA.out _).mono ?_; rintro e w4 ⟨rfl, rfl⟩))
    have q0 : Chg [] w (w.alloc (.cells #[.int .i64 base, .int .i64 (cap : Nat)] 100)) := (Chg.refl _ _).alloc _
    have B0 : Blk (w.alloc (.cells #[.int .i64 base, .int .i64 (cap : Nat)] 100)) w.heap.size #[.int .i64 base, .int .i64 (cap : Nat)] 100 := Blk.new _ _ _
    generalize (w.alloc (.cells #[.int .i64 base, .int .i64 (cap : Nat)] 100)) = w1 at q0 B0 ⊢
    have k1 : w1.cell? ⟨w.heap.size, 1, none⟩ = some (.int .i64 (cap : Nat)) := B0.cell 1
    obtain ⟨q, hq⟩ : ∃ q, q = decide ((cap : Int) < a) := ⟨_, rfl⟩
    go_cut [28] (fun x wx => x = .bool q ∧ wx = w1.drew)
    case first =>
      have hq' := hq.symm
      clear HT hq
      go_region_held3 (fun w' => w'.cell? ⟨w.heap.size, 1, none⟩ = some (.int .i64 (cap : Nat))) (first | assumption | exact k1)
        ((go_at_call 81; refine (HA.out _).mono ?_; rintro e w4 ⟨rfl, rfl⟩))
      go_wp2_with fail
      go_meet
      exact ⟨by first | rfl | (rw [hq']), rfl⟩
    case rest =>
    obtain ⟨rfl, rfl⟩ := hcut
    go_upto_if 28 with (fail)
    go_cut [5] (fun x wx => x = .int .u64 ((numD b n 0 : Nat) : Int) ∧ Chg [] w1 wx)
    case first =>
      rcases HT.out with ⟨p1, p2⟩ | ⟨p1, p2⟩
      · obtain rfl : q = false := by rw [hq]; exact decide_eq_false (by omega)
        have HP2 := Lib.hid p2
        clear p2 HT hq
        go_wp2_with fail
        go_meet
        exact ⟨by rw [← HP2.out], (Chg.refl _ _).drew⟩
      · obtain rfl : q = true := by rw [hq]; exact decide_eq_true p1
        clear HT hq
        go_wp2_with fail
        go_meet
        exact ⟨by first | rfl | rw [p2], (Chg.refl _ _).drew⟩
    case rest =>
      obtain ⟨rfl, C2⟩ := hcut
      clear HT HA HW1 k1 hq
      have B2 := B0.chg C2 (by simp)
      have C02 := q0.trans C2
      have hsz : w.heap.size ≤ wc.heap.size := C02.size
      go_wp2_with fail
      go_loopw [7, 8] (fun v k wr => ∃ i : Nat, i ≤ n ∧ k = .int .u64 ((numD b n i : Nat) : Int) ∧ Own wr (w.heap.size + 1) 35 v (words (allTo base cap W i)) ∧ Blk wr w.heap.size #[.int .i64 base, .int .i64 (cap : Nat)] 100 ∧ Chg [] w wr)
        (fun _ x _ => (((b : Int) - intOf x) % 18446744073709551616).toNat)
      case atStart => exact ⟨0, by omega, rfl, Own.nil _ _ _, B2, C02⟩
      case round =>
        obtain ⟨i, hi, rfl, hown, B, C⟩ := hrel
        by_cases hin : i < n
        · have nb : ((numD b n i : Nat) : Int) ≠ (b : Int) := by have := NE.out i hin; omega
          have nb' : (((numD b n i : Nat) : Int) != (b : Int)) = true := by simpa using nb
          have ek := NS.out i hin
          have em : (((b : Int) - (numD b n (i + 1) : Nat)) % 18446744073709551616).toNat < (((b : Int) - (numD b n i : Nat)) % 18446744073709551616).toNat := by unfold numD; omega
          have hk := numD_lt b n i
          have AS := Lib.hid (AT.out i)
          have HPL := Lib.hid (fun w => HP.out (numD b n i) hk w)
          obtain ⟨k, hke⟩ : ∃ k, k = numD b n i := ⟨_, rfl⟩
          obtain ⟨k', hke'⟩ : ∃ k', k' = numD b n (i + 1) := ⟨_, rfl⟩
          rw [← hke] at nb' ek AS HPL em ⊢
          rw [← hke'] at ek em
          obtain ⟨a, hae⟩ : ∃ a, a = plc base cap k := ⟨_, rfl⟩
          rw [← hae] at AS HPL
          have HWA := Lib.hid (fun w' C => HW.out w' C a)
          obtain ⟨y, hy⟩ : ∃ y, y = getA W a := ⟨_, rfl⟩
          rw [← hy] at AS HWA
          have HK' := Lib.hid hke'
          have EM := Lib.hid em
          have c0 : wr.cell? ⟨w.heap.size, 0, none⟩ = some (.int .i64 base) := B.cell 0
          have c1 : wr.cell? ⟨w.heap.size, 1, none⟩ = some (.int .i64 (cap : Nat)) := B.cell 1
          clear hke hke' hae hy nb hk em
          go_wp2_with (first
            | (go_at_call 82; refine (HPL.out _).mono ?_; rintro e w4 ⟨rfl, C4⟩; have C04 := C.trans C4)
            | (go_at_call 80; refine (HWA.out _ C04).mono ?_; rintro e w5 ⟨rfl, rfl⟩; have hown5 := hown.keep C4; have z5 : w.heap.size < w4.heap.size := (B.chg C4 (by simp)).lt)
            | (refine wpList_app1 rfl (.tmp 40) (.tmp 46) 36 rfl (w.heap.size + 1) 35 (.int .u64 0) 8 Tryz.underlying36 infoU64' rfl _ _ rfl (hown5.alloc _) w4.heap.size 1 (.int .u64 (y : Nat)) rfl ((Blk.new w4 #[.int .u64 (y : Nat)] 35).cell 0) rfl (by rw [words_len, AL.out]; unfold maxLen; omega) (by rw [words_len, AL.out]; omega) (by simp; omega) ?_; intro v6 w6 O6 C6))
          have hb5 := hown5.block
          go_roundw
          case rel =>
            have hB4 := (B.chg C4 (by simp)).alloc (.cells #[.int .u64 (y : Nat)] 35)
            exact ⟨i + 1, by omega, by rw [HK'.out], by rw [AS.out, words_snoc]; exact O6, hB4.chg C6 (fun hm => by have := hb5 _ hm; omega), (C04.alloc _).then C6 (fun g hg => .inr (by have := hb5 _ hg; omega))⟩
          case measure =>
            have em := EM.out
            simp [intOf]
            omega
        · obtain rfl : i = n := by omega
          have nb' : (((numD b i i : Nat) : Int) != (b : Int)) = false := by rw [ND.out]; simp
          go_wp2_with fail
          go_ret
          exact ⟨_, rfl, by rw [← AA.out]; exact hown.mono (by omega), C⟩
theorem refwords_any (c : Int) (h0 : -9223372036854775808 ≤ c) (h1 : c ≤ 9223372036854775807) (w : World) :
    Calls Tryz.prog 4 #[.int .i64 c] w fun e w' => e = .returned (.int .i64 (1 + 16 * (2 + (holdN c : Nat)))) ∧ w = w' := by
  have HL := Lib.hid (fun w => rhold_any c h0 h1 w)
  have hl := (holdN_pow2 c).le
  obtain ⟨n, hn⟩ : ∃ n, n = holdN c := ⟨_, rfl⟩
  rw [← hn] at HL hl ⊢
  clear h0 h1 hn
  go_enter Tryz.func4, Tryz.ntmps4
  go_wp2_with fail
  refine (HL.out _).mono ?_
  rintro e w1 ⟨rfl, rfl⟩
  go_wp2_with fail
  go_ret
  exact ⟨rfl, rfl⟩
end Go.Proofs.YtjdbgohfedjifaaGreatDoor
