/- deque: what works tell (cut out of deque/XDqT). -/
import Derived.Test.YtjdbgohfedjifaaDoorDq10
namespace Bosun
open Go
/-- What a work of a kind tells from a step on. -/
def telD (k s : Nat) (f : DOp → Nat) (o : DOp) : Nat × Bool := if o.kind ≠ k ∨ o.steps < s then (0, false) else (f o, true)
def clmD (o : DOp) (W : List Nat) : Nat × Bool :=
  if o.kind ≠ 1 ∨ o.done = true ∨ o.steps < 2 then (0, false) else if 5 ≤ o.steps then (if o.won then (o.x, true) else (0, false)) else if 0 < ahd (getA W o.base) o.b then (0, false) else (getA W (plc o.base o.cap o.b), true)
end Bosun
namespace Go.Proofs.YtjdbgohfedjifaaDoor
open Go.RowKit Bosun
set_option maxHeartbeats 1000000 in
theorem dseen_any (g : Nat) (o : DOp) (w : World) (h : IsOp w g o) (hk : o.kind ≤ 2) : Calls Tryd.prog 88 #[.pointer (some ⟨g, 0, none⟩)] w fun e w' => e = .returned (.tuple #[.int .u64 ((telD 2 3 (·.x) o).1 : Nat), .bool (telD 2 3 (·.x) o).2]) ∧ w = w' := by
  have c2 := h.c2
  have c3 := h.c3
  have c6 := h.c6
  clear h
  obtain ⟨n, hn⟩ : ∃ n, n = o.steps := ⟨_, rfl⟩
  obtain ⟨x, hx⟩ : ∃ x, x = o.x := ⟨_, rfl⟩
  obtain ⟨q, hq⟩ : ∃ q, q = o.kind := ⟨_, rfl⟩
  have e : telD 2 3 (·.x) o = if q ≠ 2 ∨ n < 3 then (0, false) else (x, true) := by rw [hn, hx, hq]; rfl
  rw [e]
  rw [← hn] at c3
  rw [← hx] at c6
  rw [← hq] at c2 hk
  clear hn hx hq e
  by_cases hqk : q = 2
  · subst hqk
    by_cases h3 : n < 3
    · rw [if_pos (.inr h3)]
      have d3 : decide ((n : Int) < 3) = true := decide_eq_true (by omega)
      go_enter Tryd.func88, Tryd.ntmps88
      go_wp2_with fail
      go_ret2
      exact ⟨rfl, rfl⟩
    · rw [if_neg (by omega)]
      have d3 : decide ((n : Int) < 3) = false := decide_eq_false (by omega)
      go_enter Tryd.func88, Tryd.ntmps88
      go_wp2_with fail
      go_ret2
      exact ⟨rfl, rfl⟩
  · rw [if_pos (.inl hqk)]
    have d2 : ((q : Int) == 2) = false := beq_eq_false_iff_ne.2 (by omega)
    have d2' : ((q : Int) != 2) = true := by simp [bne, d2]
    go_enter Tryd.func88, Tryd.ntmps88
    go_wp2_with fail
    go_ret2
    exact ⟨rfl, rfl⟩
set_option maxHeartbeats 1000000 in
theorem dtop_any (g : Nat) (o : DOp) (w : World) (h : IsOp w g o) (hk : o.kind ≤ 2) : Calls Tryd.prog 76 #[.pointer (some ⟨g, 0, none⟩)] w fun e w' => e = .returned (.tuple #[.int .u64 ((telD 2 1 (·.t) o).1 : Nat), .bool (telD 2 1 (·.t) o).2]) ∧ w = w' := by
  have c2 := h.c2
  have c3 := h.c3
  have c6 := h.c5
  clear h
  obtain ⟨n, hn⟩ : ∃ n, n = o.steps := ⟨_, rfl⟩
  obtain ⟨x, hx⟩ : ∃ x, x = o.t := ⟨_, rfl⟩
  obtain ⟨q, hq⟩ : ∃ q, q = o.kind := ⟨_, rfl⟩
  have e : telD 2 1 (·.t) o = if q ≠ 2 ∨ n < 1 then (0, false) else (x, true) := by rw [hn, hx, hq]; rfl
  rw [e]
  rw [← hn] at c3
  rw [← hx] at c6
  rw [← hq] at c2 hk
  clear hn hx hq e
  by_cases hqk : q = 2
  · subst hqk
    by_cases h3 : n < 1
    · rw [if_pos (.inr h3)]
      have d3 : decide ((n : Int) < 1) = true := decide_eq_true (by omega)
      go_enter Tryd.func76, Tryd.ntmps76
      go_wp2_with fail
      go_ret2
      exact ⟨rfl, rfl⟩
    · rw [if_neg (by omega)]
      have d3 : decide ((n : Int) < 1) = false := decide_eq_false (by omega)
      go_enter Tryd.func76, Tryd.ntmps76
      go_wp2_with fail
      go_ret2
      exact ⟨rfl, rfl⟩
  · rw [if_pos (.inl hqk)]
    have d2 : ((q : Int) == 2) = false := beq_eq_false_iff_ne.2 (by omega)
    have d2' : ((q : Int) != 2) = true := by simp [bne, d2]
    go_enter Tryd.func76, Tryd.ntmps76
    go_wp2_with fail
    go_ret2
    exact ⟨rfl, rfl⟩
set_option maxHeartbeats 1000000 in
theorem dbottom_any (g : Nat) (o : DOp) (w : World) (h : IsOp w g o) (hk : o.kind ≤ 2) : Calls Tryd.prog 54 #[.pointer (some ⟨g, 0, none⟩)] w fun e w' => e = .returned (.tuple #[.int .u64 ((telD 0 1 (·.b) o).1 : Nat), .bool (telD 0 1 (·.b) o).2]) ∧ w = w' := by
  have c2 := h.c2
  have c3 := h.c3
  have c6 := h.c4
  clear h
  obtain ⟨n, hn⟩ : ∃ n, n = o.steps := ⟨_, rfl⟩
  obtain ⟨x, hx⟩ : ∃ x, x = o.b := ⟨_, rfl⟩
  obtain ⟨q, hq⟩ : ∃ q, q = o.kind := ⟨_, rfl⟩
  have e : telD 0 1 (·.b) o = if q ≠ 0 ∨ n < 1 then (0, false) else (x, true) := by rw [hn, hx, hq]; rfl
  rw [e]
  rw [← hn] at c3
  rw [← hx] at c6
  rw [← hq] at c2 hk
  clear hn hx hq e
  by_cases hqk : q = 0
  · subst hqk
    by_cases h3 : n < 1
    · rw [if_pos (.inr h3)]
      have d3 : decide ((n : Int) < 1) = true := decide_eq_true (by omega)
      go_enter Tryd.func54, Tryd.ntmps54
      go_wp2_with fail
      go_ret2
      exact ⟨rfl, rfl⟩
    · rw [if_neg (by omega)]
      have d3 : decide ((n : Int) < 1) = false := decide_eq_false (by omega)
      go_enter Tryd.func54, Tryd.ntmps54
      go_wp2_with fail
      go_ret2
      exact ⟨rfl, rfl⟩
  · rw [if_pos (.inl hqk)]
    have d2 : ((q : Int) == 0) = false := beq_eq_false_iff_ne.2 (by omega)
    have d2' : ((q : Int) != 0) = true := by simp [bne, d2]
    go_enter Tryd.func54, Tryd.ntmps54
    go_wp2_with fail
    go_ret2
    exact ⟨rfl, rfl⟩
set_option maxHeartbeats 4000000 in
theorem dclaimed_any (g : Nat) (o : DOp) (w : World) (h : IsOp w g o) (_hk : o.kind ≤ 2) (hs6 : o.steps ≤ 6) (h0 : -100 ≤ o.base) (h1 : o.base ≤ 1000000) (hc : Pow2 o.cap) (hb : o.b < 18446744073709551616) (bm bw : Nat) (W : List Nat) (u : Nat) (hm : IsMem w bm bw W u) :
    Calls Tryd.prog 46 #[.pointer (some ⟨g, 0, none⟩), .pointer (some ⟨bm, 0, none⟩)] w fun e w' => e = .returned (.tuple #[.int .u64 ((clmD o W).1 : Nat), .bool (clmD o W).2]) ∧ Chg [] w w' := by
  have c0 := h.c0
  have c1 := h.c1
  have c2 := h.c2
  have c3 := h.c3
  have c4 := h.c4
  have c6 := h.c6
  have c7 := h.c7
  have c8 := h.c8
  have HH := Lib.hid h
  have HM := Lib.hid hm
  have s1 := hm.small.getA o.base
  have hpl : -9223372036854775808 ≤ plc o.base o.cap o.b ∧ plc o.base o.cap o.b ≤ 9223372036854775807 := by
    have := hc.le
    unfold plc
    have : o.b % o.cap < o.cap := Nat.mod_lt _ (by omega)
    omega
  have wb : IntKind.i64.wrap o.base = o.base := by rw [IntKind.wrap_i64]; omega
  unfold clmD
  by_cases a1 : o.kind = 1
  · rw [a1] at c2
    by_cases a2 : o.done = true
    · rw [if_pos (.inr (.inl a2))]
      rw [a2] at c8
      clear h hm a1 a2
      go_enter Tryd.func46, Tryd.ntmps46
      go_wp2_with fail
      go_ret2
      exact ⟨rfl, Chg.refl _ _⟩
    · have a2' : o.done = false := by simpa using a2
      rw [a2'] at c8
      by_cases a3 : o.steps < 2
      · rw [if_pos (.inr (.inr a3))]
        have d3 : decide ((o.steps : Int) < 2) = true := decide_eq_true (by omega)
        clear h hm a1 a2 a2'
        go_enter Tryd.func46, Tryd.ntmps46
        go_wp2_with fail
        go_ret2
        exact ⟨rfl, Chg.refl _ _⟩
      · rw [if_neg (by rintro (x | x | x); exact x a1; exact a2 x; exact a3 x)]
        have d3 : decide ((o.steps : Int) < 2) = false := decide_eq_false (by omega)
        by_cases a4 : 5 ≤ o.steps
        · rw [if_pos a4]
          have d4 : decide ((5 : Int) ≤ (o.steps : Int)) = true := decide_eq_true (by omega)
          by_cases a5 : o.won = true
          · rw [if_pos a5]
            rw [a5] at c7
            clear h hm a1 a2 a2' a3 a4 a5
            go_enter Tryd.func46, Tryd.ntmps46
            go_wp2_with fail
            go_ret2
            exact ⟨rfl, Chg.refl _ _⟩
          · rw [if_neg a5]
            rw [show o.won = false by simpa using a5] at c7
            clear h hm a1 a2 a2' a3 a4 a5
            go_enter Tryd.func46, Tryd.ntmps46
            go_wp2_with fail
            go_ret2
            exact ⟨rfl, Chg.refl _ _⟩
        · rw [if_neg a4]
          have d4 : decide ((5 : Int) ≤ (o.steps : Int)) = false := decide_eq_false (by omega)
          have HE := Lib.hid (fun w' (C : Chg [] w w') => ends_any o.base h0 h1 o.cap bm bw W u w' (HM.out.keep C))
          have HA := Lib.hid (fun w => ahead_any (getA W o.base) o.b s1 hb w)
          have HP := Lib.hid (fun w => place_any o.base h0 h1 o.cap hc o.b hb w)
          obtain ⟨t, ht⟩ : ∃ t, t = getA W o.base := ⟨_, rfl⟩
          rw [← ht] at HA HE ⊢
          obtain ⟨b1, hb1⟩ : ∃ b1, b1 = getA W (o.base + 1) := ⟨_, rfl⟩
          rw [← hb1] at HE
          obtain ⟨v, hv⟩ : ∃ v, v = ahd t o.b := ⟨_, rfl⟩
          rw [← hv] at HA ⊢
          have lg := h.lt
          by_cases hf : 0 < v
          · rw [if_pos hf]
            clear h hm a1 a2 a2' a3 a4 hv ht hb1
            go_enter Tryd.func46, Tryd.ntmps46
            go_wp2_with (first
              | (go_at_call 62; refine (HE.out _ (Chg.refl _ _)).mono ?_; rintro e w2 ⟨rfl, C2⟩; have H2 := HH.out.chg C2 (by simp); have j4 : w2.cell? ⟨g, 4, none⟩ = some (.int .u64 (o.b : Nat)) := H2.c4)
              | (go_at_call 66; refine (HA.out _).mono ?_; rintro e w3 ⟨rfl, rfl⟩))
            go_ret2
            exact ⟨rfl, C2⟩
          · rw [if_neg hf]
            have hd : decide (0 < v) = false := by simpa using hf
            obtain ⟨q, hq⟩ : ∃ q, q = plc o.base o.cap o.b := ⟨_, rfl⟩
            rw [← hq] at HP hpl ⊢
            have HT := Lib.hid (fun w' (C : Chg [] w w') => part_any bm bw W u w' (HM.out.keep C) q 1 hpl.1 hpl.2 (by omega) (by omega))
            by_cases hh : hasA W q = true
            · rw [partN_one hh] at HT
              obtain ⟨x, hx⟩ : ∃ x, x = getA W q := ⟨_, rfl⟩
              rw [← hx] at HT ⊢
              clear h hm a1 a2 a2' a3 a4 hv ht hf hq hx hpl hc hb hb1 hh
              go_enter Tryd.func46, Tryd.ntmps46
              go_wp2_with (first
                | (go_at_call 62; refine (HE.out _ (Chg.refl _ _)).mono ?_; rintro e w2 ⟨rfl, C2⟩; have H2 := HH.out.chg C2 (by simp); have j0 : w2.cell? ⟨g, 0, none⟩ = some (.int .i64 o.base) := H2.c0; have j1 : w2.cell? ⟨g, 1, none⟩ = some (.int .i64 (o.cap : Nat)) := H2.c1; have j4 : w2.cell? ⟨g, 4, none⟩ = some (.int .u64 (o.b : Nat)) := H2.c4)
                | (go_at_call 66; refine (HA.out _).mono ?_; rintro e w3 ⟨rfl, rfl⟩))
              go_region_held3 (fun w' => w'.cell? ⟨g, 0, none⟩ = some (.int .i64 o.base) ∧ w'.cell? ⟨g, 1, none⟩ = some (.int .i64 (o.cap : Nat)) ∧ w'.cell? ⟨g, 4, none⟩ = some (.int .u64 (o.b : Nat))) (first | assumption | exact ⟨j0, j1, j4⟩)
                (first
                  | (go_at_call 65; refine (HP.out _).mono ?_; rintro e w4 ⟨rfl, C4⟩; have H4 := H2.chg C4.undrew (by simp); have k2 := And.intro H4.c0 (And.intro H4.c1 H4.c4))
                  | (go_at_call 64; refine (HT.out _ (C2.trans C4.undrew)).mono ?_; rintro e w5 ⟨v5, rfl, O5, C5⟩; obtain ⟨ao, cap, rfl, _, hc5⟩ := O5.reads; obtain ⟨g5, off, rfl, c50⟩ := hc5 0 _ rfl; rw [Nat.add_zero] at c50; simp only [words_len, List.length_cons, List.length_nil] at *; have H5 := H4.chg C5 (by simp); have k3 := And.intro H5.c0 (And.intro H5.c1 H5.c4)))
              clear hc5 O5
              go_wp2_with fail
              go_loopw [76] (fun x wr => x = .int .i64 0 ∧ w5 = wr) (fun _ _ => 0)
              case atStart => exact ⟨rfl, rfl⟩
              case round =>
                obtain ⟨rfl, rfl⟩ := hrel
                go_wp2_with fail
                go_ret2
                exact ⟨rfl, (C2.trans C4.undrew).trans C5⟩
            · have hno : hasA W q = false := by simpa using hh
              rw [partN_no hno] at HT
              rw [getA_no hno]
              clear h hm a1 a2 a2' a3 a4 hv ht hf hq hpl hc hb hb1 hh hno
              go_enter Tryd.func46, Tryd.ntmps46
              go_wp2_with (first
                | (go_at_call 62; refine (HE.out _ (Chg.refl _ _)).mono ?_; rintro e w2 ⟨rfl, C2⟩; have H2 := HH.out.chg C2 (by simp); have j0 : w2.cell? ⟨g, 0, none⟩ = some (.int .i64 o.base) := H2.c0; have j1 : w2.cell? ⟨g, 1, none⟩ = some (.int .i64 (o.cap : Nat)) := H2.c1; have j4 : w2.cell? ⟨g, 4, none⟩ = some (.int .u64 (o.b : Nat)) := H2.c4)
                | (go_at_call 66; refine (HA.out _).mono ?_; rintro e w3 ⟨rfl, rfl⟩))
              go_region_held3 (fun w' => w'.cell? ⟨g, 0, none⟩ = some (.int .i64 o.base) ∧ w'.cell? ⟨g, 1, none⟩ = some (.int .i64 (o.cap : Nat)) ∧ w'.cell? ⟨g, 4, none⟩ = some (.int .u64 (o.b : Nat))) (first | assumption | exact ⟨j0, j1, j4⟩)
                (first
                  | (go_at_call 65; refine (HP.out _).mono ?_; rintro e w4 ⟨rfl, C4⟩; have H4 := H2.chg C4.undrew (by simp); have k2 := And.intro H4.c0 (And.intro H4.c1 H4.c4))
                  | (go_at_call 64; refine (HT.out _ (C2.trans C4.undrew)).mono ?_; rintro e w5 ⟨v5, rfl, O5, C5⟩; obtain ⟨ao, cap, rfl, _, hc5⟩ := O5.reads; simp only [words_len, List.length_nil] at *; have H5 := H4.chg C5 (by simp); have k3 := And.intro H5.c0 (And.intro H5.c1 H5.c4)))
              clear hc5 O5
              go_wp2_with fail
              go_loopw [76] (fun x wr => x = .int .i64 0 ∧ w5 = wr) (fun _ _ => 0)
              case atStart => exact ⟨rfl, rfl⟩
              case round =>
                obtain ⟨rfl, rfl⟩ := hrel
                go_wp2_with fail
                go_ret2
                exact ⟨rfl, (C2.trans C4.undrew).trans C5⟩
  · rw [if_pos (.inl a1)]
    have d2 : ((o.kind : Int) == 1) = false := beq_eq_false_iff_ne.2 (by omega)
    have d2' : ((o.kind : Int) != 1) = true := by simp [bne, d2]
    clear h hm a1
    go_enter Tryd.func46, Tryd.ntmps46
    go_wp2_with fail
    go_ret2
    exact ⟨rfl, Chg.refl _ _⟩
end Go.Proofs.YtjdbgohfedjifaaDoor
