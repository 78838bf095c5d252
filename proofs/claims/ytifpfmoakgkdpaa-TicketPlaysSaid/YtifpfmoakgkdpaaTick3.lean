/- ticket: the page's hand, one of several in a row. -/
import Derived.Test.YtifpfmoakgkdpaaTick2
import Derived.Test.YtifpfmoakgkdpaaMem3
import Derived.IntWalk
namespace Bosun
open Go Go.RowKit
/-- Hands, three cells each. -/
def RC (cs : Array Value) (base : Int) (hs : List (Int × Nat)) : Prop := 3 * hs.length ≤ cs.size ∧
  ∀ k (h : k < hs.length), cs[3 * k]? = some (.int .i64 base) ∧ cs[3 * k + 1]? = some (.int .i64 hs[k].1) ∧ cs[3 * k + 2]? = some (.int .u64 (hs[k].2 : Nat))
theorem setIf_get {cs : Array Value} {i : Nat} (h : i < cs.size) (v : Value) : (cs.setIfInBounds i v)[i]? = some v := by simp [h]
theorem RC.upd1 {cs : Array Value} {base : Int} {hs : List (Int × Nat)} (h : RC cs base hs) {k : Nat} (hk : k < hs.length) (s : Int) : RC (cs.setIfInBounds (3 * k + 1) (.int .i64 s)) base (hs.set k (s, hs[k].2)) := by
  refine ⟨by simpa using h.1, fun j hj => ?_⟩
  have hj' : j < hs.length := by simpa using hj
  have h1 := h.1
  obtain ⟨a, b, c⟩ := h.2 j hj'
  rw [List.getElem_set]
  by_cases e : k = j
  · subst e
    rw [if_pos rfl]
    exact ⟨by rw [Array.getElem?_setIfInBounds, if_neg (by omega)]; exact a, setIf_get (by omega) _, by rw [Array.getElem?_setIfInBounds, if_neg (by omega)]; exact c⟩
  · rw [if_neg e]
    exact ⟨by rw [Array.getElem?_setIfInBounds, if_neg (by omega)]; exact a, by rw [Array.getElem?_setIfInBounds, if_neg (by omega)]; exact b, by rw [Array.getElem?_setIfInBounds, if_neg (by omega)]; exact c⟩
theorem RC.upd2 {cs : Array Value} {base : Int} {hs : List (Int × Nat)} (h : RC cs base hs) {k : Nat} (hk : k < hs.length) (m : Nat) : RC (cs.setIfInBounds (3 * k + 2) (.int .u64 (m : Nat))) base (hs.set k (hs[k].1, m)) := by
  refine ⟨by simpa using h.1, fun j hj => ?_⟩
  have hj' : j < hs.length := by simpa using hj
  have h1 := h.1
  obtain ⟨a, b, c⟩ := h.2 j hj'
  rw [List.getElem_set]
  by_cases e : k = j
  · subst e
    rw [if_pos rfl]
    exact ⟨by rw [Array.getElem?_setIfInBounds, if_neg (by omega)]; exact a, by rw [Array.getElem?_setIfInBounds, if_neg (by omega)]; exact b, setIf_get (by omega) _⟩
  · rw [if_neg e]
    exact ⟨by rw [Array.getElem?_setIfInBounds, if_neg (by omega)]; exact a, by rw [Array.getElem?_setIfInBounds, if_neg (by omega)]; exact b, by rw [Array.getElem?_setIfInBounds, if_neg (by omega)]; exact c⟩
end Bosun
namespace Go.Proofs.Ytifpfmoakgkdpaa
open Go.RowKit Bosun
def RHands (w : World) (g : Nat) (base : Int) (hs : List (Int × Nat)) : Prop := ∃ cs, Blk w g cs 46 ∧ RC cs base hs
theorem RHands.chg {w w' : World} {S : List Nat} {g : Nat} {base : Int} {hs : List (Int × Nat)} (h : RHands w g base hs) (hc : Chg S w w') (hg : g ∉ S) : RHands w' g base hs := by
  obtain ⟨cs, h1, h2⟩ := h
  exact ⟨cs, h1.chg hc hg, h2⟩
theorem RHands.cells {w : World} {g : Nat} {base : Int} {hs : List (Int × Nat)} (h : RHands w g base hs) {k : Nat} (hk : k < hs.length) :
    w.cell? ⟨g, 3 * k, none⟩ = some (.int .i64 base) ∧ w.cell? ⟨g, 3 * k + 1, none⟩ = some (.int .i64 hs[k].1) ∧ w.cell? ⟨g, 3 * k + 2, none⟩ = some (.int .u64 (hs[k].2 : Nat)) := by
  obtain ⟨cs, h1, h2⟩ := h
  rw [h1.cell, h1.cell, h1.cell]
  exact h2.2 k hk
theorem RHands.one {w' : World} {g : Nat} {base : Int} {hs : List (Int × Nat)} {k : Nat} (hk : k < hs.length) {s : Int} {m : Nat} {cs : Array Value} (h2 : RC cs base hs)
    (h : Blk w' g ((cs.setIfInBounds (3 * k + 1) (.int .i64 s)).setIfInBounds (3 * k + 2) (.int .u64 (m : Nat))) 46) : RHands w' g base (hs.set k (s, m)) := by
  refine ⟨_, h, ?_⟩
  have := (h2.upd1 hk s).upd2 (k := k) (by simpa using hk) m
  simpa using this
theorem RHands.two {w' : World} {g : Nat} {base : Int} {hs : List (Int × Nat)} {k : Nat} (hk : k < hs.length) {s : Int} {m : Nat} {cs : Array Value} (h2 : RC cs base hs)
    (h : Blk w' g ((cs.setIfInBounds (3 * k + 2) (.int .u64 (m : Nat))).setIfInBounds (3 * k + 1) (.int .i64 s)) 46) : RHands w' g base (hs.set k (s, m)) := by
  refine ⟨_, h, ?_⟩
  have := (h2.upd2 hk m).upd1 (k := k) (by simpa using hk) s
  simpa using this
theorem RHands.state {w' : World} {g : Nat} {base : Int} {hs : List (Int × Nat)} {k : Nat} (hk : k < hs.length) {s : Int} {cs : Array Value} (h2 : RC cs base hs)
    (h : Blk w' g (cs.setIfInBounds (3 * k + 1) (.int .i64 s)) 46) : RHands w' g base (hs.set k (s, hs[k].2)) := ⟨_, h, h2.upd1 hk s⟩
theorem RHands.same {w' : World} {g : Nat} {base : Int} {hs : List (Int × Nat)} {k : Nat} (hk : k < hs.length) (h : RHands w' g base hs) {s : Int} {m : Nat} (h1 : hs[k].1 = s) (h2 : hs[k].2 = m) : RHands w' g base (hs.set k (s, m)) := by
  subst h1 h2
  have : hs.set k (hs[k].1, hs[k].2) = hs := List.set_getElem_self hk
  rw [this]; exact h

set_option maxHeartbeats 1000000 in
theorem rstep_any (g : Nat) (base : Int) (hb0 : -1000 ≤ base) (hb1 : base ≤ 1000) (hs : List (Int × Nat)) (k : Nat) (hk : k < hs.length) (o : Nat) (ho : o = 3 * k) (st : Int) (mine : Nat) (e1 : hs[k].1 = st) (e2 : hs[k].2 = mine) (w : World) (h : RHands w g base hs) (hst : St st)
    (bm bw : Nat) (W : List Nat) (u : Nat) (hm : IsRef w bm bw W u) (h1 : g ≠ bm) (h2 : g ≠ bw) :
    Calls Try.prog 20 #[.pointer (some ⟨g, o, none⟩), .pointer (some ⟨bm, 0, none⟩)] w fun e w' => e = .returned (.bool (decide (stS base W st mine = 2))) ∧
      RHands w' g base (hs.set k (stS base W st mine, stM base W st mine)) ∧ IsRef w' bm bw (stW base W st) (stU base W u st) ∧ Chg [g, bm, bw] w w' := by
  obtain ⟨d0, d1, d2⟩ := h.cells hk
  rw [e1] at d1
  rw [e2] at d2
  rw [← ho] at d0 d1 d2
  have HH := Lib.hid h
  have HO := Lib.hid ho
  have E1 := Lib.hid e1
  have E2 := Lib.hid e2
  clear h ho e1 e2
  rcases hst with rfl | rfl | rfl
  · rw [show stS base W 0 mine = 1 from rfl, show stM base W 0 mine = getA W base from rfl, show stW base W 0 = setA W base ((getA W base + 1) % 18446744073709551616) from rfl, show stU base W u 0 = tick W base u from rfl]
    rw [show decide ((1 : Int) = 2) = false from rfl]
    go_enter Try.func20, Try.ntmps20
    go_wp2_with fail
    refine (radd_any bm bw W u _ hm base 1).mono ?_
    rintro e w2 ⟨rfl, M2, C2⟩
    obtain ⟨cs, B2, R2⟩ := HH.out.chg C2 (by simp; exact ⟨h1, h2⟩)
    have hsz := R2.1
    have hz1 : o + 2 < cs.size := by have := HO.out; omega
    have R2H := Lib.hid R2
    clear R2 hsz
    go_wp2_with (first
      | (refine wpList_val_store rfl 22 (.tmp 19) (.tmp 17) rfl g (o + 2) rfl _ rfl _ _ B2 (by omega) (by kernel_rfl) rfl ?_; intro w3 B3 C3)
      | (refine wpList_val_store rfl 3 (.tmp 22) (.const (.int .i64 1)) rfl g (o + 1) rfl _ rfl _ _ B3 (by simp; omega) (by kernel_rfl) rfl ?_; intro w4 B4 C4; have q1 : w4.cell? ⟨g, o + 1, none⟩ = some (.int .i64 1) := (by rw [B4.cell]; exact setIf_get (by simp; omega) _)))
    go_ret
    refine ⟨rfl, RHands.two hk R2H.out (by rw [← HO.out]; exact B4), (M2.chg C3 (by simp; exact h1.symm) (by simp; exact h2.symm)).chg C4 (by simp; exact h1.symm) (by simp; exact h2.symm),
      ((C2.mono (fun g hg => .inl (by simp at hg ⊢; omega))).then C3 (fun g hg => .inl (by simp at hg ⊢; omega))).then C4 (fun g hg => .inl (by simp at hg ⊢; omega))⟩
  · have HR := Lib.hid (show RHands w g base (hs.set k (1, mine)) from RHands.same hk HH.out E1.out E2.out)
    by_cases he : getA W (base + 1) = mine
    · rw [show stS base W 1 mine = 2 from if_pos he, show stM base W 1 mine = mine from rfl, show stW base W 1 = W from rfl, show stU base W u 1 = tick W (base + 1) u from rfl]
      rw [show decide ((2 : Int) = 2) = true from rfl]
      have HL := Lib.hid (fun w hm => rload_any bm bw W u w hm (base + 1))
      rw [he] at HL
      clear he
      go_enter Try.func20, Try.ntmps20
      go_wp2_with fail
      have ws : IntKind.i64.wrap (base + 1) = base + 1 := IntWalk.i64_in _ (by omega)
      go_region_held3 (fun w' => w'.cell? ⟨g, o, none⟩ = some (.int .i64 base) ∧ w'.cell? ⟨g, o + 2, none⟩ = some (.int .u64 (mine : Nat))) (first | assumption | exact ⟨d0, d2⟩)
        (first
          | (go_at_call 31; refine (HL.out _ hm.drew).mono ?_; rintro e w2 ⟨rfl, M2, C2⟩; have H2 := HH.out.chg C2.undrew (by simp; exact h1); have k2 : w2.cell? ⟨g, o, none⟩ = some (.int .i64 base) ∧ w2.cell? ⟨g, o + 2, none⟩ = some (.int .u64 (mine : Nat)) := by (have := H2.cells hk; rw [E2.out, ← HO.out] at this; exact ⟨this.1, this.2.2⟩)))
      clear ws
      obtain ⟨cs, B2, R2⟩ := H2
      have hz1 : o + 2 < cs.size := by have := HO.out; have := R2.1; omega
      have R2H := Lib.hid R2
      clear R2
      go_wp2_with (first
        | (refine wpList_val_store rfl 3 (.tmp 39) (.const (.int .i64 2)) rfl g (o + 1) rfl _ rfl _ _ B2 (by omega) (by kernel_rfl) rfl ?_; intro w4 B4 C4; have q1 : w4.cell? ⟨g, o + 1, none⟩ = some (.int .i64 2) := (by rw [B4.cell]; exact setIf_get (by omega) _)))
      go_ret
      refine ⟨rfl, ?_, M2.chg C4 (by simp; exact h1.symm) (by simp; exact h2.symm), (C2.undrew.mono (fun g hg => .inl (by simp at hg ⊢; omega))).then C4 (fun g hg => .inl (by simp at hg ⊢; omega))⟩
      have := RHands.state hk (s := 2) R2H.out (by rw [← HO.out]; exact B4)
      rw [E2.out] at this
      exact this
    · rw [show stS base W 1 mine = 1 from if_neg he, show stM base W 1 mine = mine from rfl, show stW base W 1 = W from rfl, show stU base W u 1 = tick W (base + 1) u from rfl]
      rw [show decide ((1 : Int) = 2) = false from rfl]
      have HL := Lib.hid (fun w hm => rload_any bm bw W u w hm (base + 1))
      obtain ⟨gn, hgn⟩ : ∃ g, g = getA W (base + 1) := ⟨_, rfl⟩
      rw [← hgn] at HL he
      have f1 : ((gn : Int) == (mine : Int)) = false := by simp only [beq_eq_false_iff_ne, ne_eq]; omega
      clear he hgn
      go_enter Try.func20, Try.ntmps20
      go_wp2_with fail
      have ws : IntKind.i64.wrap (base + 1) = base + 1 := IntWalk.i64_in _ (by omega)
      go_region_held3 (fun w' => w'.cell? ⟨g, o, none⟩ = some (.int .i64 base) ∧ w'.cell? ⟨g, o + 2, none⟩ = some (.int .u64 (mine : Nat))) (first | assumption | exact ⟨d0, d2⟩)
        (first
          | (go_at_call 31; refine (HL.out _ hm.drew).mono ?_; rintro e w2 ⟨rfl, M2, C2⟩; have H2 := HH.out.chg C2.undrew (by simp; exact h1); have k2 : w2.cell? ⟨g, o, none⟩ = some (.int .i64 base) ∧ w2.cell? ⟨g, o + 2, none⟩ = some (.int .u64 (mine : Nat)) := by (have := H2.cells hk; rw [E2.out, ← HO.out] at this; exact ⟨this.1, this.2.2⟩)))
      clear ws
      have q1 : w2.cell? ⟨g, o + 1, none⟩ = some (.int .i64 1) := by have := H2.cells hk; rw [E1.out, ← HO.out] at this; exact this.2.1
      go_wp2_with fail
      go_ret
      exact ⟨rfl, RHands.same hk H2 E1.out E2.out, M2, C2.undrew.mono (fun g hg => .inl (by simp at hg ⊢; omega))⟩
  · rw [show stS base W 2 mine = 2 from rfl, show stM base W 2 mine = mine from rfl, show stW base W 2 = W from rfl, show stU base W u 2 = u from rfl]
    rw [show decide ((2 : Int) = 2) = true from rfl]
    go_enter Try.func20, Try.ntmps20
    go_wp2_with fail
    go_ret
    exact ⟨rfl, RHands.same hk HH.out E1.out E2.out, hm, Chg.refl _ _⟩
set_option maxHeartbeats 1000000 in
theorem rfree_any (g : Nat) (base : Int) (hb0 : -1000 ≤ base) (hb1 : base ≤ 1000) (hs : List (Int × Nat)) (k : Nat) (hk : k < hs.length) (o : Nat) (ho : o = 3 * k) (st : Int) (mine : Nat) (e1 : hs[k].1 = st) (e2 : hs[k].2 = mine) (w : World) (h : RHands w g base hs)
    (bm bw : Nat) (W : List Nat) (u : Nat) (hm : IsRef w bm bw W u) (h1 : g ≠ bm) (h2 : g ≠ bw) :
    Calls Try.prog 19 #[.pointer (some ⟨g, o, none⟩), .pointer (some ⟨bm, 0, none⟩)] w fun e w' => e = .returned (.bool (st == 2)) ∧
      RHands w' g base (hs.set k (frS st, frM st mine)) ∧ IsRef w' bm bw (frW base W st mine) (frU base W u st) ∧ Chg [g, bm, bw] w w' := by
  obtain ⟨d0, d1, d2⟩ := h.cells hk
  rw [e1] at d1
  rw [e2] at d2
  rw [← ho] at d0 d1 d2
  have HH := Lib.hid h
  have HO := Lib.hid ho
  have E1 := Lib.hid e1
  have E2 := Lib.hid e2
  clear h ho e1 e2
  by_cases he : st = 2
  · subst he
    rw [show frS 2 = 0 from rfl, show frM 2 mine = 0 from rfl, show frW base W 2 mine = setA W (base + 1) ((mine + 1) % 18446744073709551616) from rfl, show frU base W u 2 = tick W (base + 1) u from rfl]
    have ew : IntKind.u64.wrap ((mine : Int) + 1) = ((mine + 1) % 18446744073709551616 : Nat) := by rw [IntKind.wrap_u64]; rfl
    have hlt : (mine + 1) % 18446744073709551616 < 18446744073709551616 := Nat.mod_lt _ (by omega)
    obtain ⟨m1, hm1⟩ : ∃ m1, m1 = (mine + 1) % 18446744073709551616 := ⟨_, rfl⟩
    rw [← hm1] at ew hlt ⊢
    clear hm1
    go_enter Try.func19, Try.ntmps19
    go_wp2_with fail
    have ws : IntKind.i64.wrap (base + 1) = base + 1 := IntWalk.i64_in _ (by omega)
    go_region_held3 (fun w' => w'.cell? ⟨g, o, none⟩ = some (.int .i64 base) ∧ w'.cell? ⟨g, o + 2, none⟩ = some (.int .u64 (mine : Nat))) (first | assumption | exact ⟨d0, d2⟩)
      (first
        | (go_at_call 18; refine (rstore_any bm bw W u _ hm.drew (base + 1) m1 hlt).mono ?_; rintro e w2 ⟨rfl, M2, C2⟩; have H2 := HH.out.chg C2.undrew (by simp; exact ⟨h1, h2⟩); have k2 : w2.cell? ⟨g, o, none⟩ = some (.int .i64 base) ∧ w2.cell? ⟨g, o + 2, none⟩ = some (.int .u64 (mine : Nat)) := by (have := H2.cells hk; rw [E2.out, ← HO.out] at this; exact ⟨this.1, this.2.2⟩)))
    clear ws
    obtain ⟨cs, B2, R2⟩ := H2
    have hz1 : o + 2 < cs.size := by have := HO.out; have := R2.1; omega
    have R2H := Lib.hid R2
    clear R2
    go_wp2_with (first
      | (refine wpList_val_store rfl 3 (.tmp 24) (.const (.int .i64 0)) rfl g (o + 1) rfl _ rfl _ _ B2 (by omega) (by kernel_rfl) rfl ?_; intro w3 B3 C3)
      | (refine wpList_val_store rfl 22 (.tmp 27) (.const (.int .u64 0)) rfl g (o + 2) rfl _ rfl _ _ B3 (by simp; omega) (by kernel_rfl) rfl ?_; intro w4 B4 C4))
    go_ret
    exact ⟨rfl, RHands.one hk R2H.out (by rw [← HO.out]; exact B4), (M2.chg C3 (by simp; exact h1.symm) (by simp; exact h2.symm)).chg C4 (by simp; exact h1.symm) (by simp; exact h2.symm),
      ((C2.undrew.mono (fun g hg => .inl (by simp at hg ⊢; omega))).then C3 (fun g hg => .inl (by simp at hg ⊢; omega))).then C4 (fun g hg => .inl (by simp at hg ⊢; omega))⟩
  · have f1 : (st == 2) = false := by simpa using he
    have f2 : (st != 2) = true := by rw [bne, f1]; rfl
    rw [show frS st = st from if_neg he, show frM st mine = mine from if_neg he, show frW base W st mine = W from if_neg he, show frU base W u st = u from if_neg he, f1]
    clear he
    go_enter Try.func19, Try.ntmps19
    go_wp2_with fail
    go_ret
    exact ⟨rfl, RHands.same hk HH.out E1.out E2.out, hm, Chg.refl _ _⟩
theorem rahead_any (bm bw : Nat) (W : List Nat) (u : Nat) (w : World) (h : IsRef w bm bw W u) (base : Int) (hb0 : -1000 ≤ base) (hb1 : base ≤ 1000) (t : Nat) (ht : t < 18446744073709551616) :
    Calls Try.prog 21 #[.pointer (some ⟨bm, 0, none⟩), .int .i64 base, .int .u64 (t : Nat)] w fun e w' => e = .returned (.int .u64 (aheadN W base t : Nat)) ∧ w = w' := by
  have HB := Lib.hid (fun w h => rhas_any bm bw W u w h (base + 1))
  by_cases hh : hasA W (base + 1) = true
  · rw [hh] at HB
    have hx := h.small.getA (base + 1)
    rw [show aheadN W base t = (t + (18446744073709551616 - getA W (base + 1))) % 18446744073709551616 from if_pos hh]
    obtain ⟨h0, h1⟩ := hasA_iff.1 hh
    have cw : w.cell? ⟨bw, (base + 1).toNat, none⟩ = some (.int .u64 (getA W (base + 1) : Nat)) := by
      obtain ⟨j, hj⟩ := Int.eq_ofNat_of_zero_le h0
      have hjl : j < W.length := by omega
      rw [hj, getA_yes hjl]
      exact h.cw hjl
    have c0 := h.c0
    have HM := Lib.hid h
    obtain ⟨x, hxx⟩ : ∃ x, x = getA W (base + 1) := ⟨_, rfl⟩
    rw [← hxx] at cw hx ⊢
    have ew : IntKind.u64.wrap ((t : Int) - (x : Int)) = ((t + (18446744073709551616 - x)) % 18446744073709551616 : Nat) := by
      rw [IntKind.wrap_u64]; omega
    obtain ⟨r, hr⟩ : ∃ r, r = (t + (18446744073709551616 - x)) % 18446744073709551616 := ⟨_, rfl⟩
    rw [← hr] at ew ⊢
    clear hr hxx hh h
    go_enter Try.func21, Try.ntmps21
    go_wp2_with (go_at_call 29; refine (HB.out _ HM.out).mono ?_; rintro e w1 ⟨rfl, rfl⟩)
    go_ret
    exact ⟨rfl, rfl⟩
  · have hf : hasA W (base + 1) = false := by cases hq : hasA W (base + 1); rfl; exact absurd hq hh
    rw [hf] at HB
    rw [show aheadN W base t = t from if_neg hh]
    have HM := Lib.hid h
    clear hf hh h
    go_enter Try.func21, Try.ntmps21
    go_wp2_with fail
    refine (HB.out _ HM.out).mono ?_
    rintro e w1 ⟨rfl, rfl⟩
    go_wp2_with fail
    go_ret
    exact ⟨rfl, rfl⟩
end Go.Proofs.Ytifpfmoakgkdpaa
