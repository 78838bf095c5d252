/- ticket: the program's hand. -/
import Derived.Test.YtifpfmoakgkdpaaTickP
import Derived.Test.YtifpfmoakgkdpaaMem4
import Derived.Test.YtifpfmoakgkdpaaQue
import Derived.Scope
import Derived.Deep.RegionHeld3
namespace Go.Proofs.Ytifpfmoakgkdpaa
open Go.RowKit Bosun
/-- A hand at block b. -/
def IsHand (w : World) (b : Nat) (base st : Int) (mine : Nat) : Prop := Blk w b #[.int .i64 base, .int .i64 (base + 1), .int .i64 st, .int .u64 (mine : Nat)] 61
theorem IsHand.c0 {w : World} {b : Nat} {base st : Int} {mine : Nat} (h : IsHand w b base st mine) : w.cell? ⟨b, 0, none⟩ = some (.int .i64 base) := by rw [Blk.cell h]; rfl
theorem IsHand.c1 {w : World} {b : Nat} {base st : Int} {mine : Nat} (h : IsHand w b base st mine) : w.cell? ⟨b, 1, none⟩ = some (.int .i64 (base + 1)) := by rw [Blk.cell h]; rfl
theorem IsHand.c2 {w : World} {b : Nat} {base st : Int} {mine : Nat} (h : IsHand w b base st mine) : w.cell? ⟨b, 2, none⟩ = some (.int .i64 st) := by rw [Blk.cell h]; rfl
theorem IsHand.c3 {w : World} {b : Nat} {base st : Int} {mine : Nat} (h : IsHand w b base st mine) : w.cell? ⟨b, 3, none⟩ = some (.int .u64 (mine : Nat)) := by rw [Blk.cell h]; rfl
theorem IsHand.chg {w w' : World} {S : List Nat} {b : Nat} {base st : Int} {mine : Nat} (h : IsHand w b base st mine) (hc : Chg S w w') (hb : b ∉ S) : IsHand w' b base st mine := Blk.chg h hc hb

theorem tnew_any (base : Int) (h0 : -1000 ≤ base) (h1 : base ≤ 1000) (w : World) :
    Calls Try.prog 8 #[.int .i64 base] w fun e w' => ∃ b, e = .returned (.pointer (some ⟨b, 0, none⟩)) ∧ IsHand w' b base 0 0 ∧ Chg [] w w' ∧ w.heap.size ≤ b := by
  go_enter Try.func8, Try.ntmps8
  go_wp2_with fail
  go_ret
  exact ⟨_, rfl, Blk.new _ _ _, (Chg.refl _ _).alloc _, Nat.le_refl _⟩
theorem holds_any (b : Nat) (base st : Int) (mine : Nat) (w : World) (h : IsHand w b base st mine) :
    Calls Try.prog 10 #[.pointer (some ⟨b, 0, none⟩)] w fun e w' => e = .returned (.bool (st == 2)) ∧ w = w' := by
  have c2 := h.c2
  go_enter Try.func10, Try.ntmps10
  go_wp2_with fail
  go_ret
  exact ⟨rfl, rfl⟩
theorem waits_any (b : Nat) (base st : Int) (mine : Nat) (w : World) (h : IsHand w b base st mine) :
    Calls Try.prog 9 #[.pointer (some ⟨b, 0, none⟩)] w fun e w' => e = .returned (.bool (st == 1)) ∧ w = w' := by
  have c2 := h.c2
  go_enter Try.func9, Try.ntmps9
  go_wp2_with fail
  go_ret
  exact ⟨rfl, rfl⟩
theorem mine_any (b : Nat) (base st : Int) (mine : Nat) (w : World) (h : IsHand w b base st mine) :
    Calls Try.prog 14 #[.pointer (some ⟨b, 0, none⟩)] w fun e w' => e = .returned (.int .u64 (mine : Nat)) ∧ w = w' := by
  have c3 := h.c3
  go_enter Try.func14, Try.ntmps14
  go_wp2_with fail
  go_ret
  exact ⟨rfl, rfl⟩
set_option maxHeartbeats 1000000 in
theorem step0_any (b : Nat) (base : Int) (mine : Nat) (w : World) (h : IsHand w b base 0 mine) (bm bw : Nat) (W : List Nat) (u : Nat) (hm : IsMem w bm bw W u) (h1 : b ≠ bm) (h2 : b ≠ bw) :
    Calls Try.prog 12 #[.pointer (some ⟨b, 0, none⟩), .pointer (some ⟨bm, 0, none⟩)] w fun e w' => e = .returned (.bool false) ∧
      IsHand w' b base 1 (getA W base) ∧ IsMem w' bm bw (setA W base ((getA W base + 1) % 18446744073709551616)) (tick W base u) ∧ Chg [b, bm, bw] w w' := by
  have c0 := h.c0
  have c2 := h.c2
  have HH := Lib.hid h
  clear h
  go_enter Try.func12, Try.ntmps12
  go_wp2_with fail
  go_step3
  go_wp2_with fail
  go_step3
  go_wp2_with fail
  refine (add_any bm bw W u _ hm base 1).mono ?_
  rintro e w2 ⟨rfl, M2, C2⟩
  have H2 := HH.out.chg C2 (by simp; exact ⟨h1, h2⟩)
  go_wp2_with (first
    | (refine wpList_val_store rfl 22 (.tmp 22) (.tmp 20) rfl b 3 rfl _ rfl _ _ H2 (by simp) (by kernel_rfl) rfl ?_; intro w3 B3 C3)
    | (refine wpList_val_store rfl 3 (.tmp 24) (.const (.int .i64 1)) rfl b 2 rfl _ rfl _ _ B3 (by simp) (by kernel_rfl) rfl ?_; intro w4 B4 C4)
    | (go_at_call 10; refine (holds_any b base 1 (getA W base) _ B4).mono ?_; rintro e w5 ⟨rfl, rfl⟩))
  rw [Exit.noGoto_ret]
  go_ret
  exact ⟨rfl, B4, (M2.chg C3 (by simp; exact h1.symm) (by simp; exact h2.symm)).chg C4 (by simp; exact h1.symm) (by simp; exact h2.symm),
    ((C2.mono (fun g hg => .inl (by simp at hg ⊢; omega))).then C3 (fun g hg => .inl (by simp at hg ⊢; omega))).then C4 (fun g hg => .inl (by simp at hg ⊢; omega))⟩
set_option maxHeartbeats 1000000 in
theorem step1_any (b : Nat) (base : Int) (mine : Nat) (w : World) (h : IsHand w b base 1 mine) (hm64 : mine < 18446744073709551616) (bm bw : Nat) (W : List Nat) (u : Nat) (hm : IsMem w bm bw W u) (h1 : b ≠ bm) (h2 : b ≠ bw) :
    Calls Try.prog 12 #[.pointer (some ⟨b, 0, none⟩), .pointer (some ⟨bm, 0, none⟩)] w fun e w' => e = .returned (.bool (decide (getA W (base + 1) = mine))) ∧
      IsHand w' b base (if getA W (base + 1) = mine then 2 else 1) mine ∧ IsMem w' bm bw W (tick W (base + 1) u) ∧ Chg [b, bm, bw] w w' := by
  have c1 := h.c1
  have c2 := h.c2
  have c3 := h.c3
  have HH := Lib.hid h
  clear h
  by_cases he : getA W (base + 1) = mine
  · rw [if_pos he, decide_eq_true he]
    have HL := Lib.hid (fun w hm => load_any bm bw W u w hm (base + 1))
    rw [he] at HL
    clear he
    go_enter Try.func12, Try.ntmps12
    go_wp2_with fail
    go_step3
    go_wp2_with fail
    go_step3
    go_wp2_with fail
    go_region_held3 (fun w' => w'.cell? ⟨b, 1, none⟩ = some (.int .i64 (base + 1)) ∧ w'.cell? ⟨b, 3, none⟩ = some (.int .u64 (mine : Nat))) (first | assumption | exact ⟨c1, c3⟩)
      (first
        | (go_at_call 15; refine (HL.out _ hm.drew).mono ?_; rintro e w2 ⟨rfl, M2, C2⟩; have H2 := HH.out.chg C2.undrew (by simp; exact h1); have k2 := And.intro H2.c1 H2.c3))
    go_wp2_with (first
      | (refine wpList_val_store rfl 3 (.tmp 40) (.const (.int .i64 2)) rfl b 2 rfl _ rfl _ _ H2 (by simp) (by kernel_rfl) rfl ?_; intro w4 B4 C4)
      | (go_at_call 10; refine (holds_any b base 2 mine _ B4).mono ?_; rintro e w5 ⟨rfl, rfl⟩))
    rw [Exit.noGoto_ret]
    go_ret
    exact ⟨rfl, B4, M2.chg C4 (by simp; exact h1.symm) (by simp; exact h2.symm),
      (C2.undrew.mono (fun g hg => .inl (by simp at hg ⊢; omega))).then C4 (fun g hg => .inl (by simp at hg ⊢; omega))⟩
  · rw [if_neg he, decide_eq_false he]
    have HL := Lib.hid (fun w hm => load_any bm bw W u w hm (base + 1))
    obtain ⟨gn, hgn⟩ : ∃ g, g = getA W (base + 1) := ⟨_, rfl⟩
    rw [← hgn] at HL he
    have e1 : ((gn : Int) == (mine : Int)) = false := by simp only [beq_eq_false_iff_ne, ne_eq]; omega
    have e2 : ((gn : Int) != (mine : Int)) = true := by rw [bne, e1]; rfl
    clear he hgn
    go_enter Try.func12, Try.ntmps12
    go_wp2_with fail
    go_step3
    go_wp2_with fail
    go_step3
    go_wp2_with fail
    go_region_held3 (fun w' => w'.cell? ⟨b, 1, none⟩ = some (.int .i64 (base + 1)) ∧ w'.cell? ⟨b, 3, none⟩ = some (.int .u64 (mine : Nat))) (first | assumption | exact ⟨c1, c3⟩)
      (first
        | (go_at_call 15; refine (HL.out _ hm.drew).mono ?_; rintro e w2 ⟨rfl, M2, C2⟩; have H2 := HH.out.chg C2.undrew (by simp; exact h1); have k2 := And.intro H2.c1 H2.c3))
    go_wp2_with (go_at_call 10; refine (holds_any b base 1 mine _ H2).mono ?_; rintro e w5 ⟨rfl, rfl⟩)
    rw [Exit.noGoto_ret]
    go_ret
    exact ⟨rfl, H2, M2, C2.undrew.mono (fun g hg => .inl (by simp at hg ⊢; omega))⟩
theorem step2_any (b : Nat) (base : Int) (mine : Nat) (w : World) (h : IsHand w b base 2 mine) (bm bw : Nat) (W : List Nat) (u : Nat) (hm : IsMem w bm bw W u) :
    Calls Try.prog 12 #[.pointer (some ⟨b, 0, none⟩), .pointer (some ⟨bm, 0, none⟩)] w fun e w' => e = .returned (.bool true) ∧ w = w' := by
  have c2 := h.c2
  have HH := Lib.hid h
  clear h
  go_enter Try.func12, Try.ntmps12
  go_wp2_with fail
  go_step3
  go_wp2_with fail
  go_step3
  go_wp2_with fail
  refine (holds_any b base 2 mine _ HH.out).mono ?_
  rintro e w5 ⟨rfl, rfl⟩
  go_wp2_with fail
  rw [Exit.noGoto_ret]
  go_ret
  exact ⟨rfl, rfl⟩
/-- A step. -/
theorem step_any (b : Nat) (base st : Int) (mine : Nat) (w : World) (h : IsHand w b base st mine) (hst : St st) (hm64 : mine < 18446744073709551616) (bm bw : Nat) (W : List Nat) (u : Nat) (hm : IsMem w bm bw W u) (h1 : b ≠ bm) (h2 : b ≠ bw) :
    Calls Try.prog 12 #[.pointer (some ⟨b, 0, none⟩), .pointer (some ⟨bm, 0, none⟩)] w fun e w' => e = .returned (.bool (decide (stS base W st mine = 2))) ∧
      IsHand w' b base (stS base W st mine) (stM base W st mine) ∧ IsMem w' bm bw (stW base W st) (stU base W u st) ∧ Chg [b, bm, bw] w w' := by
  rcases hst with rfl | rfl | rfl
  · exact (step0_any b base mine w h bm bw W u hm h1 h2).mono fun e w' hh => hh
  · refine (step1_any b base mine w h hm64 bm bw W u hm h1 h2).mono fun e w' ⟨he, hh⟩ => ⟨?_, hh⟩
    rw [he]
    show _ = Ending.returned (.bool (decide ((if getA W (base + 1) = mine then (2 : Int) else 1) = 2)))
    split <;> simp_all
  · exact (step2_any b base mine w h bm bw W u hm).mono fun e w' ⟨he, hw⟩ => by subst hw; exact ⟨he, h, hm, Chg.refl _ _⟩
set_option maxHeartbeats 1000000 in
theorem free_any (b : Nat) (base st : Int) (mine : Nat) (w : World) (h : IsHand w b base st mine) (hm64 : mine < 18446744073709551616) (bm bw : Nat) (W : List Nat) (u : Nat) (hm : IsMem w bm bw W u) (h1 : b ≠ bm) (h2 : b ≠ bw) :
    Calls Try.prog 11 #[.pointer (some ⟨b, 0, none⟩), .pointer (some ⟨bm, 0, none⟩)] w fun e w' => e = .returned (.bool (st == 2)) ∧
      IsHand w' b base (frS st) (frM st mine) ∧ IsMem w' bm bw (frW base W st mine) (frU base W u st) ∧ Chg [b, bm, bw] w w' := by
  have c1 := h.c1
  have c3 := h.c3
  have HH := Lib.hid h
  clear h
  by_cases he : st = 2
  · subst he
    rw [show frS 2 = 0 from rfl, show frM 2 mine = 0 from rfl, show frW base W 2 mine = setA W (base + 1) ((mine + 1) % 18446744073709551616) from rfl, show frU base W u 2 = tick W (base + 1) u from rfl]
    have ew : IntKind.u64.wrap ((mine : Int) + 1) = ((mine + 1) % 18446744073709551616 : Nat) := by rw [IntKind.wrap_u64]; rfl
    have hlt : (mine + 1) % 18446744073709551616 < 18446744073709551616 := Nat.mod_lt _ (by omega)
    obtain ⟨m1, hm1⟩ : ∃ m1, m1 = (mine + 1) % 18446744073709551616 := ⟨_, rfl⟩
    rw [← hm1] at ew hlt ⊢
    clear hm1
    go_enter Try.func11, Try.ntmps11
    go_wp2_with fail
    refine (holds_any b base 2 mine _ HH.out).mono ?_
    rintro e w5 ⟨rfl, rfl⟩
    go_wp2_with fail
    go_region_held3 (fun w' => w'.cell? ⟨b, 1, none⟩ = some (.int .i64 (base + 1)) ∧ w'.cell? ⟨b, 3, none⟩ = some (.int .u64 (mine : Nat))) (first | assumption | exact ⟨c1, c3⟩)
      (first
        | (go_at_call 7; refine (store_any bm bw W u _ hm.drew (base + 1) m1 hlt).mono ?_; rintro e w2 ⟨rfl, M2, C2⟩; have H2 := HH.out.chg C2.undrew (by simp; exact ⟨h1, h2⟩); have k2 := And.intro H2.c1 H2.c3))
    go_wp2_with (first
      | (refine wpList_val_store rfl 22 (.tmp 22) (.const (.int .u64 0)) rfl b 3 rfl _ rfl _ _ H2 (by simp) (by kernel_rfl) rfl ?_; intro w3 B3 C3)
      | (refine wpList_val_store rfl 3 (.tmp 24) (.const (.int .i64 0)) rfl b 2 rfl _ rfl _ _ B3 (by simp) (by kernel_rfl) rfl ?_; intro w4 B4 C4))
    go_ret
    exact ⟨rfl, B4, (M2.chg C3 (by simp; exact h1.symm) (by simp; exact h2.symm)).chg C4 (by simp; exact h1.symm) (by simp; exact h2.symm),
      ((C2.undrew.mono (fun g hg => .inl (by simp at hg ⊢; omega))).then C3 (fun g hg => .inl (by simp at hg ⊢; omega))).then C4 (fun g hg => .inl (by simp at hg ⊢; omega))⟩
  · have e1 : (st == 2) = false := by simpa using he
    rw [show frS st = st from if_neg he, show frM st mine = mine from if_neg he, show frW base W st mine = W from if_neg he, show frU base W u st = u from if_neg he, e1]
    have HD := Lib.hid (fun w h => holds_any b base st mine w h)
    rw [e1] at HD
    clear he e1
    go_enter Try.func11, Try.ntmps11
    go_wp2_with fail
    refine (HD.out _ HH.out).mono ?_
    rintro e w5 ⟨rfl, rfl⟩
    go_wp2_with fail
    go_ret
    exact ⟨rfl, HH.out, hm, Chg.refl _ _⟩
theorem partN_one {W : List Nat} {a : Int} (h : hasA W a = true) : partN W a 1 = [getA W a] := by
  obtain ⟨h0, h1⟩ := hasA_iff.1 h
  obtain ⟨k, rfl⟩ := Int.eq_ofNat_of_zero_le h0
  have hk : k < W.length := by omega
  rw [getA_yes hk]
  unfold partN partLo partHi
  rw [if_neg (by omega), if_neg (by omega)]
  simp only [Int.toNat_natCast, Int.toNat_one]
  rw [List.take_succ_eq_append_getElem hk, List.drop_append_of_le_length (by rw [List.length_take]; omega), List.drop_eq_nil_of_le (by rw [List.length_take]; omega), List.nil_append]
theorem partN_no {W : List Nat} {a : Int} (h : hasA W a = false) : partN W a 1 = [] := by
  have h' : ¬ (0 ≤ a ∧ a < W.length) := fun hh => by rw [hasA_iff.2 hh] at h; cases h
  unfold partN partLo partHi
  rw [if_neg (by omega)]
  split
  · rw [show (1 + a).toNat = 0 from by omega]; simp
  · rw [List.drop_eq_nil_of_le (by rw [List.length_take]; omega)]
theorem ahead_any (bm bw : Nat) (W : List Nat) (u : Nat) (w : World) (h : IsMem w bm bw W u) (base : Int) (hb0 : -1000 ≤ base) (hb1 : base ≤ 1000) (t : Nat) (ht : t < 18446744073709551616) :
    Calls Try.prog 16 #[.pointer (some ⟨bm, 0, none⟩), .int .i64 base, .int .u64 (t : Nat)] w fun e w' => e = .returned (.int .u64 (aheadN W base t : Nat)) ∧ Chg [] w w' := by
  have HP := Lib.hid (part_any bm bw W u w h (base + 1) 1 (by omega) (by omega) (by omega) (by omega))
  by_cases hh : hasA W (base + 1) = true
  · rw [partN_one hh] at HP
    have hx := h.small.getA (base + 1)
    rw [show aheadN W base t = (t + (18446744073709551616 - getA W (base + 1))) % 18446744073709551616 from if_pos hh]
    obtain ⟨x, hxx⟩ : ∃ x, x = getA W (base + 1) := ⟨_, rfl⟩
    rw [← hxx] at HP hx ⊢
    have ew : IntKind.u64.wrap ((t : Int) - (x : Int)) = ((t + (18446744073709551616 - x)) % 18446744073709551616 : Nat) := by
      rw [IntKind.wrap_u64]; omega
    obtain ⟨r, hr⟩ : ∃ r, r = (t + (18446744073709551616 - x)) % 18446744073709551616 := ⟨_, rfl⟩
    rw [← hr] at ew ⊢
    clear hr hxx hh h
    go_enter Try.func16, Try.ntmps16
    go_wp2_with fail
    refine HP.out.mono ?_
    rintro e w1 ⟨v, rfl, O1, C1⟩
    obtain ⟨ao, cap, rfl, _, hc⟩ := O1.reads
    obtain ⟨g, off, rfl, c0⟩ := hc 0 _ rfl
    rw [Nat.add_zero] at c0
    simp only [words_len, List.length_cons, List.length_nil] at *
    clear hc O1
    go_wp2_with fail
    go_loopw [2, 14] (fun x2 x14 wr => ((x14 = .int .i64 0 ∧ x2 = .int .u64 (t : Nat)) ∨ (x14 = .int .i64 1 ∧ x2 = .int .u64 (r : Nat))) ∧ w1 = wr) (fun _ x14 _ => 1 - (intOf x14).toNat)
    case atStart => exact ⟨.inl ⟨rfl, rfl⟩, rfl⟩
    case round =>
      obtain ⟨⟨rfl, rfl⟩ | ⟨rfl, rfl⟩, rfl⟩ := hrel
      · go_wp2_with fail
        go_roundw
        case rel => exact ⟨.inr ⟨rfl, rfl⟩, trivial⟩
        case measure => simp [intOf]
      · go_wp2_with fail
        go_ret
        exact ⟨rfl, C1⟩
  · have hf : hasA W (base + 1) = false := by cases hq : hasA W (base + 1); rfl; exact absurd hq hh
    rw [partN_no hf] at HP
    rw [show aheadN W base t = t from if_neg hh]
    clear hf hh h
    go_enter Try.func16, Try.ntmps16
    go_wp2_with fail
    refine HP.out.mono ?_
    rintro e w1 ⟨v, rfl, O1, C1⟩
    obtain ⟨ao, cap, rfl, _, hc⟩ := O1.reads
    simp only [words_len, List.length_nil] at *
    clear hc O1
    go_wp2_with fail
    go_loopw [2, 14] (fun x2 x14 wr => (x14 = .int .i64 0 ∧ x2 = .int .u64 (t : Nat)) ∧ w1 = wr) (fun _ x14 _ => 1 - (intOf x14).toNat)
    case atStart => exact ⟨⟨rfl, rfl⟩, rfl⟩
    case round =>
      obtain ⟨⟨rfl, rfl⟩, rfl⟩ := hrel
      go_wp2_with fail
      go_ret
      exact ⟨rfl, C1⟩
end Go.Proofs.Ytifpfmoakgkdpaa
