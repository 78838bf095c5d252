/- kin: what a birth, an end and a reaping do. -/
import Derived.Test.YtiidlbicdkmloaaKin1
import Derived.Deep.RegionWith
import Derived.Deep.RegionHeld3
namespace Go.Proofs.Ytiidlbicdkmloaa
open Go.RowKit Bosun Go.Maps
def bornOk (al : Nat) (c : Int → Option Nat) (z : Int) : Bool := decide (0 ≤ z ∧ z < 64) && !(al &&& bitN z != 0) && !(c z).isSome
def lessN (s : Nat) (z : Int) : Nat := s &&& (18446744073709551615 - bitN z)
theorem orN_lt {s b : Nat} (h : s < 18446744073709551616) (hb : b < 18446744073709551616) : s ||| b < 18446744073709551616 := Nat.or_lt_two_pow (n := 64) h hb
theorem andN_lt {s b : Nat} (h : s < 18446744073709551616) : s &&& b < 18446744073709551616 := Nat.lt_of_le_of_lt Nat.and_le_left h
set_option maxHeartbeats 2000000 in
theorem born_yes (kb mb n al lo : Nat) (c : Int → Option Nat) (w : World) (h : IsKin w kb mb n al lo c) (z : Int) (h0 : 0 ≤ z) (h1 : z < 64) (hb : (al &&& bitN z != 0) = false) (ho : (c z).isSome = false) (loose : Bool) :
    Calls Try.prog 14 #[.pointer (some ⟨kb, 0, none⟩), .int .i64 z, .bool loose] w fun e w' => e = .returned (.bool true) ∧ IsKin w' kb mb n (al ||| bitN z) (if loose then lessN lo z ||| bitN z else lessN lo z) c ∧ Chg [kb] w w' := by
  have c0 := h.c0
  have c1 := h.c1
  have f0 := h.head.frozen 0
  have f1 := h.head.frozen 1
  have HH := Lib.hid (shas_any al h.al z (by omega) (by omega))
  have HO := Lib.hid (over_any kb mb n al lo c w h z (by omega) (by omega))
  have HW := Lib.hid (swith_any al h.al z (by omega) (by omega))
  have HL := Lib.hid (swithout_any lo h.lo z (by omega) (by omega))
  rw [hb] at HH
  rw [ho] at HO
  have HK := Lib.hid h
  clear hb ho h
  go_enter Try.func14, Try.ntmps14
  go_wp2_with (first
    | (go_at_call 23; refine (HH.out _).mono ?_; rintro e w1 ⟨rfl, rfl⟩)
    | (go_at_call 21; refine HO.out.mono ?_; rintro e w1 ⟨rfl, rfl⟩))
  go_region_with (first
    | (go_at_call 22; refine (HW.out _).mono ?_; rintro e w1 ⟨rfl, rfl⟩)
    | (go_at_call 24; refine (HL.out _).mono ?_; rintro e w1 ⟨rfl, rfl⟩))
  all_goals
    have HL2 := Lib.hid (swith_any (lessN lo z) (andN_lt HK.out.lo) z (by omega) (by omega))
    cases loose with
    | true =>
      go_wp2_with (go_at_call 22; refine (HL2.out _).mono ?_; rintro e w1 ⟨rfl, rfl⟩)
      go_ret
      have hc := fun a b c => (((Chg.refl [kb] w).setCell (a := ⟨kb, 0, none⟩) (.inl (by simp)) a).setCell (a := ⟨kb, 1, none⟩) (.inl (by simp)) b).setCell (a := ⟨kb, 1, none⟩) (.inl (by simp)) c
      exact ⟨rfl, ⟨(((HK.out.head.setCell 0 _).setCell 1 _).setCell 1 _).drew, HK.out.codes.chg (hc _ _ _).drew (by simpa using HK.out.ne.symm), HK.out.ne, orN_lt HK.out.al (bitN_lt z), orN_lt (andN_lt HK.out.lo) (bitN_lt z)⟩, (hc _ _ _).drew⟩
    | false =>
      go_wp2_with fail
      go_ret
      have hc := fun a b => ((Chg.refl [kb] w).setCell (a := ⟨kb, 0, none⟩) (.inl (by simp)) a).setCell (a := ⟨kb, 1, none⟩) (.inl (by simp)) b
      exact ⟨rfl, ⟨((HK.out.head.setCell 0 _).setCell 1 _).drew, HK.out.codes.chg (hc _ _).drew (by simpa using HK.out.ne.symm), HK.out.ne, orN_lt HK.out.al (bitN_lt z), andN_lt HK.out.lo⟩, (hc _ _).drew⟩
theorem born_no (kb mb n al lo : Nat) (c : Int → Option Nat) (w : World) (h : IsKin w kb mb n al lo c) (z : Int) (h0 : -9223372036854775808 ≤ z) (h1 : z ≤ 9223372036854775807) (hn : ¬ (0 ≤ z ∧ z < 64) ∨ (al &&& bitN z != 0) = true ∨ (c z).isSome = true) (loose : Bool) :
    Calls Try.prog 14 #[.pointer (some ⟨kb, 0, none⟩), .int .i64 z, .bool loose] w fun e w' => e = .returned (.bool false) ∧ w = w' := by
  have c0 := h.c0
  have HH := Lib.hid (shas_any al h.al z h0 h1)
  have HO := Lib.hid (over_any kb mb n al lo c w h z h0 h1)
  by_cases hr : 0 ≤ z ∧ z < 64
  · obtain ⟨hb, hhb⟩ : ∃ q, q = (al &&& bitN z != 0) := ⟨_, rfl⟩
    obtain ⟨ov, hov⟩ : ∃ q, q = (c z).isSome := ⟨_, rfl⟩
    rw [← hhb] at HH hn
    rw [← hov] at HO hn
    have d1 : decide (z < 0) = false := by simp; omega
    have d2 : decide (64 ≤ z) = false := by simp; omega
    have hq : hb = true ∨ (hb = false ∧ ov = true) := by
      rcases hn with e | e | e
      · exact absurd hr e
      · exact .inl e
      · cases hb; exact .inr ⟨rfl, e⟩; exact .inl rfl
    clear hhb hov h hr hn
    rcases hq with rfl | ⟨rfl, rfl⟩
    all_goals
      go_enter Try.func14, Try.ntmps14
      go_wp2_with (first
        | (go_at_call 23; refine (HH.out _).mono ?_; rintro e w1 ⟨rfl, rfl⟩)
        | (go_at_call 21; refine HO.out.mono ?_; rintro e w1 ⟨rfl, rfl⟩))
      go_ret
      exact ⟨rfl, rfl⟩
  · rcases (show z < 0 ∨ (decide (z < 0) = false ∧ 64 ≤ z) by simp; omega) with g | ⟨g, g2⟩
    all_goals
      clear hr h hn
      go_enter Try.func14, Try.ntmps14
      go_wp2_with fail
      go_ret
      exact ⟨rfl, rfl⟩
end Go.Proofs.Ytiidlbicdkmloaa
