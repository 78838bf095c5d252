/- kin: an end, and a reaping. -/
import Derived.Test.YtiidlbicdkmloaaKin2
namespace Bosun
def updK (c : Int → Option Nat) (z : Int) (v : Option Nat) : Int → Option Nat := fun y => if y = z then v else c y
end Bosun
namespace Go.Proofs.Ytiidlbicdkmloaa
open Go.RowKit Bosun Go.Maps
theorem codes_put {w' : World} {b n : Nat} {D : DataW Unit} {c : Int → Option Nat} {z : Int} {x : Nat} (ho : w'.ownsMap Try.prog 3 (plainElem Try.prog 25) b n (D.put (.int .i64 z) (.lit (.int .u64 (x : Nat))))) (hm : IsMap D)
    (hD : ∀ z : Int, -9223372036854775808 ≤ z → z ≤ 9223372036854775807 → Maps.has D (.int .i64 z) = (c z).isSome ∧ ∀ x : Nat, c z = some x → D.atKey (.int .i64 z) (.lit (.int .u64 0)) = .lit (.int .u64 (x : Nat))) : IsCodes w' b n (updK c z (some x)) := by
  refine ⟨_, ho, fun y h0 h1 => ?_⟩
  unfold updK
  by_cases e : y = z
  · subst e
    rw [if_pos rfl]
    exact ⟨has_put_same hm (show WideAt.IsKeyLit (.int .i64 y) from trivial) _, fun v hv => by cases hv; exact atKey_put_same hm (show WideAt.IsKeyLit (.int .i64 y) from trivial) _ _⟩
  · rw [if_neg e]
    have hne : (Lit.int .i64 y) ≠ (Lit.int .i64 z) := fun he => e (by injection he)
    rw [has_put_other hne]
    exact ⟨(hD y h0 h1).1, fun v hv => by rw [atKey_put_other hne]; exact (hD y h0 h1).2 v hv⟩
theorem codes_del {w' : World} {b n : Nat} {D : DataW Unit} {c : Int → Option Nat} {z : Int} (ho : w'.ownsMap Try.prog 3 (plainElem Try.prog 25) b n (D.del (.int .i64 z)))
    (hD : ∀ z : Int, -9223372036854775808 ≤ z → z ≤ 9223372036854775807 → Maps.has D (.int .i64 z) = (c z).isSome ∧ ∀ x : Nat, c z = some x → D.atKey (.int .i64 z) (.lit (.int .u64 0)) = .lit (.int .u64 (x : Nat))) : IsCodes w' b n (updK c z none) := by
  refine ⟨_, ho, fun y h0 h1 => ?_⟩
  unfold updK
  by_cases e : y = z
  · subst e
    rw [if_pos rfl]
    exact ⟨has_del_same, fun v hv => by cases hv⟩
  · rw [if_neg e]
    have hne : (Lit.int .i64 y) ≠ (Lit.int .i64 z) := fun he => e (by injection he)
    rw [has_del_other hne]
    exact ⟨(hD y h0 h1).1, fun v hv => by rw [atKey_del_other hne]; exact (hD y h0 h1).2 v hv⟩
theorem exit_no (kb mb n al lo : Nat) (c : Int → Option Nat) (w : World) (h : IsKin w kb mb n al lo c) (z : Int) (h0 : -9223372036854775808 ≤ z) (h1 : z ≤ 9223372036854775807) (code : Nat) (joined : Bool) (hn : wrongK al c z true ≠ 0) :
    Calls Try.prog 15 #[.pointer (some ⟨kb, 0, none⟩), .int .i64 z, .int .u64 (code : Nat), .bool joined] w fun e w' => e = .returned (.tuple #[.bool false, .int .i64 (wrongK al c z true)]) ∧ w = w' := by
  have HW := Lib.hid (wrong_any kb mb n al lo c w h z h0 h1 true)
  obtain ⟨q, hq⟩ : ∃ q, q = wrongK al c z true := ⟨_, rfl⟩
  rw [← hq] at HW hn ⊢
  have e1 : (q != 0) = true := by simpa using hn
  clear hq hn h
  go_enter Try.func15, Try.ntmps15
  go_wp2_with fail
  refine HW.out.mono ?_
  rintro e w1 ⟨rfl, rfl⟩
  go_wp2_with fail
  go_ret2
  exact ⟨rfl, rfl⟩
theorem reap_no (kb mb n al lo : Nat) (c : Int → Option Nat) (w : World) (h : IsKin w kb mb n al lo c) (z : Int) (h0 : -9223372036854775808 ≤ z) (h1 : z ≤ 9223372036854775807) (hn : wrongK al c z false ≠ 0) :
    Calls Try.prog 16 #[.pointer (some ⟨kb, 0, none⟩), .int .i64 z] w fun e w' => e = .returned (.tuple #[.int .u64 0, .int .i64 (wrongK al c z false)]) ∧ w = w' := by
  have HW := Lib.hid (wrong_any kb mb n al lo c w h z h0 h1 false)
  obtain ⟨q, hq⟩ : ∃ q, q = wrongK al c z false := ⟨_, rfl⟩
  rw [← hq] at HW hn ⊢
  have e1 : (q != 0) = true := by simpa using hn
  clear hq hn h
  go_enter Try.func16, Try.ntmps16
  go_wp2_with fail
  refine HW.out.mono ?_
  rintro e w1 ⟨rfl, rfl⟩
  go_wp2_with fail
  go_ret2
  exact ⟨rfl, rfl⟩
set_option maxHeartbeats 1000000 in
theorem reap_yes (kb mb n al lo : Nat) (c : Int → Option Nat) (w : World) (h : IsKin w kb mb n al lo c) (z : Int) (h0 : -9223372036854775808 ≤ z) (h1 : z ≤ 9223372036854775807) (hn : wrongK al c z false = 0) (x : Nat) (hx : c z = some x) :
    Calls Try.prog 16 #[.pointer (some ⟨kb, 0, none⟩), .int .i64 z] w fun e w' => e = .returned (.tuple #[.int .u64 (x : Nat), .int .i64 0]) ∧ IsKin w' kb mb n al lo (updK c z none) ∧ Chg [mb] w w' := by
  have HW := Lib.hid (wrong_any kb mb n al lo c w h z h0 h1 false)
  rw [hn] at HW
  have c2 := h.c2
  have HK := Lib.hid h
  obtain ⟨D, hown, hD⟩ := h.codes
  have hkey := keyOf_int_mk Try.underlying3 (wfI h0 h1)
  have hat := (hD z h0 h1).2 x hx
  have HA := Lib.hid hat
  have HO := Lib.hid hown
  have HD := Lib.hid hD
  clear h hn hx hat hown hD
  go_enter Try.func16, Try.ntmps16
  go_wp2_with fail
  refine HW.out.mono ?_
  rintro e w1 ⟨rfl, rfl⟩
  go_wp2_with (first
    | (at_lookup; refine wpList_lookup_own_int _ rfl _ _ 46 rfl 3 25 .u64 lawInt Try.underlying46 Try.underlying25 (zeroW _) mb n D rfl HO.out _ _ rfl hkey ?_; intro cc hcc hwc; obtain rfl : cc = (x : Int) := (by rw [HA.out] at hcc; injection hcc with h1; injection h1 with _ h2; exact h2.symm); clear hcc hwc)
    | (at_delete; refine wpList_delete_own _ rfl _ _ 46 3 rfl 25 lawInt Try.underlying46 _ mb n D rfl HO.out _ _ rfl hkey ?_; intro w2 hown2 hturn2))
  go_ret2
  have hc : Chg [mb] w w2 := Chg.of_grown hturn2.grown
  exact ⟨rfl, ⟨HK.out.head.chg hc (by simpa using HK.out.ne), codes_del hown2 HD.out, HK.out.ne, HK.out.al, HK.out.lo⟩, hc⟩
set_option maxHeartbeats 1000000 in
theorem exit_yes (kb mb n al lo : Nat) (c : Int → Option Nat) (w : World) (h : IsKin w kb mb n al lo c) (z : Int) (h0 : -9223372036854775808 ≤ z) (h1 : z ≤ 9223372036854775807) (code : Nat) (hcode : code < 18446744073709551616) (joined : Bool) (hn : wrongK al c z true = 0) (hcap : n < 1000000) :
    Calls Try.prog 15 #[.pointer (some ⟨kb, 0, none⟩), .int .i64 z, .int .u64 (code : Nat), .bool joined] w fun e w' => e = .returned (.tuple #[.bool (joined || (lo &&& bitN z != 0)), .int .i64 0]) ∧
      IsKin w' kb mb (n + 1) (lessN al z) lo (if (joined || (lo &&& bitN z != 0)) then c else updK c z (some code)) ∧ Chg [kb, mb] w w' := by
  have HW := Lib.hid (wrong_any kb mb n al lo c w h z h0 h1 true)
  rw [hn] at HW
  have c0 := h.c0
  have HK := Lib.hid h
  have HL := Lib.hid (swithout_any al h.al z h0 h1)
  have HH := Lib.hid (shas_any lo h.lo z h0 h1)
  have hkey := keyOf_int_mk Try.underlying3 (wfI h0 h1)
  have hwf : (Lit.int .u64 (code : Nat)).wf = true := WalkArith.wf_u64 (by omega)
  have HWF := Lib.hid hwf
  obtain ⟨q, hq⟩ : ∃ q, q = (lo &&& bitN z != 0) := ⟨_, rfl⟩
  rw [← hq] at HH ⊢
  clear h hn hq hwf
  go_enter Try.func15, Try.ntmps15
  go_wp2_with fail
  refine HW.out.mono ?_
  rintro e w1 ⟨rfl, rfl⟩
  go_wp2_with fail
  refine (HL.out _).mono ?_
  rintro e w1 ⟨rfl, rfl⟩
  cases joined with
  | true =>
    go_wp2_with (refine wpList_val_store rfl 25 (.tmp 25) (.tmp 23) rfl kb 0 rfl _ rfl _ _ HK.out.head (by simp) (by kernel_rfl) rfl ?_; intro w2 B2 C2)
    go_ret2
    exact ⟨rfl, ⟨B2, by obtain ⟨D, h1, h2⟩ := HK.out.codes.chg C2 (by simpa using HK.out.ne.symm); exact ⟨D, h1.mono (by omega), h2⟩, HK.out.ne, andN_lt HK.out.al, HK.out.lo⟩, C2.mono (fun g hg => .inl (by simp at hg; simp [hg]))⟩
  | false =>
    cases q with
    | true =>
      go_wp2_with (first
        | (refine wpList_val_store rfl 25 (.tmp 25) (.tmp 23) rfl kb 0 rfl _ rfl _ _ HK.out.head (by simp) (by kernel_rfl) rfl ?_; intro w2 B2 C2; have c1 : w2.cell? ⟨kb, 1, none⟩ = some (.int .u64 (lo : Nat)) := (by rw [B2.cell]; rfl))
        | (go_at_call 23; refine (HH.out _).mono ?_; rintro e w1 ⟨rfl, rfl⟩))
      go_ret2
      exact ⟨rfl, ⟨B2, by obtain ⟨D, h1, h2⟩ := HK.out.codes.chg C2 (by simpa using HK.out.ne.symm); exact ⟨D, h1.mono (by omega), h2⟩, HK.out.ne, andN_lt HK.out.al, HK.out.lo⟩, C2.mono (fun g hg => .inl (by simp at hg; simp [hg]))⟩
    | false =>
      obtain ⟨D, hown, hD⟩ := HK.out.codes
      have HOW := Lib.hid (fun w2 (C2 : Chg [kb] w w2) => show w2.ownsMap Try.prog 3 (plainElem Try.prog 25) mb n D from by
        obtain ⟨es, clock, hh, r⟩ := hown
        exact ⟨es, clock, (C2.block mb HK.out.codes.lt (by simpa using HK.out.ne.symm)).trans hh, r⟩)
      have HD := Lib.hid hD
      have HM := Lib.hid hown.isMap
      clear hown hD
      go_wp2_with (first
        | (refine wpList_val_store rfl 25 (.tmp 25) (.tmp 23) rfl kb 0 rfl _ rfl _ _ HK.out.head (by simp) (by kernel_rfl) rfl ?_; intro w2 B2 C2; have c1 : w2.cell? ⟨kb, 1, none⟩ = some (.int .u64 (lo : Nat)) := (by rw [B2.cell]; rfl); have c2 : w2.cell? ⟨kb, 2, none⟩ = some (.map (some mb)) := (by rw [B2.cell]; rfl))
        | (go_at_call 23; refine (HH.out _).mono ?_; rintro e w1 ⟨rfl, rfl⟩)
        | (at_mapUpdate; refine wpList_mapUpdate_own _ rfl _ _ _ 46 rfl 3 25 lawInt Try.underlying46 _ mb n D rfl (HOW.out w2 C2) (by unfold maxLen; omega) _ _ _ rfl rfl hkey _ [] (plainElem_int Try.underlying25 HWF.out) ?_; intro w3 hown3 hg3))
      go_ret2
      have hc : Chg [mb] w2 w3 := Chg.of_grown hg3
      exact ⟨rfl, ⟨B2.chg hc (by simpa using HK.out.ne), codes_put hown3 HM.out HD.out, HK.out.ne, andN_lt HK.out.al, HK.out.lo⟩, (C2.mono (fun g hg => .inl (by simp at hg; simp [hg]))).then hc (fun g hg => .inl (by simp at hg; simp [hg]))⟩
end Go.Proofs.Ytiidlbicdkmloaa
