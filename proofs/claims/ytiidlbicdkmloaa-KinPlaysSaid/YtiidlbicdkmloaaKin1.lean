/- kin: the program's state; is a place's thread over? -/
import Derived.Test.YtiidlbicdkmloaaKinS
import Derived.Maps.OwnSet
import Derived.Deep.QuietTactic
import Derived.BigQuiet
namespace Go.Proofs.Ytiidlbicdkmloaa
open Go.RowKit Bosun Go.Maps
theorem lawInt : Keyed Try.prog 3 := int_keyed Try.underlying3
theorem zeroW (w : World) : (zeroValue 25).run Try.prog w = .ok (.int .u64 0) w := by kernel_rfl
theorem wfI {z : Int} (h0 : -9223372036854775808 ≤ z) (h1 : z ≤ 9223372036854775807) : (Lit.int .i64 z).wf = true := WalkArith.wf_i64 (by omega)
/-- Block b is a map of at most n entries that tells c. -/
def IsCodes (w : World) (b n : Nat) (c : Int → Option Nat) : Prop :=
  ∃ D : DataW Unit, w.ownsMap Try.prog 3 (plainElem Try.prog 25) b n D ∧ ∀ z : Int, -9223372036854775808 ≤ z → z ≤ 9223372036854775807 → Maps.has D (.int .i64 z) = (c z).isSome ∧ ∀ x : Nat, c z = some x → D.atKey (.int .i64 z) (.lit (.int .u64 0)) = .lit (.int .u64 (x : Nat))
theorem IsCodes.chg {w w1 : World} {b n : Nat} {c : Int → Option Nat} (h : IsCodes w b n c) {S : List Nat} (hc : Chg S w w1) (hb : b ∉ S) : IsCodes w1 b n c := by
  obtain ⟨D, h1, h2⟩ := h
  have hlt := h1.lt
  obtain ⟨es, clock, hh, r⟩ := h1
  exact ⟨D, ⟨es, clock, (hc.block b hlt hb).trans hh, r⟩, h2⟩
theorem IsCodes.lt {w : World} {b n : Nat} {c : Int → Option Nat} (h : IsCodes w b n c) : b < w.heap.size := by
  obtain ⟨D, h1, _⟩ := h
  exact h1.lt
structure IsKin (w : World) (kb mb n : Nat) (al lo : Nat) (c : Int → Option Nat) : Prop where
  head : Blk w kb #[.int .u64 (al : Nat), .int .u64 (lo : Nat), .map (some mb)] 48
  codes : IsCodes w mb n c
  ne : kb ≠ mb
  al : al < 18446744073709551616
  lo : lo < 18446744073709551616
theorem IsKin.chg {w w1 : World} {kb mb n al lo : Nat} {c : Int → Option Nat} (h : IsKin w kb mb n al lo c) {S : List Nat} (hc : Chg S w w1) (h1 : kb ∉ S) (h2 : mb ∉ S) : IsKin w1 kb mb n al lo c :=
  ⟨h.head.chg hc h1, h.codes.chg hc h2, h.ne, h.al, h.lo⟩
theorem IsKin.c0 {w : World} {kb mb n al lo : Nat} {c : Int → Option Nat} (h : IsKin w kb mb n al lo c) : w.cell? ⟨kb, 0, none⟩ = some (.int .u64 (al : Nat)) := by rw [h.head.cell]; rfl
theorem IsKin.c1 {w : World} {kb mb n al lo : Nat} {c : Int → Option Nat} (h : IsKin w kb mb n al lo c) : w.cell? ⟨kb, 1, none⟩ = some (.int .u64 (lo : Nat)) := by rw [h.head.cell]; rfl
theorem IsKin.c2 {w : World} {kb mb n al lo : Nat} {c : Int → Option Nat} (h : IsKin w kb mb n al lo c) : w.cell? ⟨kb, 2, none⟩ = some (.map (some mb)) := by rw [h.head.cell]; rfl
theorem knew_any (w : World) :
    Calls Try.prog 6 #[] w fun e w' => ∃ kb mb, e = .returned (.pointer (some ⟨kb, 0, none⟩)) ∧ IsKin w' kb mb 0 0 0 (fun _ => none) ∧ Chg [] w w' ∧ w.heap.size ≤ kb ∧ w.heap.size ≤ mb := by
  have hmm := @run_makeMap Try.prog
  go_enter Try.func6, Try.ntmps6
  go_wp2_with fail
  go_ret
  refine ⟨_, _, rfl, ⟨by have := Blk.new (w.alloc (.map #[] 0)) #[.int .u64 0, .int .u64 0, .map (some w.heap.size)] 48; simpa using this, ⟨.map [], World.ownsMap.alloc (World.ownsMap_made _ _ _ _) _, fun z _ _ => ⟨rfl, fun x hx => by cases hx⟩⟩, by simp, by decide, by decide⟩, ((Chg.refl _ _).alloc _).alloc _, by simp, by simp⟩
theorem over_any (kb mb n al lo : Nat) (c : Int → Option Nat) (w : World) (h : IsKin w kb mb n al lo c) (z : Int) (h0 : -9223372036854775808 ≤ z) (h1 : z ≤ 9223372036854775807) :
    Calls Try.prog 21 #[.pointer (some ⟨kb, 0, none⟩), .int .i64 z] w fun e w' => e = .returned (.bool (c z).isSome) ∧ w = w' := by
  have c2 := h.c2
  obtain ⟨D, hown, hD⟩ := h.codes
  have hkey := keyOf_int_mk Try.underlying3 (wfI h0 h1)
  have hz := (hD z h0 h1).1
  obtain ⟨q, hq⟩ : ∃ q, q = (c z).isSome := ⟨_, rfl⟩
  rw [← hq] at hz ⊢
  have HZ := Lib.hid hz
  have HO := Lib.hid hown
  clear hD h hz hq hown
  go_enter Try.func21, Try.ntmps21
  go_wp2_with (at_lookup; refine wpList_lookup_own_ok_int _ rfl _ _ 46 rfl 3 25 .u64 lawInt Try.underlying46 Try.underlying25 (zeroW _) mb n D rfl HO.out _ _ rfl hkey ?_; intro cc hat hwc; rw [HZ.out])
  go_ret
  exact ⟨rfl, rfl⟩
/-- What is wrong with a place whose thread should be alive, or over. -/
def wrongK (al : Nat) (c : Int → Option Nat) (z : Int) (alive : Bool) : Int :=
  if ¬ (0 ≤ z ∧ z < 64) then 5 else if (al &&& bitN z != 0) = false ∧ (c z).isSome = false then 7 else if (c z).isSome = alive then 14 else 0
theorem wrong_any (kb mb n al lo : Nat) (c : Int → Option Nat) (w : World) (h : IsKin w kb mb n al lo c) (z : Int) (h0 : -9223372036854775808 ≤ z) (h1 : z ≤ 9223372036854775807) (alive : Bool) :
    Calls Try.prog 25 #[.pointer (some ⟨kb, 0, none⟩), .int .i64 z, .bool alive] w fun e w' => e = .returned (.int .i64 (wrongK al c z alive)) ∧ w = w' := by
  have c0 := h.c0
  have HH := Lib.hid (shas_any al h.al z h0 h1)
  have HO := Lib.hid (over_any kb mb n al lo c w h z h0 h1)
  by_cases hr : 0 ≤ z ∧ z < 64
  · have hw : wrongK al c z alive = if (al &&& bitN z != 0) = false ∧ (c z).isSome = false then 7 else if (c z).isSome = alive then 14 else 0 := by unfold wrongK; rw [if_neg (by omega)]
    rw [hw]
    obtain ⟨hb, hhb⟩ : ∃ q, q = (al &&& bitN z != 0) := ⟨_, rfl⟩
    obtain ⟨ov, hov⟩ : ∃ q, q = (c z).isSome := ⟨_, rfl⟩
    rw [← hhb] at HH ⊢
    rw [← hov] at HO ⊢
    have d1 : decide (z < 0) = false := by simp; omega
    have d2 : decide (64 ≤ z) = false := by simp; omega
    clear hw hhb hov h hr
    cases hb <;> cases ov <;> cases alive
    all_goals
      go_enter Try.func25, Try.ntmps25
      go_wp2_with (first
        | (go_at_call 23; refine (HH.out _).mono ?_; rintro e w1 ⟨rfl, rfl⟩)
        | (go_at_call 21; refine HO.out.mono ?_; rintro e w1 ⟨rfl, rfl⟩))
      go_ret
      exact ⟨rfl, rfl⟩
  · have hw : wrongK al c z alive = 5 := by unfold wrongK; rw [if_pos hr]
    rw [hw]
    rcases (show z < 0 ∨ (decide (z < 0) = false ∧ 64 ≤ z) by simp; omega) with g | ⟨g, g2⟩
    all_goals
      clear hw hr h
      go_enter Try.func25, Try.ntmps25
      go_wp2_with fail
      go_ret
      exact ⟨rfl, rfl⟩
end Go.Proofs.Ytiidlbicdkmloaa
