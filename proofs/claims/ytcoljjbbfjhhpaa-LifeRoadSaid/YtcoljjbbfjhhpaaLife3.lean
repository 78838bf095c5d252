/- life: Walk, the page's Walk, Waits, Queued, and whether a number is a state. -/
import Derived.Test.YtcoljjbbfjhhpaaLife2
import Derived.Test.YtcoljjbbfjhhpaaSame
namespace Go.Proofs.Ytcoljjbbfjhhpaa
open Go.RowKit Bosun

theorem waits_any (s : Int) (w : World) :
    Calls Try.prog 8 #[.int .i64 s] w fun e w' => e = .returned (.bool (decide (3 ≤ s ∧ s ≤ 5))) ∧ w = w' := by
  rcases (show (3 ≤ s ∧ s ≤ 5) ∨ (3 ≤ s ∧ decide (s ≤ 5) = false) ∨ decide (3 ≤ s) = false by
    by_cases a : 3 ≤ s
    · by_cases b : s ≤ 5
      · exact .inl ⟨a, b⟩
      · exact .inr (.inl ⟨a, by simp; omega⟩)
    · exact .inr (.inr (by simp; omega))) with ⟨a, b⟩ | ⟨a, b⟩ | a
  · rw [show decide (3 ≤ s ∧ s ≤ 5) = true from by simp; omega]
    go_enter Try.func8, Try.ntmps8
    go_wp2_with fail
    go_ret
    exact ⟨rfl, rfl⟩
  · rw [show decide (3 ≤ s ∧ s ≤ 5) = false from by simp at b ⊢; omega]
    go_enter Try.func8, Try.ntmps8
    go_wp2_with fail
    go_ret
    exact ⟨rfl, rfl⟩
  · rw [show decide (3 ≤ s ∧ s ≤ 5) = false from by simp at a ⊢; omega]
    go_enter Try.func8, Try.ntmps8
    go_wp2_with fail
    go_ret
    exact ⟨rfl, rfl⟩

theorem is_any (s : Int) (w : World) :
    Calls Try.prog 22 #[.int .i64 s] w fun e w' => e = .returned (.bool (decide (0 ≤ s ∧ s < 7))) ∧ w = w' := by
  rcases (show (0 ≤ s ∧ s < 7) ∨ (0 ≤ s ∧ decide (s < 7) = false) ∨ decide (0 ≤ s) = false by
    by_cases a : 0 ≤ s
    · by_cases b : s < 7
      · exact .inl ⟨a, b⟩
      · exact .inr (.inl ⟨a, by simp; omega⟩)
    · exact .inr (.inr (by simp; omega))) with ⟨a, b⟩ | ⟨a, b⟩ | a
  · rw [show decide (0 ≤ s ∧ s < 7) = true from by simp; omega]
    go_enter Try.func22, Try.ntmps22
    go_wp2_with fail
    go_ret
    exact ⟨rfl, rfl⟩
  · rw [show decide (0 ≤ s ∧ s < 7) = false from by simp at b ⊢; omega]
    go_enter Try.func22, Try.ntmps22
    go_wp2_with fail
    go_ret
    exact ⟨rfl, rfl⟩
  · rw [show decide (0 ≤ s ∧ s < 7) = false from by simp at a ⊢; omega]
    go_enter Try.func22, Try.ntmps22
    go_wp2_with fail
    go_ret
    exact ⟨rfl, rfl⟩

/-- Where moves lead one behind the other, and how many are made. -/
def _root_.Bosun.walkL (s : Int) : List Int → Int × Nat
  | [] => (s, 0)
  | m :: r => match goes s m with
    | none => (s, 0)
    | some x => ((walkL x r).1, (walkL x r).2 + 1)
theorem walkL_none {s m : Int} {l : List Int} {k : Nat} (hk : k < l.length) (hm : l[k] = m) (h : goes s m = none) : walkL s (l.drop k) = (s, 0) := by
  rw [List.drop_eq_getElem_cons hk, hm]; simp [walkL, h]
theorem walkL_some {s m x : Int} {l : List Int} {k : Nat} (hk : k < l.length) (hm : l[k] = m) (h : goes s m = some x) : walkL s (l.drop k) = ((walkL x (l.drop (k + 1))).1, (walkL x (l.drop (k + 1))).2 + 1) := by
  rw [List.drop_eq_getElem_cons hk, hm]; simp [walkL, h]

theorem walk_any (s : Int) (v : Value) (l : List Int) (w : World) (hr : Reads w v (ints l)) :
    Calls Try.prog 16 #[.int .i64 s, v] w fun e w' => e = .returned (.tuple #[.int .i64 (walkL s l).1, .int .i64 ((walkL s l).2 : Nat)]) ∧ Chg [] w w' := by
  obtain ⟨ao, cap, rfl, hm, hc⟩ := hr
  rw [ints_len] at hm ⊢
  unfold maxLen at hm
  obtain ⟨R, hR⟩ : ∃ R, R = walkL s l := ⟨_, rfl⟩
  rw [← hR]
  have H0 := Lib.hid hR
  have HC := Lib.hid hc
  clear hR hc
  go_enter Try.func16, Try.ntmps16
  go_wp2_with fail
  go_loopw [0, 12] (fun x i wr => ∃ (t : Int) (k : Nat), k ≤ l.length ∧ x = .int .i64 t ∧ i = .int .i64 k ∧ R = ((walkL t (l.drop k)).1, (walkL t (l.drop k)).2 + k) ∧ Chg [] w wr)
    (fun _ i _ => l.length - (intOf i).toNat)
  case atStart => exact ⟨s, 0, by omega, rfl, rfl, H0.out, Chg.refl _ _⟩
  case round =>
    obtain ⟨t, k, hk, rfl, rfl, ht, H⟩ := hrel
    have HT := Lib.hid ht
    clear ht
    by_cases hkl : k < l.length
    · obtain ⟨g, off, rfl, hcell⟩ := HC.out k _ (ints_get l hkl)
      have hcell' : wr.cell? ⟨g, off + k, none⟩ = some (.int .i64 l[k]) := by
        rw [World.cell?_of_block (w := w) (H.block g (World.block_lt_of_cell? w _ hcell) (by simp)), hcell]
      obtain ⟨m, hm'⟩ : ∃ m, m = l[k] := ⟨_, rfl⟩
      rw [← hm'] at hcell'
      have HM := Lib.hid hm'
      clear hcell hm'
      go_wp2_with fail
      refine (next_any t m _).mono ?_
      rintro e w2 ⟨rfl, C2⟩
      cases hg : goes t m with
      | none =>
        have hw : R = (t, k) := by rw [HT.out, walkL_none hkl HM.out.symm hg]; simp
        clear hg
        subst hw
        simp only [Option.getD_none, Option.isSome_none]
        go_wp2_with fail
        go_ret2
        exact ⟨rfl, H.then C2 (by simp)⟩
      | some x =>
        have HW := Lib.hid (walkL_some hkl HM.out.symm hg)
        clear hg
        simp only [Option.getD_some, Option.isSome_some]
        go_wp2_with fail
        go_roundw
        case rel => exact ⟨x, k + 1, by omega, rfl, by go_num, by rw [HT.out, HW.out]; simp; omega, H.then C2 (by simp)⟩
        case measure => simp [intOf] <;> omega
    · obtain rfl : k = l.length := by omega
      have hw : R = (t, l.length) := by rw [HT.out, List.drop_length]; simp [walkL]
      subst hw
      go_wp2_with fail
      go_ret2
      exact ⟨rfl, H⟩
theorem rwalk_any (s : Int) (v : Value) (l : List Int) (w : World) (hr : Reads w v (ints l)) :
    Calls Try.prog 17 #[.int .i64 s, v] w fun e w' => e = .returned (.tuple #[.int .i64 (walkL s l).1, .int .i64 ((walkL s l).2 : Nat)]) ∧ Chg [] w w' := by
  obtain ⟨ao, cap, rfl, hm, hc⟩ := hr
  rw [ints_len] at hm ⊢
  unfold maxLen at hm
  obtain ⟨R, hR⟩ : ∃ R, R = walkL s l := ⟨_, rfl⟩
  rw [← hR]
  have H0 := Lib.hid hR
  have HC := Lib.hid hc
  clear hR hc
  go_enter Try.func17, Try.ntmps17
  go_wp2_with fail
  go_loopw [0, 6] (fun x i wr => ∃ (t : Int) (k : Nat), k ≤ l.length ∧ x = .int .i64 t ∧ i = .int .i64 k ∧ R = ((walkL t (l.drop k)).1, (walkL t (l.drop k)).2 + k) ∧ Chg [] w wr)
    (fun _ i _ => l.length - (intOf i).toNat)
  case atStart => exact ⟨s, 0, by omega, rfl, rfl, H0.out, Chg.refl _ _⟩
  case round =>
    obtain ⟨t, k, hk, rfl, rfl, ht, H⟩ := hrel
    have HT := Lib.hid ht
    clear ht
    by_cases hkl : k < l.length
    · obtain ⟨g, off, rfl, hcell⟩ := HC.out k _ (ints_get l hkl)
      have hcell' : wr.cell? ⟨g, off + k, none⟩ = some (.int .i64 l[k]) := by
        rw [World.cell?_of_block (w := w) (H.block g (World.block_lt_of_cell? w _ hcell) (by simp)), hcell]
      obtain ⟨m, hm'⟩ : ∃ m, m = l[k] := ⟨_, rfl⟩
      rw [← hm'] at hcell'
      have HM := Lib.hid hm'
      clear hcell hm'
      go_wp2_with fail
      refine (rnext_any t m _).mono ?_
      rintro e w2 ⟨⟨tx, rfl, htx⟩, rfl⟩
      cases hg : goes t m with
      | none =>
        have hw : R = (t, k) := by rw [HT.out, walkL_none hkl HM.out.symm hg]; simp
        clear hg htx
        subst hw
        simp only [Option.isSome_none]
        go_wp2_with fail
        go_ret2
        exact ⟨rfl, H⟩
      | some x =>
        have HW := Lib.hid (walkL_some hkl HM.out.symm hg)
        obtain rfl := htx x hg
        clear hg htx
        simp only [Option.isSome_some]
        go_wp2_with fail
        go_roundw
        case rel => exact ⟨tx, k + 1, by omega, rfl, by go_num, by rw [HT.out, HW.out]; simp; omega, H⟩
        case measure => simp [intOf] <;> omega
    · obtain rfl : k = l.length := by omega
      have hw : R = (t, l.length) := by rw [HT.out, List.drop_length]; simp [walkL]
      subst hw
      go_wp2_with fail
      go_ret2
      exact ⟨rfl, H⟩
end Go.Proofs.Ytcoljjbbfjhhpaa
