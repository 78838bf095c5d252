/- rack: sign, mark, Best. -/
import Derived.Test.YtjdbgohfedjifaaGreatDoorRkA
namespace Bosun
open Go
theorem put_put (s : Nat) (i : Int) (a b : Bool) : put (put s i a) i b = put s i b := by
  apply Nat.eq_of_testBit_eq
  intro j
  simp only [put_testBit]
  by_cases hj : j < 64
  · by_cases e : (j : Int) = i <;> simp [hj, e]
  · simp [hj]
end Bosun
namespace Go.Proofs.YtjdbgohfedjifaaGreatDoor
open Go.RowKit Bosun
set_option maxHeartbeats 4000000 in
theorem sign_any (wb rb : Nat) (gv : Value) (ob : Option Nat) (wk : RWork) (r : RRack) (W : World) (h : IsWk W wb rb gv ob wk) (hr : IsRk W rb r) (ok : OkRack r) (bm bw : Nat) (M : List Nat) (u : Nat) (hm : IsMem W bm bw M u) :
    Calls Tryz.prog 122 #[.pointer (some ⟨wb, 0, none⟩), .pointer (some ⟨bm, 0, none⟩)] W fun x W' => x = .returned (.tuple #[]) ∧ IsMem W' bm bw (setA M r.base r.s0) (tick M r.base u) ∧ Chg [bm, bw] W W' := by
  have c0 : W.cell? ⟨wb, 0, none⟩ = some (.pointer (some ⟨rb, 0, none⟩)) := by rw [Blk.cell h]; rfl
  have d0 := hr.c0
  have d1 : W.cell? ⟨rb, 33, none⟩ = some (.int .u64 (r.s0 : Nat)) := hr.cset (k := 0) (by omega)
  have HS := Lib.hid (fun (w' : World) (hm' : IsMem w' bm bw M u) => store_any bm bw M u w' hm' r.base r.s0 ok.s0)
  have HK := Lib.hid (fun (w' : World) (C : Chg [bm, bw] W w') => show w'.cell? ⟨wb, 0, none⟩ = some (.pointer (some ⟨rb, 0, none⟩)) ∧ w'.cell? ⟨rb, 0, none⟩ = some (.int .i64 r.base) ∧ w'.cell? ⟨rb, 33, none⟩ = some (.int .u64 (r.s0 : Nat)) by
    have h' : IsWk w' wb rb gv ob wk := Blk.chg h C (by simp; exact ⟨blk_ne h hm.head (by decide), blk_ne h hm.row (by decide)⟩)
    have r' : IsRk w' rb r := Blk.chg hr C (by simp; exact ⟨blk_ne hr hm.head (by decide), blk_ne hr hm.row (by decide)⟩)
    exact ⟨by rw [Blk.cell h']; rfl, r'.c0, r'.cset (k := 0) (by omega)⟩)
  have HM := Lib.hid hm
  clear h hr hm ok
  go_enter Tryz.func122, Tryz.ntmps122
  go_wp2_with fail
  go_region_held3 (fun w' => w'.cell? ⟨wb, 0, none⟩ = some (.pointer (some ⟨rb, 0, none⟩)) ∧ w'.cell? ⟨rb, 0, none⟩ = some (.int .i64 r.base) ∧ w'.cell? ⟨rb, 33, none⟩ = some (.int .u64 (r.s0 : Nat)))
    (first | assumption | exact ⟨c0, d0, d1⟩ | fail)
    (first | (go_at_call 128; refine (HS.out _ HM.out.drew).mono ?_; rintro e w2 ⟨rfl, M2, C2⟩; have k2 := HK.out w2 C2.undrew) | fail)
  go_wp2_with fail
  go_end0
  exact ⟨rfl, M2, C2.undrew⟩
set_option maxHeartbeats 4000000 in
theorem mark_any (wb rb : Nat) (gv : Value) (ob : Option Nat) (wk : RWork) (r : RRack) (W : World) (b : Bool) (h : IsWk W wb rb gv ob wk) (hr : IsRk W rb r) (hk : wk.kind < 2) (hl : wk.level < 8) (ok : OkRack r) :
    Calls Tryz.prog 97 #[.pointer (some ⟨wb, 0, none⟩), .bool b] W fun x W' => x = .returned (.bool (decide (put (r.set wk.kind) wk.level b ≠ r.set wk.kind ∧ wk.kind = 0))) ∧ IsRk W' rb (r.put wk.kind (put (r.set wk.kind) wk.level b)) ∧ Chg [rb] W W' := by
  have hs : r.set wk.kind < 18446744073709551616 := by unfold RRack.set; split; exact ok.s0; exact ok.s1
  have hp := put_put (r.set wk.kind) wk.level false true
  have hkb : wk.kind = 0 ∨ wk.kind = 1 := by omega
  obtain ⟨k, hkk⟩ : ∃ k, k = wk.kind := ⟨_, rfl⟩
  obtain ⟨l, hll⟩ : ∃ l, l = wk.level := ⟨_, rfl⟩
  have c0 : W.cell? ⟨wb, 0, none⟩ = some (.pointer (some ⟨rb, 0, none⟩)) := by rw [Blk.cell h]; rfl
  have c4 : W.cell? ⟨wb, 4, none⟩ = some (.int .i64 (l : Nat)) := by rw [Blk.cell h, hll]; rfl
  have c5 : W.cell? ⟨wb, 5, none⟩ = some (.int .i64 (k : Nat)) := by rw [Blk.cell h, hkk]; rfl
  have d1 : W.cell? ⟨rb, 33 + k, none⟩ = some (.int .u64 (r.set k : Nat)) := hr.cset (by omega)
  have dz : W.frozen? ⟨rb, 33 + k, none⟩ = false := Blk.frozen hr _
  rw [← hkk, ← hll] at hp
  rw [← hkk] at hs hk hkb
  rw [← hll] at hl
  rw [← hkk, ← hll]
  have BN := Lib.hid (fun x : Nat => Blk.setCell hr (33 + k) (.int .u64 (x : Nat)))
  obtain ⟨s, hss⟩ : ∃ s, s = r.set k := ⟨_, rfl⟩
  rw [← hss] at hs hp d1 ⊢
  have ho := put_lt s (l : Int) false
  have HO := Lib.hid (fun w => without_any s hs (l : Int) (by omega) (by omega) w)
  have HI := Lib.hid (fun w => with_any (put s l false) ho (l : Int) (by omega) (by omega) w)
  rw [hp] at HI
  have hki : (k : Int) < 2 := by omega
  have hk0 : (0 : Int) ≤ (k : Int) := by omega
  have hwr : wb ≠ rb := blk_ne h hr (by decide)
  have HKB := Lib.hid hkb
  clear h hr hkk hll hss hp ho hl hk hkb
  go_enter Tryz.func97, Tryz.ntmps97
  go_wp2_with fail
  go_region_held3 (fun w' => w'.cell? ⟨wb, 0, none⟩ = some (.pointer (some ⟨rb, 0, none⟩)) ∧ w'.cell? ⟨wb, 4, none⟩ = some (.int .i64 (l : Nat)) ∧ w'.cell? ⟨wb, 5, none⟩ = some (.int .i64 (k : Nat)) ∧ w'.cell? ⟨rb, 33 + k, none⟩ = some (.int .u64 (s : Nat)))
    (first | assumption | exact ⟨c0, c4, c5, d1⟩ | fail)
    (first | (go_at_call 120; refine (HO.out _).mono ?_; rintro e w2 ⟨rfl, rfl⟩) | fail)
  cases b
  · go_upto_region 4 with (fail)
    obtain ⟨y, hy⟩ : ∃ y, y = put s (l : Int) false := ⟨_, rfl⟩
    have hy0 := hy
    rw [← hy]
    have d2 := d1
    have HYE := Lib.hid hy0
    clear hy HO HI hy0
    go_region_held3 (fun w' => w'.cell? ⟨wb, 0, none⟩ = some (.pointer (some ⟨rb, 0, none⟩)) ∧ w'.cell? ⟨wb, 5, none⟩ = some (.int .i64 (k : Nat)) ∧ w'.cell? ⟨rb, 33 + k, none⟩ = some (.int .u64 (s : Nat)))
      (first | assumption | exact ⟨c0, c5, d2⟩ | fail) (fail)
    go_wp2_with fail
    go_big_region
    have B2 : IsRk (W.setCell ⟨rb, 33 + k, none⟩ (.int .u64 (y : Nat))).drew.drew.drew rb (r.put k y) := by
      have h := BN.out y
      rw [rackRow_put r (by omega)] at h
      exact h
    have C2 : Chg [rb] W (W.setCell ⟨rb, 33 + k, none⟩ (.int .u64 (y : Nat))).drew.drew.drew := (((Chg.refl _ _).setCell (.inl (by simp)) _).drew.drew).drew
    have c6 : (W.setCell ⟨rb, 33 + k, none⟩ (.int .u64 (y : Nat))).drew.drew.drew.cell? ⟨wb, 5, none⟩ = some (.int .i64 (k : Nat)) := by
      have h : (W.setCell ⟨rb, 33 + k, none⟩ (.int .u64 (y : Nat))).cell? ⟨wb, 5, none⟩ = W.cell? ⟨wb, 5, none⟩ := World.cell?_setCell_far _ _ _ _ (Ne.symm hwr)
      exact h.trans c5
    obtain ⟨w6, hw6⟩ : ∃ w6, w6 = (W.setCell ⟨rb, 33 + k, none⟩ (.int .u64 (y : Nat))).drew.drew.drew := ⟨_, rfl⟩
    rw [← hw6] at B2 C2 c6 ⊢
    clear hw6 c0 c4 c5 d1 d2 dz
    by_cases hys : y = s
    · have e1 : ((y : Int) != (s : Int)) = false := by simp [hys]
      have HY := Lib.hid hys
      clear hys
      go_wp2_with fail
      go_ret
      rw [← HYE.out]
      exact ⟨ret_bool (by simp [HY.out]), B2, C2⟩
    · have e1 : ((y : Int) != (s : Int)) = true := by simp; omega
      have HY := Lib.hid hys
      clear hys
      go_wp2_with fail
      go_ret
      rw [← HYE.out]
      exact ⟨ret_bool (by have := HY.out; rcases HKB.out with rfl | rfl <;> simp [this]), B2, C2⟩
  · go_upto_region 4 with (first | (go_at_call 121; refine (HI.out _).mono ?_; rintro e w2 ⟨rfl, rfl⟩) | fail)
    obtain ⟨y, hy⟩ : ∃ y, y = put s (l : Int) true := ⟨_, rfl⟩
    have hy0 := hy
    rw [← hy]
    have d2 := d1
    have HYE := Lib.hid hy0
    clear hy HO HI hy0
    go_region_held3 (fun w' => w'.cell? ⟨wb, 0, none⟩ = some (.pointer (some ⟨rb, 0, none⟩)) ∧ w'.cell? ⟨wb, 5, none⟩ = some (.int .i64 (k : Nat)) ∧ w'.cell? ⟨rb, 33 + k, none⟩ = some (.int .u64 (s : Nat)))
      (first | assumption | exact ⟨c0, c5, d2⟩ | fail) (fail)
    go_wp2_with fail
    go_big_region
    have B2 : IsRk (W.setCell ⟨rb, 33 + k, none⟩ (.int .u64 (y : Nat))).drew.drew.drew rb (r.put k y) := by
      have h := BN.out y
      rw [rackRow_put r (by omega)] at h
      exact h
    have C2 : Chg [rb] W (W.setCell ⟨rb, 33 + k, none⟩ (.int .u64 (y : Nat))).drew.drew.drew := (((Chg.refl _ _).setCell (.inl (by simp)) _).drew.drew).drew
    have c6 : (W.setCell ⟨rb, 33 + k, none⟩ (.int .u64 (y : Nat))).drew.drew.drew.cell? ⟨wb, 5, none⟩ = some (.int .i64 (k : Nat)) := by
      have h : (W.setCell ⟨rb, 33 + k, none⟩ (.int .u64 (y : Nat))).cell? ⟨wb, 5, none⟩ = W.cell? ⟨wb, 5, none⟩ := World.cell?_setCell_far _ _ _ _ (Ne.symm hwr)
      exact h.trans c5
    obtain ⟨w6, hw6⟩ : ∃ w6, w6 = (W.setCell ⟨rb, 33 + k, none⟩ (.int .u64 (y : Nat))).drew.drew.drew := ⟨_, rfl⟩
    rw [← hw6] at B2 C2 c6 ⊢
    clear hw6 c0 c4 c5 d1 d2 dz
    by_cases hys : y = s
    · have e1 : ((y : Int) != (s : Int)) = false := by simp [hys]
      have HY := Lib.hid hys
      clear hys
      go_wp2_with fail
      go_ret
      rw [← HYE.out]
      exact ⟨ret_bool (by simp [HY.out]), B2, C2⟩
    · have e1 : ((y : Int) != (s : Int)) = true := by simp; omega
      have HY := Lib.hid hys
      clear hys
      go_wp2_with fail
      go_ret
      rw [← HYE.out]
      exact ⟨ret_bool (by have := HY.out; rcases HKB.out with rfl | rfl <;> simp [this]), B2, C2⟩
end Go.Proofs.YtjdbgohfedjifaaGreatDoor
