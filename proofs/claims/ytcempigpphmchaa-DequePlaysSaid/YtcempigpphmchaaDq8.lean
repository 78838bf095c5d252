/- deque: the page's example; a work that is nil. -/
import Derived.Test.YtcempigpphmchaaDq7
import Derived.KernelRfl
namespace Go.Proofs.Ytcempigpphmchaa
open Go.RowKit Bosun
theorem ev1 : itD 8 (newD 0 4 0 7, List.replicate 6 0, 0) = (⟨0, 4, 0, 4, 0, 0, 7, false, true, 0⟩, [0, 1, 7, 0, 0, 0], 4) := by kernel_rfl
theorem ev2 : stepD (newD 0 4 2 0) [0, 1, 7, 0, 0, 0] 4 = (⟨0, 4, 2, 1, 0, 0, 0, false, false, 0⟩, [0, 1, 7, 0, 0, 0], 5) := by kernel_rfl
theorem ev3 : stepD ⟨0, 4, 2, 1, 0, 0, 0, false, false, 0⟩ [0, 1, 7, 0, 0, 0] 5 = (⟨0, 4, 2, 2, 1, 0, 0, false, false, 0⟩, [0, 1, 7, 0, 0, 0], 6) := by kernel_rfl
theorem ev4 : stepD ⟨0, 4, 2, 2, 1, 0, 0, false, false, 0⟩ [0, 1, 7, 0, 0, 0] 6 = (⟨0, 4, 2, 3, 1, 0, 7, false, false, 0⟩, [0, 1, 7, 0, 0, 0], 7) := by kernel_rfl
theorem ev5 : itD 8 (newD 0 4 1 0, [0, 1, 7, 0, 0, 0], 7) = (⟨0, 4, 1, 6, 0, 0, 7, true, true, 0⟩, [1, 1, 7, 0, 0, 0], 13) := by kernel_rfl
theorem ev6 : stepD ⟨0, 4, 2, 3, 1, 0, 7, false, false, 0⟩ [1, 1, 7, 0, 0, 0] 13 = (⟨0, 4, 2, 4, 1, 0, 7, false, true, 8⟩, [1, 1, 7, 0, 0, 0], 14) := by kernel_rfl
theorem p4 : Pow2 4 := ⟨2, by omega, rfl⟩
set_option maxHeartbeats 4000000 in
theorem awake_any (w : World) :
    Calls Try.prog 22 #[] w fun e w' => e = .returned (.bool true) ∧ Chg [] w w' := by
  have okN : ∀ k x, k ≤ 2 → x < 100 → OkOp (newD 0 4 k x) := fun k x h1 h2 => OkOp.new (by omega) (by omega) p4 h1 (by omega)
  have OKN := Lib.hid okN
  clear okN
  go_enter Try.func22, Try.ntmps22
  go_wp2_with fail
  refine (new_any 6 6 rfl _).mono ?_
  rintro e w1 ⟨bm, bw, rfl, M1, C1, g1, g2⟩
  go_wp2_with fail
  refine (at_any 0 4 (by omega) (by omega) _).mono ?_
  rw [show ((holdN 4 : Nat) : Int) = 4 from by decide +kernel]
  rintro e w2 ⟨rfl, C2⟩
  have M2 := M1.keep C2
  have z2 := C2.size
  go_wp2_with fail
  obtain ⟨w3, hw3⟩ : ∃ w3, w3 = w2.alloc (.cells #[.int .i64 0, .int .i64 4] 33) := ⟨_, rfl⟩
  have D3 : Blk w3 w2.heap.size #[.int .i64 0, .int .i64 4] 33 := by rw [hw3]; exact Blk.new _ _ _
  have C3 : Chg [] w2 w3 := by rw [hw3]; exact (Chg.refl _ _).alloc _
  rw [← hw3]
  have M3 := M2.keep C3
  have C13 := (C1.then C2 (by simp)).then C3 (by simp)
  obtain ⟨db, hdb⟩ : ∃ db, db = w2.heap.size := ⟨_, rfl⟩
  rw [← hdb] at D3 ⊢
  have q1 := M2.head.lt
  have q2 := M2.row.lt
  have q3 : bm < db ∧ bw < db := by omega
  have q4 : w.heap.size ≤ db := by have := C1.size; omega
  clear hw3 hdb M1 M2 C1 C2 C3 z2 q1 q2
  refine (opush_any 0 4 7 w3).mono ?_
  rintro e w4 ⟨ga, rfl, H4, C4, g4⟩
  have s3 := D3.lt
  have M4 := M3.keep C4
  have HA := Lib.hid (all_any ga (newD 0 4 0 7) w4 H4 (OKN.out 0 7 (by omega) (by omega)) bm bw (List.replicate 6 0) 0 M4 (by omega) (by omega))
  rw [ev1] at HA
  go_wp2_with fail
  refine HA.out.mono ?_
  rintro e w5 ⟨rfl, H5, -, M5, C5⟩
  have D5 := (D3.chg C4 (by simp)).chg C5 (by simp; omega)
  have d50 : w5.cell? ⟨db, 0, none⟩ = some (.int .i64 0) := D5.cell 0
  have d51 : w5.cell? ⟨db, 1, none⟩ = some (.int .i64 4) := D5.cell 1
  have z4 := C4.size
  have z5 := C5.size
  go_wp2_with fail
  refine (osteal_any 0 4 w5).mono ?_
  rintro e w6 ⟨gs, rfl, H6, C6, g6⟩
  have s6 := H6.lt
  have HS1 := Lib.hid (step_any gs (newD 0 4 2 0) w6 H6 (OKN.out 2 0 (by omega) (by omega)) bm bw _ _ (M5.keep C6) (by omega) (by omega))
  unfold Stepped at HS1
  rw [ev2] at HS1
  go_wp2_with fail
  refine HS1.out.mono ?_
  rintro e w7 ⟨rfl, H7, M7, C7⟩
  have ok7 : OkOp ⟨0, 4, 2, 1, 0, 0, 0, false, false, 0⟩ := okMk (by decide) (fun _ => by decide) (fun _ => rfl) p4 (by omega) (by omega) (by omega) (by omega) (by omega) (by decide) (by decide) (by decide)
  have HS2 := Lib.hid (step_any gs _ w7 H7 ok7 bm bw _ _ M7 (by omega) (by omega))
  unfold Stepped at HS2
  try dsimp only at HS2
  rw [ev3] at HS2
  go_wp2_with fail
  refine HS2.out.mono ?_
  rintro e w8 ⟨rfl, H8, M8, C8⟩
  have ok8 : OkOp ⟨0, 4, 2, 2, 1, 0, 0, false, false, 0⟩ := okMk (by decide) (fun _ => by decide) (fun _ => rfl) p4 (by omega) (by omega) (by omega) (by omega) (by omega) (by decide) (by decide) (by decide)
  have HS3 := Lib.hid (step_any gs _ w8 H8 ok8 bm bw _ _ M8 (by omega) (by omega))
  unfold Stepped at HS3
  try dsimp only at HS3
  rw [ev4] at HS3
  go_wp2_with fail
  refine HS3.out.mono ?_
  rintro e w9 ⟨rfl, H9, M9, C9⟩
  have D9 := ((((D5.chg C6 (by simp)).chg C7 (by simp; omega)).chg C8 (by simp; omega)).chg C9 (by simp; omega))
  have d90 : w9.cell? ⟨db, 0, none⟩ = some (.int .i64 0) := D9.cell 0
  have d91 : w9.cell? ⟨db, 1, none⟩ = some (.int .i64 4) := D9.cell 1
  have z6 := C6.size
  have z7 := C7.size
  have z8 := C8.size
  have z9 := C9.size
  clear HS1 HS2 HS3 d50 d51 ok7 ok8
  go_wp2_with fail
  refine (opop_any 0 4 w9).mono ?_
  rintro e w10 ⟨gp, rfl, H10, C10, g10⟩
  have M10 := M9.keep C10
  have HP := Lib.hid (all_any gp (newD 0 4 1 0) w10 H10 (OKN.out 1 0 (by omega) (by omega)) bm bw _ _ M10 (by omega) (by omega))
  try dsimp only at HP
  rw [ev5] at HP
  go_wp2_with fail
  refine HP.out.mono ?_
  rintro e w11 ⟨rfl, H11, -, M11, C11⟩
  clear HP
  have HR := Lib.hid (result_any gp _ w11 H11)
  go_wp2_with fail
  refine HR.out.mono ?_
  rintro e w12 ⟨rfl, C12⟩
  have H9' := ((H9.chg C10 (by simp)).chg C11 (by simp; omega)).chg C12 (by simp)
  have M12 := M11.keep C12
  have H11' := H11.chg C12 (by simp)
  have ok9 : OkOp ⟨0, 4, 2, 3, 1, 0, 7, false, false, 0⟩ := okMk (by decide) (fun _ => by decide) (fun _ => rfl) p4 (by omega) (by omega) (by omega) (by omega) (by omega) (by decide) (by decide) (by decide)
  have HS4 := Lib.hid (step_any gs _ w12 H9' ok9 bm bw _ _ M12 (by omega) (by omega))
  unfold Stepped at HS4
  try dsimp only at HS4
  rw [ev6] at HS4
  clear HR
  go_wp2_with fail
  refine HS4.out.mono ?_
  rintro e w13 ⟨rfl, H13, M13, C13'⟩
  have HR2 := Lib.hid (result_any gs _ w13 H13)
  clear HS4
  go_wp2_with fail
  refine HR2.out.mono ?_
  rintro e w14 ⟨rfl, C14⟩
  have H14 := (H11'.chg C13' (by simp; omega)).chg C14 (by simp)
  have HT := Lib.hid (steps_any gp _ w14 H14)
  have HW := Lib.hid (words_any 4 (by omega) (by omega) w14)
  rw [show ((holdN 4 : Nat) : Int) = 4 from by decide +kernel] at HW
  clear HR2
  go_wp2_with (first
    | (go_at_call 43; refine HT.out.mono ?_; rintro e w15 ⟨rfl, rfl⟩)
    | (go_at_call 11; refine HW.out.mono ?_; rintro e w15 ⟨rfl, rfl⟩))
  go_ret
  have z3 := C13.size
  refine ⟨rfl, ?_⟩
  have t4 := C13.then C4 (by simp)
  have t5 := t4.then C5 (fun g hg => .inr (by simp at hg; omega))
  have t6 := t5.then C6 (by simp)
  have t7 := t6.then C7 (fun g hg => .inr (by simp at hg; omega))
  have t8 := t7.then C8 (fun g hg => .inr (by simp at hg; omega))
  have t9 := t8.then C9 (fun g hg => .inr (by simp at hg; omega))
  have t10 := t9.then C10 (by simp)
  have t11 := t10.then C11 (fun g hg => .inr (by simp at hg; omega))
  have t12 := t11.then C12 (by simp)
  have t13 := t12.then C13' (fun g hg => .inr (by simp at hg; omega))
  exact t13.then C14 (by simp)
end Go.Proofs.Ytcempigpphmchaa
