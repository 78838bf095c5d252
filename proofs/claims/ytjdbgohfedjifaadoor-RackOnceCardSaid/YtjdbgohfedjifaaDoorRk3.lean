/- rack: Best. -/
import Derived.Test.YtjdbgohfedjifaaDoorRk2
import Derived.Laws.BitsAllLaws
namespace Bosun
open Go
theorem least256 : ∀ x : Fin 256, x.val ≠ 0 → leastI x.val = ((leastTo x.val 8 0 : Nat) : Int) := by decide +kernel
theorem least256_lt : ∀ x : Fin 256, x.val ≠ 0 → leastTo x.val 8 0 < 8 := by decide +kernel
theorem or256 {a b : Nat} (ha : a < 256) (hb : b < 256) : a ||| b < 256 := by
  have : a ||| b < 2 ^ 8 := Nat.or_lt_two_pow (by omega) (by omega)
  simpa using this
theorem bestR_zero {r : RRack} (h : r.s0 ||| r.s1 = 0) : bestR r = 8 := by unfold bestR; rw [h]; rfl
end Bosun
namespace Go.Proofs.YtjdbgohfedjifaaDoor
open Go.RowKit Bosun
set_option maxHeartbeats 4000000 in
theorem best_any (rb : Nat) (r : RRack) (W : World) (hr : IsRk W rb r) (ok : OkRack r) (hT : TabW W) :
    Calls Tryd.prog 14 #[.pointer (some ⟨rb, 0, none⟩)] W fun x W' => x = .returned (.int .i64 (bestR r : Nat)) ∧ Chg [] W W' := by
  have d0 : W.cell? ⟨rb, 33, none⟩ = some (.int .u64 (r.s0 : Nat)) := hr.cset (k := 0) (by omega)
  have d1 : W.cell? ⟨rb, 34, none⟩ = some (.int .u64 (r.s1 : Nat)) := hr.cset (k := 1) (by omega)
  have b1 : bits .or .u64 (r.s0 : Int) (r.s1 : Int) = ((r.s0 ||| r.s1 : Nat) : Int) := u64_or_nat _ _ ok.s0 ok.s1
  have hlt := or256 ok.z0 ok.z1
  have HT := Lib.hid hT
  obtain ⟨x, hx⟩ : ∃ x, x = r.s0 ||| r.s1 := ⟨_, rfl⟩
  rw [← hx] at b1 hlt
  have HL := Lib.hid (fun w (h : TabW w) => least_any x (by omega) w h)
  have hbz : x = 0 → bestR r = 8 := fun h => bestR_zero (by rw [← hx]; exact h)
  have hbn : x ≠ 0 → leastI x = ((bestR r : Nat) : Int) := fun h => by have h2 := least256 ⟨x, hlt⟩ h; simp only at h2; unfold bestR; rw [← hx]; exact h2
  have HZ := Lib.hid hbz
  have HN := Lib.hid hbn
  obtain ⟨a, ha⟩ : ∃ a, a = r.s0 := ⟨_, rfl⟩
  obtain ⟨b, hb⟩ : ∃ b, b = r.s1 := ⟨_, rfl⟩
  rw [← ha] at d0 b1
  rw [← hb] at d1 b1
  clear hr ok hT hx ha hb hbz hbn
  go_enter Tryd.func14, Tryd.ntmps14
  by_cases h0 : x = 0
  · have e0 : ((x : Int) == 0) = true := by simp [h0]
    have H0 := Lib.hid h0
    clear h0
    go_wp2_with fail
    go_region_held3 (fun w' => w'.cell? ⟨rb, 33, none⟩ = some (.int .u64 (a : Nat)) ∧ w'.cell? ⟨rb, 34, none⟩ = some (.int .u64 (b : Nat))) (first | assumption | exact ⟨d0, d1⟩ | fail) (fail)
    go_wp2_with fail
    go_ret
    exact ⟨by rw [HZ.out H0.out]; rfl, (Chg.refl _ _).drew⟩
  · have e0 : ((x : Int) == 0) = false := by simp; omega
    have H0 := Lib.hid h0
    clear h0
    go_wp2_with fail
    go_region_held3 (fun w' => w'.cell? ⟨rb, 33, none⟩ = some (.int .u64 (a : Nat)) ∧ w'.cell? ⟨rb, 34, none⟩ = some (.int .u64 (b : Nat))) (first | assumption | exact ⟨d0, d1⟩ | fail) (fail)
    go_wp2_with fail
    go_region_held3 (fun w' => w'.cell? ⟨rb, 33, none⟩ = some (.int .u64 (a : Nat)) ∧ w'.cell? ⟨rb, 34, none⟩ = some (.int .u64 (b : Nat))) (first | assumption | exact ⟨d0, d1⟩ | fail)
      (first | (go_at_call 42; refine (HL.out _ (TabW.keep HT.out (Chg.refl _ _).drew.drew)).mono ?_; rintro e w2 ⟨rfl, rfl⟩) | fail)
    go_wp2_with fail
    go_ret
    exact ⟨congrArg (fun z => Ending.returned (Value.int .i64 z)) (HN.out H0.out), (Chg.refl _ _).drew.drew⟩
end Go.Proofs.YtjdbgohfedjifaaDoor
