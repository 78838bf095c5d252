/- rack: of nil; the walk of RackNil. -/
import Derived.Test.YtjdbgohfedjifaaDoorRk12
namespace Go.Proofs.YtjdbgohfedjifaaDoor
open Go.RowKit Bosun
theorem nSets (w : World) : Calls Tryd.prog 26 #[.pointer none] w fun e w' => e = .returned (.tuple #[.int .u64 0, .int .u64 0]) ∧ w = w' := by
  go_enter Tryd.func26, Tryd.ntmps26
  go_wp2_with fail
  go_ret2
  exact ⟨rfl, rfl⟩
theorem nResult (w : World) : Calls Tryd.prog 24 #[.pointer none] w fun e w' => e = .returned (.tuple #[.int .u64 0, .int .i64 8, .int .i64 14]) ∧ w = w' := by
  go_enter Tryd.func24, Tryd.ntmps24
  go_wp2_with fail
  go_ret3
  exact ⟨rfl, rfl⟩
theorem nHeld (w : World) : Calls Tryd.prog 27 #[.pointer none] w fun e w' => e = .returned (.tuple #[.int .u64 0, .bool false]) ∧ w = w' := by
  go_enter Tryd.func27, Tryd.ntmps27
  go_wp2_with fail
  go_ret2
  exact ⟨rfl, rfl⟩
theorem nClaimed (m : Value) (w : World) : Calls Tryd.prog 28 #[.pointer none, m] w fun e w' => e = .returned (.tuple #[.int .u64 0, .bool false]) ∧ w = w' := by
  go_enter Tryd.func28, Tryd.ntmps28
  go_wp2_with fail
  go_ret2
  exact ⟨rfl, rfl⟩
theorem nBest (w : World) : Calls Tryd.prog 14 #[.pointer none] w fun e w' => e = .returned (.int .i64 8) ∧ Chg [] w w' := by
  go_enter Tryd.func14, Tryd.ntmps14
  go_wp2_with fail
  go_region
  go_wp2_with fail
  go_ret
  exact ⟨rfl, (Chg.refl _ _).drew⟩
theorem nPut (a b c d : Value) (w : World) : Calls Tryd.prog 11 #[.pointer none, a, b, c, d] w fun e w' => e = .returned (.pointer none) ∧ w = w' := by
  go_enter Tryd.func11, Tryd.ntmps11
  go_wp2_with fail
  go_ret
  exact ⟨rfl, rfl⟩
theorem nTake (w : World) : Calls Tryd.prog 13 #[.pointer none] w fun e w' => e = .returned (.pointer none) ∧ w = w' := by
  go_enter Tryd.func13, Tryd.ntmps13
  go_wp2_with fail
  go_ret
  exact ⟨rfl, rfl⟩
theorem nRob (a : Value) (w : World) : Calls Tryd.prog 29 #[.pointer none, a] w fun e w' => e = .returned (.pointer none) ∧ w = w' := by
  go_enter Tryd.func29, Tryd.ntmps29
  go_wp2_with fail
  go_ret
  exact ⟨rfl, rfl⟩
theorem nShed (w : World) : Calls Tryd.prog 30 #[.pointer none] w fun e w' => e = .returned (.pointer none) ∧ w = w' := by
  go_enter Tryd.func30, Tryd.ntmps30
  go_wp2_with fail
  go_ret
  exact ⟨rfl, rfl⟩
theorem nAll (m : Value) (w : World) : Calls Tryd.prog 20 #[.pointer none, m] w fun e w' => e = .returned (.slice none 0 0) ∧ w = w' := by
  go_enter Tryd.func20, Tryd.ntmps20
  go_wp2_with fail
  go_ret
  exact ⟨rfl, rfl⟩
theorem nStep (m : Value) (w : World) : Calls Tryd.prog 23 #[.pointer none, m] w fun e w' => e = .returned (.bool false) ∧ w = w' := by
  go_enter Tryd.func23, Tryd.ntmps23
  go_wp2_with fail
  go_ret
  exact ⟨rfl, rfl⟩
theorem nSteps (w : World) : Calls Tryd.prog 31 #[.pointer none] w fun e w' => e = .returned (.int .i64 0) ∧ w = w' := by
  go_enter Tryd.func31, Tryd.ntmps31
  go_wp2_with fail
  go_ret
  exact ⟨rfl, rfl⟩
theorem dhold1 (w : World) : Calls Tryd.prog 32 #[.int .i64 1] w fun e w' => e = .returned (.int .i64 1) ∧ w = w' := by
  go_enter Tryd.func32, Tryd.ntmps32
  go_wp2_with fail
  go_loopw [3] (fun x wr => x = .int .i64 1 ∧ w = wr) (fun _ _ => 0)
  case atStart => exact ⟨rfl, rfl⟩
  case round =>
    obtain ⟨rfl, rfl⟩ := hrel
    go_wp2_with fail
    go_ret
    exact ⟨rfl, rfl⟩
set_option maxHeartbeats 4000000 in
theorem rackNil_walk (w : World) (hT : TabW w) (x : Nat) (_ : x < 18446744073709551616) (l : Int) (_ : -9223372036854775808 ≤ l) (_ : l ≤ 9223372036854775807) :
    Calls Tryd.prog 6 #[.int .u64 (x : Nat), .int .i64 l] w fun e w' => e = .returned (.bool true) ∧ Chg [] w w' := by
  have HT := Lib.hid hT
  clear hT
  go_enter Tryd.func6, Tryd.ntmps6
  go_wp2_with fail
  refine (new_any 2 2 rfl _).mono ?_
  rintro e w1 ⟨bm, bw, rfl, M1, C1, g1, g2⟩
  clear g1 g2 M1
  go_wp2_with (first
    | (go_at_call 26; refine (nSets _).mono ?_; rintro e w2 ⟨rfl, rfl⟩)
    | (go_at_call 24; refine (nResult _).mono ?_; rintro e w2 ⟨rfl, rfl⟩)
    | (go_at_call 27; refine (nHeld _).mono ?_; rintro e w2 ⟨rfl, rfl⟩)
    | (go_at_call 28; refine (nClaimed _ _).mono ?_; rintro e w2 ⟨rfl, rfl⟩)
    | (go_at_call 14; refine (nBest _).mono ?_; rintro e w2 ⟨rfl, C2⟩)
    | (go_at_call 11; refine (nPut _ _ _ _ _).mono ?_; rintro e w2 ⟨rfl, rfl⟩)
    | (go_at_call 13; refine (nTake _).mono ?_; rintro e w2 ⟨rfl, rfl⟩)
    | (go_at_call 29; refine (nRob _ _).mono ?_; rintro e w2 ⟨rfl, rfl⟩)
    | (go_at_call 30; refine (nShed _).mono ?_; rintro e w2 ⟨rfl, rfl⟩)
    | (go_at_call 20; refine (nAll _ _).mono ?_; rintro e w2 ⟨rfl, rfl⟩)
    | (go_at_call 23; refine (nStep _ _).mono ?_; rintro e w2 ⟨rfl, rfl⟩)
    | (go_at_call 31; refine (nSteps _).mono ?_; rintro e w2 ⟨rfl, rfl⟩)
    | (go_at_call 32; refine (dhold1 _).mono ?_; rintro e w2 ⟨rfl, rfl⟩)
    | (go_at_call 15; refine (awake_any _ (HT.out.keep (C1.then C2 (by simp)))).mono ?_; rintro e w7 ⟨rfl, C7⟩))
  go_ret
  exact ⟨rfl, (C1.then C2 (by simp)).then C7 (by simp)⟩
end Go.Proofs.YtjdbgohfedjifaaDoor
