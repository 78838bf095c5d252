/- lot: the examples of the page, and LotVictims. -/
import Derived.Test.YtfmigdlkbnjnfaaDoorLot1
namespace Go.Proofs.YtfmigdlkbnjnfaaDoor
open Go.RowKit Bosun

set_option maxHeartbeats 400000 in
theorem awake_any (w : World) :
    Calls Tryd.prog 8 #[] w fun e w' => e = .returned (.bool true) ∧ Chg [] w w' := by
  have e1 : victimI 0 2 4 = 3 := by decide
  have e2 : victimI 1 2 4 = 0 := by decide
  have e3 : orderN 3 4 (List.range 3) = [1, 2, 0] := by decide
  have E1 := Lib.hid e1
  have E2 := Lib.hid e2
  have E3 := Lib.hid e3
  clear e1 e2 e3
  go_enter Tryd.func8, Tryd.ntmps8
  go_wp2_with fail
  refine (victim_any 0 2 4 (by omega) (by omega) (by omega) (by omega) (by omega) (by omega) _).mono ?_
  rw [E1.out]
  rintro e w1 ⟨rfl, rfl⟩
  go_wp2_with fail
  refine (victim_any 1 2 4 (by omega) (by omega) (by omega) (by omega) (by omega) (by omega) _).mono ?_
  rw [E2.out]
  rintro e w1 ⟨rfl, rfl⟩
  go_wp2_with fail
  refine (order_any 4 (by omega) 3 (by omega) (by omega) 3 (by decide) _).mono ?_
  rw [E3.out]
  rintro e w1 ⟨v, rfl, H1, H2⟩
  go_wp2_with fail
  refine (same_any v _ [1, 2, 0] [1, 2, 0] _ ?_ ?_).mono ?_
  · exact (nats_ints [1, 2, 0] ▸ H1).reads.alloc _
  · exact (Blk.new _ _ _).reads 3 3 (by simp) (by simp [maxLen]) rfl
  rintro e w2 ⟨rfl, H3⟩
  go_wp2_with fail
  go_ret
  exact ⟨ret_bool (by decide), (H2.alloc _).then H3 (by simp)⟩
end Go.Proofs.YtfmigdlkbnjnfaaDoor
