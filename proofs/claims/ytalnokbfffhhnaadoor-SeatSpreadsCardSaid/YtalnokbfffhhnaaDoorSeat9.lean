/- seat: the page's examples. -/
import Derived.Test.YtalnokbfffhhnaaDoorSeat8
import Derived.Test.YtalnokbfffhhnaaDoorSeat2
namespace Go.Proofs.YtalnokbfffhhnaaDoor
open Go.RowKit Bosun
set_option maxHeartbeats 400000 in
theorem awake_any (w : World) (hT : TabW w) :
    Calls Tryd.prog 9 #[] w fun e w' => e = .returned (.bool true) ∧ Chg [] w w' := by
  have hwp : 0 < w.heap.size := World.block_lt_of_cell? w _ (hT 0 (by decide))
  have E1 := Lib.hid (show nextI (6 &&& allBelow 4) (homeI 4 3) = 1 by decide +kernel)
  have E2 := Lib.hid (show idl [2, 0, 0] (members (7 &&& allBelow 3)) = 1 by decide +kernel)
  have E3 := Lib.hid (show spr (5 &&& allBelow 3) 3 = [0, 2, 0] by decide +kernel)
  have HTW := Lib.hid hT
  clear hT
  go_enter Tryd.func9, Tryd.ntmps9
  go_wp2_with fail
  refine (target_any 6 (by decide) 4 (by decide) (by decide) 3 (by decide) (by decide) _ HTW.out).mono ?_
  rw [E1.out]
  rintro e w1 ⟨rfl, rfl⟩
  go_wp2_with fail
  have T1 : TabW (w.alloc (.cells #[.int .i64 2, .int .i64 0, .int .i64 0] 3)) := TabW.below hwp ((Chg.refl [] w).alloc _).below HTW.out
  refine (idlest_any 7 (by decide) 3 (by decide) (by decide) [2, 0, 0] _ _ ((Blk.new _ _ _).reads 3 3 (by simp) (by simp [maxLen]) rfl) T1).mono ?_
  rw [E2.out]
  rintro e w2 ⟨rfl, H2⟩
  have H2' := ((Chg.refl [] w).alloc _).trans H2
  clear T1 H2
  have T2 := Lib.hid (TabW.below hwp H2'.below HTW.out)
  go_wp2_with fail
  refine (spread_any 5 (by decide) 3 (by decide) (by decide) 3 3 (by decide) _ T2.out).mono ?_
  rw [E3.out]
  rintro e w3 ⟨v, rfl, H3, C3⟩
  go_wp2_with fail
  refine (same_any v _ [0, 2, 0] [0, 2, 0] _ ?_ ?_).mono ?_
  · exact H3.alloc _
  · exact (Blk.new _ _ _).reads 3 3 (by simp) (by simp [maxLen]) rfl
  rintro e w4 ⟨rfl, H4⟩
  go_wp2_with fail
  go_ret
  exact ⟨ret_bool (by decide), ((H2'.trans C3).alloc _).then H4 (by simp)⟩
end Go.Proofs.YtalnokbfffhhnaaDoor
