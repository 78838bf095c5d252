/- life: the page's examples. -/
import Derived.Test.YtcoljjbbfjhhpaaLife6
namespace Go.Proofs.Ytcoljjbbfjhhpaa
open Go.RowKit Bosun
set_option maxHeartbeats 1000000 in
theorem awake_any (w : World) :
    Calls Try.prog 10 #[] w fun e w' => e = .returned (.bool true) ∧ Chg [] w w' := by
  go_enter Try.func10, Try.ntmps10
  go_wp2_with fail
  refine (next_any 1 1 _).mono ?_
  rw [show goes 1 1 = some 2 from rfl]
  rintro e w1 ⟨rfl, C1⟩
  simp only [Option.getD_some, Option.isSome_some]
  go_wp2_with fail
  refine (way_in 0 4 (by decide) (by decide) _).mono ?_
  rw [show wayL 0 4 = ([0, 1, 4], true) from by decide +kernel]
  rintro e w2 ⟨v, rfl, O2, C2⟩
  simp only at O2
  go_wp2_with (first
    | (go_at_call 20; refine (same_any v _ [0, 1, 4] [0, 1, 4] _ (O2.alloc _).reads ((Blk.new w2 #[.int .i64 0, .int .i64 1, .int .i64 4] 3).reads 3 3 (by simp) (by simp [maxLen]) rfl)).mono ?_; rw [decide_eq_true rfl]; rintro e w3 ⟨rfl, C3⟩)
    | (go_at_call 11; refine (name_any 2 _).mono ?_; rw [show stateName 2 = ⟨#[114, 117, 110, 110, 105, 110, 103]⟩ from rfl]; rintro e w4 ⟨rfl, C4⟩))
  go_ret
  exact ⟨rfl, (((C1.then C2 (by simp)).alloc _).then C3 (by simp)).then C4 (by simp)⟩
end Go.Proofs.Ytcoljjbbfjhhpaa
