/- mem: the examples of the page. -/
import Derived.Test.YtkmdfcjgjkfdjaaMem1
namespace Go.Proofs.Ytkmdfcjgjkfdjaa
open Go.RowKit Bosun

set_option maxHeartbeats 800000 in
theorem awake_any (w : World) :
    Calls Try.prog 11 #[] w fun e w' => e = .returned (.bool true) ∧ Chg [] w w' := by
  go_enter Try.func11, Try.ntmps11
  go_wp2_with fail
  refine (new_any 2 2 (by decide) _).mono ?_
  rintro e w1 ⟨bm, bw, rfl, M1, C1, h1, h2⟩
  replace M1 : IsMem w1 bm bw [0, 0] 0 := M1
  go_wp2_with fail
  refine (store_any bm bw _ _ _ M1 1 5 (by omega)).mono ?_
  rintro e w2 ⟨rfl, M2, C2⟩
  replace M2 : IsMem w2 bm bw [0, 5] 1 := M2
  go_wp2_with fail
  refine (cas_any bm bw _ _ _ M2 1 5 6 (by omega)).mono ?_
  rw [show wins [0, 5] 1 5 = true from rfl]
  rintro e w3 ⟨rfl, M3, C3⟩
  replace M3 : IsMem w3 bm bw [0, 6] 2 := M3
  go_wp2_with fail
  refine (add_any bm bw _ _ _ M3 1 1).mono ?_
  rw [show getA [0, 6] 1 = 6 from rfl]
  rintro e w4 ⟨rfl, M4, C4⟩
  replace M4 : IsMem w4 bm bw [0, 7] 3 := M4
  go_wp2_with fail
  refine (load_any bm bw _ _ _ M4 1).mono ?_
  rw [show getA [0, 7] 1 = 7 from rfl]
  rintro e w5 ⟨rfl, M5, C5⟩
  replace M5 : IsMem w5 bm bw [0, 7] 4 := M5
  go_wp2_with fail
  refine (load_any bm bw _ _ _ M5 2).mono ?_
  rw [show getA [0, 7] 2 = 0 from rfl]
  rintro e w6 ⟨rfl, M6, C6⟩
  replace M6 : IsMem w6 bm bw [0, 7] 4 := M6
  go_wp2_with fail
  refine (used_any bm bw _ _ _ M6).mono ?_
  rintro e w7 ⟨rfl, rfl⟩
  go_wp2_with fail
  go_ret
  refine ⟨rfl, ?_⟩
  have hs : ∀ g, g ∈ [bm, bw] → g ∈ ([] : List Nat) ∨ w.heap.size ≤ g := fun g hg => .inr (by simp at hg; omega)
  have hs1 : ∀ g, g ∈ [bm] → g ∈ ([] : List Nat) ∨ w.heap.size ≤ g := fun g hg => .inr (by simp at hg; omega)
  exact ((((C1.then C2 hs).then C3 hs).then C4 hs).then C5 hs1).then C6 hs1
end Go.Proofs.Ytkmdfcjgjkfdjaa
