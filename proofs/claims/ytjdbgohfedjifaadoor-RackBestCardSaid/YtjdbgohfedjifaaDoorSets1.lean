/- The reference's sets: what Row, Set, Put, Has, All, Of, List and Same answer. -/
import Derived.Test.YtjdbgohfedjifaaDoorProg
import Derived.Test.YtjdbgohfedjifaaDoorSets0
import Derived.Test.YtjdbgohfedjifaaDoorBase
import Derived.KernelRfl
namespace Go.Proofs.YtjdbgohfedjifaaDoor
open Go.RowKit Bosun

theorem allBelow_out (n : Int) (k : Nat) (h : (k = 64 ∧ (64 : Int) ≤ n) ∨ (k : Int) = n ∨ (k = 0 ∧ n ≤ 0)) : allBelow k = allBelow n := by
  refine ofBits_congr fun j hj => ?_
  congr 1
  exact propext ⟨fun h => by omega, fun h => by omega⟩

theorem infoInt : (Tryd.prog.info? 3).map (fun i => (i.zero, i.size, i.bytes)) = some (some (.int .i64 0), 1, 8) := by kernel_rfl

end Go.Proofs.YtjdbgohfedjifaaDoor
