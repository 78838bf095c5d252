/- sets: Each, as what a range over it may lean on. -/
import Derived.RangeFuncNested
import Derived.RangeFuncBound
import Derived.RangeFuncCalls
import Derived.RangeFuncLeaves
import Derived.RangeFuncFrom
import Derived.Shelf.Abstract
import Derived.Shelf.RegionOpen
import Derived.WalkKit
import Derived.OwnWalkIn
import Derived.TacticsInMore
import Derived.LoopNIn
import Derived.LoopIn
import Derived.Test.YtjdbgohfedjifaaDoorSt
namespace Go.Proofs.YtjdbgohfedjifaaDoor
open Go.RowKit Go.Shelf Bosun
attribute [local go_sem] Oper.semAt_some
theorem each_any (s : Nat) (w : World) : Calls Tryd.prog 69 #[.int .u64 (s : Nat)] w fun e w' => e = .returned (.func (.func 90) #[] #[.pointer (some ⟨w.heap.size, 0, none⟩)]) ∧ w' = w.alloc (.cells #[.int .u64 (s : Nat)] 30) := by
  go_enter Tryd.func69, Tryd.ntmps69
  go_wp2_with fail
  go_ret
  exact ⟨rfl, rfl⟩
theorem TabW.below {n₀ : Nat} {A B : World} (h0 : 0 < n₀) (h : Below n₀ A B) (hT : TabW A) : TabW B := fun j hj => (h.cell (p := ⟨0, j, none⟩) h0).trans (hT j hj)
set_option maxRecDepth 100000 in
set_option maxHeartbeats 2000000 in
theorem each1_in (n : Nat) (hn : 1 ≤ n) (l Bn n₀ : Nat) (h00 : 0 < n₀) (s : Nat) (hs : s < 18446744073709551616) (J Jx : List Nat → World → Prop)
    (hY : ∀ pre x W, J pre W → pre.length < (members s).length → YieldAt Fence.wide (n - 1) Tryd.prog l #[.int .i64 ((x : Nat) : Int)] W fun e W' =>
      (e = .returned (.bool true) ∧ J (pre ++ [x]) W' ∧ Below n₀ W W') ∨ (e = .returned (.bool false) ∧ Jx (pre ++ [x]) W'))
    (W : World) (hBn : W.cell? ⟨Bn, 0, none⟩ = some (.int .u64 (s : Nat))) (hT : TabW W) (h0 : J [] W) :
    CallsIn Fence.wide n Tryd.prog 90 #[.func (.yield l) #[] #[], .pointer (some ⟨Bn, 0, none⟩)] W fun e W' => (∃ v, e = .returned v) ∧
      ((∃ ys, ys = members s ∧ J ys W') ∨ (∃ pre, pre <+: members s ∧ Jx pre W')) := by
  have hro : Fence.wide.round = none := rfl
  refine callsIn_of_wp Tryd.func90 rfl trivial ?_ hro
  simp only [Tryd.ntmps90, List.size_toArray, List.length_cons, List.length_nil, Nat.reduceAdd, Nat.reduceSub, Array.replicate_succ, Array.replicate_zero, List.push_toArray, List.append_toArray, List.nil_append, List.cons_append]
  gi_wp2
  gi_loopw [3] (fun p wr => ∃ (pre : List Nat) (s' : Nat), p = .int .u64 (s' : Nat) ∧ s' < 18446744073709551616 ∧ Hid (members s = pre ++ members s') ∧ TabW wr ∧ J pre wr)
    (fun p wr => (members (intOf p).toNat).length)
  case atStart => exact ⟨[], s, rfl, hs, rfl, hT, h0⟩
  case round =>
    obtain ⟨pre, s', rfl, hs', hx, hT', hJs⟩ := hrel
    by_cases hz : s' = 0
    · subst hz
      have hx' : members s = pre := by rw [show members s = pre ++ members 0 from hx, members_zero, List.append_nil]
      have HX := Lib.hid hx'
      clear hx hx'
      gi_wp2
      go_end0
      exact ⟨⟨_, rfl⟩, .inl ⟨pre, HX.out.symm, hJs⟩⟩
    · have hm := members_low hz hs'
      have HL := least_any s' hs' wr hT'
      rw [leastI_low hz hs'] at HL
      obtain ⟨k, hk⟩ : ∃ k, k = Lib.ctz 64 s' := ⟨_, rfl⟩
      rw [← hk] at hm HL
      obtain ⟨z, hzz⟩ : ∃ z, z = s' &&& (s' - 1) := ⟨_, rfl⟩
      rw [← hzz] at hm
      obtain ⟨s1, hs1⟩ : ∃ s1, s1 = s' - 1 := ⟨_, rfl⟩
      have r1 : IntKind.u64.wrap ((s' : Int) - 1) = (s1 : Nat) := by rw [IntKind.wrap_u64]; omega
      have r2 : bits .and .u64 (s' : Int) (s1 : Int) = (z : Nat) := by rw [bits_and_u64_nat _ _ hs' (by omega), hzz, hs1]
      have e1 : ((s' : Int) - 1) = (s1 : Nat) := by omega
      have r3 : bits .and .u64 (s' : Int) ((s' : Int) - 1) = (z : Nat) := by rw [e1]; exact r2
      have hzl : z < 18446744073709551616 := by rw [hzz]; exact Nat.lt_of_le_of_lt Nat.and_le_left hs'
      have hx2 : members s = (pre ++ [k]) ++ members z := by rw [show members s = pre ++ members s' from hx, hm]; simp
      have hlen : (members z).length < (members s').length := by rw [hm]; simp
      have hpl : pre.length < (members s).length := by rw [hx2]; simp
      have hpre : (pre ++ [k]) <+: members s := ⟨members z, hx2.symm⟩
      obtain ⟨fn, tmps, assign, body, hy, hR⟩ := hY pre k wr hJs hpl
      have HLW := Lib.hid (callsIn_wide (n := n - 1) |>.2 HL)
      have HX2 := Lib.hid hx2
      have HLEN := Lib.hid hlen
      have HPRE := Lib.hid hpre
      have y0 : ((s' : Int) != 0) = true := by simp; omega
      clear hk hzz hs1 e1 hm hx hx2 hlen hpre HL hpl
      gi_wp2_with (refine ⟨trivial, ?_⟩; gi_at_call 42; refine HLW.out.mono ?_; rintro e w2 ⟨rfl, rfl⟩)
      refine hR.mono ?_
      rintro e W3 (⟨rfl, hJ3, hk3⟩ | ⟨rfl, hJx3⟩)
      · have hT3 := TabW.below h00 hk3 hT'
        gi_wp2
        go_roundw
        case rel => exact ⟨pre ++ [k], z, rfl, hzl, HX2, hT3, hJ3⟩
        case measure => simpa [intOf] using HLEN.out
      · gi_wp2
        refine bodyPost_ret (results_none rfl _ _ _) rfl ?_
        exact ⟨⟨_, rfl⟩, .inr ⟨pre ++ [k], HPRE.out, hJx3⟩⟩
theorem each_stops (n : Nat) (hn : 1 ≤ n) (Bn n₀ : Nat) (h00 : 0 < n₀) (s : Nat) (hs : s < 18446744073709551616) (w : World) (hBn : Bn < w.heap.size) (hn₀ : n₀ ≤ w.heap.size) (hc : w.cell? ⟨Bn, 0, none⟩ = some (.int .u64 (s : Nat))) (hT : TabW w) :
    SeqStopsK Fence.wide n Tryd.prog 90 #[.pointer (some ⟨Bn, 0, none⟩)] (fun x : Nat => #[Value.int .i64 ((x : Nat) : Int)]) (Below n₀) (fun ys => ys = members s) (fun pre => pre <+: members s) (members s).length w := fun l J Jx W hW _ _ hY h0 =>
  each1_in n hn l Bn n₀ h00 s hs J Jx hY W ((hW.cell (p := ⟨Bn, 0, none⟩) hBn).trans hc) (TabW.below (by omega) hW hT) h0
end Go.Proofs.YtjdbgohfedjifaaDoor
