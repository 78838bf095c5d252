/- sets: Each of a set of the first eight: the numbers that it yields are below 8; the body need but keep the table. -/
import Derived.RangeFuncNested
import Derived.RangeFuncBound
import Derived.RangeFuncCalls
import Derived.RangeFuncLeaves
import Derived.RangeFuncFrom
import Derived.Shelf.Abstract
import Derived.Shelf.RegionOpen
import Derived.WalkKit
import Derived.OwnWalkIn
import Derived.TacticsInMore
import Derived.LoopNIn
import Derived.LoopIn
import Derived.Test.YtjdbgohfedjifaaDoorEach
namespace Go.Proofs.YtjdbgohfedjifaaDoor
open Go.RowKit Go.Shelf Bosun
attribute [local go_sem] Oper.semAt_some
/-- What the body of a range over Each must keep: the table. -/
def KeepT (W W' : World) : Prop := TabW W → TabW W'
theorem keepT_t {A B C : World} (h : KeepT A B) (k : KeepT B C) : KeepT A C := fun t => k (h t)
theorem keepT_b {w : World} (hw : 0 < w.heap.size) (W : World) (l : Nat) (o o' : Obj) (hl : w.heap.size ≤ l) (h : W.heap[l]? = some o) (_ : o.isCells = false) (_ : o.isWalk = false) : KeepT W (W.putObj l o') := fun hT =>
  TabW.below (n₀ := w.heap.size) hw (belowK_b (Nat.le_refl _) W l o o' hl h (by assumption) (by assumption)) hT
theorem low8 {s : Nat} (h0 : s ≠ 0) (h : s < 256) : Lib.ctz 64 s < 8 := by
  have h1 := (low_bit h0 (show s < 18446744073709551616 by omega)).1
  rcases Nat.lt_or_ge (Lib.ctz 64 s) 8 with h2 | h2
  · exact h2
  · rw [Nat.testBit_lt_two_pow (Nat.lt_of_lt_of_le h (show 256 ≤ 2 ^ Lib.ctz 64 s from by have := Nat.pow_le_pow_right (show 0 < 2 by decide) h2; simpa using this))] at h1
    cases h1
set_option maxRecDepth 100000 in
set_option maxHeartbeats 2000000 in
theorem each8_in (n : Nat) (hn : 1 ≤ n) (l Bn : Nat) (s : Nat) (hs : s < 256) (J Jx : List (Fin 8) → World → Prop)
    (hY : ∀ (pre : List (Fin 8)) (x : Fin 8) W, J pre W → pre.length < (members s).length → YieldAt Fence.wide (n - 1) Tryd.prog l #[.int .i64 ((x.val : Nat) : Int)] W fun e W' =>
      (e = .returned (.bool true) ∧ J (pre ++ [x]) W' ∧ KeepT W W') ∨ (e = .returned (.bool false) ∧ Jx (pre ++ [x]) W'))
    (W : World) (hBn : W.cell? ⟨Bn, 0, none⟩ = some (.int .u64 (s : Nat))) (hT : TabW W) (h0 : J [] W) :
    CallsIn Fence.wide n Tryd.prog 90 #[.func (.yield l) #[] #[], .pointer (some ⟨Bn, 0, none⟩)] W fun e W' => (∃ v, e = .returned v) ∧
      ((∃ ys : List (Fin 8), ys.map Fin.val = members s ∧ J ys W') ∨ (∃ pre : List (Fin 8), pre.map Fin.val <+: members s ∧ Jx pre W')) := by
  have hro : Fence.wide.round = none := rfl
  refine callsIn_of_wp Tryd.func90 rfl trivial ?_ hro
  simp only [Tryd.ntmps90, List.size_toArray, List.length_cons, List.length_nil, Nat.reduceAdd, Nat.reduceSub, Array.replicate_succ, Array.replicate_zero, List.push_toArray, List.append_toArray, List.nil_append, List.cons_append]
  gi_wp2
  gi_loopw [3] (fun p wr => ∃ (pre : List (Fin 8)) (s' : Nat), p = .int .u64 (s' : Nat) ∧ s' < 256 ∧ Hid (members s = pre.map Fin.val ++ members s') ∧ TabW wr ∧ J pre wr)
    (fun p wr => (members (intOf p).toNat).length)
  case atStart => exact ⟨[], s, rfl, hs, rfl, hT, h0⟩
  case round =>
    obtain ⟨pre, s', rfl, hs', hx, hT', hJs⟩ := hrel
    by_cases hz : s' = 0
    · subst hz
      have hx' : members s = pre.map Fin.val := by rw [show members s = pre.map Fin.val ++ members 0 from hx, members_zero, List.append_nil]
      have HX := Lib.hid hx'
      clear hx hx'
      gi_wp2
      go_end0
      exact ⟨⟨_, rfl⟩, .inl ⟨pre, HX.out.symm, hJs⟩⟩
    · have hs64 : s' < 18446744073709551616 := by omega
      have hk64 := low8 hz hs'
      have hm := members_low hz hs64
      have HL := least_any s' hs64 wr hT'
      rw [leastI_low hz hs64] at HL
      obtain ⟨k, hk⟩ : ∃ k, k = Lib.ctz 64 s' := ⟨_, rfl⟩
      rw [← hk] at hm HL hk64
      obtain ⟨z, hzz⟩ : ∃ z, z = s' &&& (s' - 1) := ⟨_, rfl⟩
      rw [← hzz] at hm
      obtain ⟨s1, hs1⟩ : ∃ s1, s1 = s' - 1 := ⟨_, rfl⟩
      have r1 : IntKind.u64.wrap ((s' : Int) - 1) = (s1 : Nat) := by rw [IntKind.wrap_u64]; omega
      have r2 : bits .and .u64 (s' : Int) (s1 : Int) = (z : Nat) := by rw [bits_and_u64_nat _ _ hs64 (by omega), hzz, hs1]
      have e1 : ((s' : Int) - 1) = (s1 : Nat) := by omega
      have r3 : bits .and .u64 (s' : Int) ((s' : Int) - 1) = (z : Nat) := by rw [e1]; exact r2
      have hzl : z < 256 := by rw [hzz]; exact Nat.lt_of_le_of_lt Nat.and_le_left hs'
      have hx2 : members s = (pre ++ [(⟨k, hk64⟩ : Fin 8)]).map Fin.val ++ members z := by rw [show members s = pre.map Fin.val ++ members s' from hx, hm]; simp
      have hlen : (members z).length < (members s').length := by rw [hm]; simp
      have hpl : pre.length < (members s).length := by rw [hx2]; simp
      have hpre : (pre ++ [(⟨k, hk64⟩ : Fin 8)]).map Fin.val <+: members s := ⟨members z, hx2.symm⟩
      obtain ⟨fn, tmps, assign, body, hy, hR⟩ := hY pre ⟨k, hk64⟩ wr hJs hpl
      have HLW := Lib.hid (callsIn_wide (n := n - 1) |>.2 HL)
      have HX2 := Lib.hid hx2
      have HLEN := Lib.hid hlen
      have HPRE := Lib.hid hpre
      have y0 : ((s' : Int) != 0) = true := by simp; omega
      clear hk hzz hs1 e1 hm hx hx2 hlen hpre HL hpl
      gi_wp2_with (refine ⟨trivial, ?_⟩; gi_at_call 42; refine HLW.out.mono ?_; rintro e w2 ⟨rfl, rfl⟩)
      refine hR.mono ?_
      rintro e W3 (⟨rfl, hJ3, hk3⟩ | ⟨rfl, hJx3⟩)
      · have hT3 : TabW W3 := hk3 hT'
        gi_wp2
        go_roundw
        case rel => exact ⟨pre ++ [(⟨k, hk64⟩ : Fin 8)], z, rfl, hzl, HX2, hT3, hJ3⟩
        case measure => simpa [intOf] using HLEN.out
      · gi_wp2
        refine bodyPost_ret (results_none rfl _ _ _) rfl ?_
        exact ⟨⟨_, rfl⟩, .inr ⟨pre ++ [(⟨k, hk64⟩ : Fin 8)], HPRE.out, hJx3⟩⟩
theorem each8_stops (n : Nat) (hn : 1 ≤ n) (Bn : Nat) (s : Nat) (hs : s < 256) (w : World) (hBn : Bn < w.heap.size) (hc : w.cell? ⟨Bn, 0, none⟩ = some (.int .u64 (s : Nat))) (hT : TabW w) :
    SeqStopsK Fence.wide n Tryd.prog 90 #[.pointer (some ⟨Bn, 0, none⟩)] (fun x : Fin 8 => #[Value.int .i64 ((x.val : Nat) : Int)]) KeepT (fun ys => ys.map Fin.val = members s) (fun pre => pre.map Fin.val <+: members s) (members s).length w := fun l J Jx W hW _ _ hY h0 =>
  each8_in n hn l Bn s hs J Jx hY W ((hW.cell (p := ⟨Bn, 0, none⟩) hBn).trans hc) (TabW.below (by omega) hW hT) h0
end Go.Proofs.YtjdbgohfedjifaaDoor
