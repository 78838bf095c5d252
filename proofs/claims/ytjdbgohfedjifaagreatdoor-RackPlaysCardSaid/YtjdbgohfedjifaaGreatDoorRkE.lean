/- sets: Each, as what a range over it may lean on. -/
import Derived.RangeFuncNested
import Derived.RangeFuncBound
import Derived.RangeFuncCalls
import Derived.RangeFuncLeaves
import Derived.RangeFuncFrom
import Derived.Shelf.Abstract
import Derived.Shelf.RegionOpen
import Derived.WalkKit
import Derived.OwnWalkIn
import Derived.TacticsInMore
import Derived.LoopNIn
import Derived.LoopIn
import Derived.Test.YtjdbgohfedjifaaGreatDoorSt
import Derived.Test.YtjdbgohfedjifaaGreatDoorRkP2
import Derived.RegionIn
namespace Go.Proofs.YtjdbgohfedjifaaGreatDoor
open Go.RowKit Go.Shelf Bosun
attribute [local go_sem] Oper.semAt_some
theorem each_any (s : Nat) (w : World) : Calls Tryz.prog 87 #[.int .u64 (s : Nat)] w fun e w' => e = .returned (.func (.func 108) #[] #[.pointer (some ⟨w.heap.size, 0, none⟩)]) ∧ w' = w.alloc (.cells #[.int .u64 (s : Nat)] 35) := by
  go_enter Tryz.func87, Tryz.ntmps87
  go_wp2_with fail
  go_ret
  exact ⟨rfl, rfl⟩
theorem TabW.below {n₀ : Nat} {A B : World} (h0 : 0 < n₀) (h : Below n₀ A B) (hT : TabW A) : TabW B := fun j hj => (h.cell (p := ⟨0, j, none⟩) h0).trans (hT j hj)
set_option maxRecDepth 100000 in
set_option maxHeartbeats 2000000 in
theorem each1_in (n : Nat) (hn : 1 ≤ n) (l Bn n₀ : Nat) (h00 : 0 < n₀) (s : Nat) (hs : s < 18446744073709551616) (J Jx : List Nat → World → Prop)
    (hY : ∀ pre x W, J pre W → pre.length < (members s).length → YieldAt Fence.wide (n - 1) Tryz.prog l #[.int .i64 ((x : Nat) : Int)] W fun e W' =>
      (e = .returned (.bool true) ∧ J (pre ++ [x]) W' ∧ Below n₀ W W') ∨ (e = .returned (.bool false) ∧ Jx (pre ++ [x]) W'))
    (W : World) (hBn : W.cell? ⟨Bn, 0, none⟩ = some (.int .u64 (s : Nat))) (hT : TabW W) (h0 : J [] W) :
    CallsIn Fence.wide n Tryz.prog 108 #[.func (.yield l) #[] #[], .pointer (some ⟨Bn, 0, none⟩)] W fun e W' => (∃ v, e = .returned v) ∧
      ((∃ ys, ys = members s ∧ J ys W') ∨ (∃ pre, pre <+: members s ∧ Jx pre W')) := by
  have hro : Fence.wide.round = none := rfl
  refine callsIn_of_wp Tryz.func108 rfl trivial ?_ hro
  simp only [Tryz.ntmps108, List.size_toArray, List.length_cons, List.length_nil, Nat.reduceAdd, Nat.reduceSub, Array.replicate_succ, Array.replicate_zero, List.push_toArray, List.append_toArray, List.nil_append, List.cons_append]
  gi_wp2
  gi_loopw [3] (fun p wr => ∃ (pre : List Nat) (s' : Nat), p = .int .u64 (s' : Nat) ∧ s' < 18446744073709551616 ∧ Hid (members s = pre ++ members s') ∧ TabW wr ∧ J pre wr)
    (fun p wr => (members (intOf p).toNat).length)
  case atStart => exact ⟨[], s, rfl, hs, rfl, hT, h0⟩
  case round =>
    obtain ⟨pre, s', rfl, hs', hx, hT', hJs⟩ := hrel
    by_cases hz : s' = 0
    · subst hz
      have hx' : members s = pre := by rw [show members s = pre ++ members 0 from hx, members_zero, List.append_nil]
      have HX := Lib.hid hx'
      clear hx hx'
      gi_wp2
      go_end0
      exact ⟨⟨_, rfl⟩, .inl ⟨pre, HX.out.symm, hJs⟩⟩
    · have hm := members_low hz hs'
      have HL := least_any s' hs' wr hT'
      rw [leastI_low hz hs'] at HL
      obtain ⟨k, hk⟩ : ∃ k, k = Lib.ctz 64 s' := ⟨_, rfl⟩
      rw [← hk] at hm HL
      obtain ⟨z, hzz⟩ : ∃ z, z = s' &&& (s' - 1) := ⟨_, rfl⟩
      rw [← hzz] at hm
      obtain ⟨s1, hs1⟩ : ∃ s1, s1 = s' - 1 := ⟨_, rfl⟩
      have r1 : IntKind.u64.wrap ((s' : Int) - 1) = (s1 : Nat) := by rw [IntKind.wrap_u64]; omega
      have r2 : bits .and .u64 (s' : Int) (s1 : Int) = (z : Nat) := by rw [bits_and_u64_nat _ _ hs' (by omega), hzz, hs1]
      have e1 : ((s' : Int) - 1) = (s1 : Nat) := by omega
      have r3 : bits .and .u64 (s' : Int) ((s' : Int) - 1) = (z : Nat) := by rw [e1]; exact r2
      have hzl : z < 18446744073709551616 := by rw [hzz]; exact Nat.lt_of_le_of_lt Nat.and_le_left hs'
      have hx2 : members s = (pre ++ [k]) ++ members z := by rw [show members s = pre ++ members s' from hx, hm]; simp
      have hlen : (members z).length < (members s').length := by rw [hm]; simp
      have hpl : pre.length < (members s).length := by rw [hx2]; simp
      have hpre : (pre ++ [k]) <+: members s := ⟨members z, hx2.symm⟩
      obtain ⟨fn, tmps, assign, body, hy, hR⟩ := hY pre k wr hJs hpl
      have HLW := Lib.hid (callsIn_wide (n := n - 1) |>.2 HL)
      have HX2 := Lib.hid hx2
      have HLEN := Lib.hid hlen
      have HPRE := Lib.hid hpre
      have y0 : ((s' : Int) != 0) = true := by simp; omega
      clear hk hzz hs1 e1 hm hx hx2 hlen hpre HL hpl
      gi_wp2_with (refine ⟨trivial, ?_⟩; gi_at_call 47; refine HLW.out.mono ?_; rintro e w2 ⟨rfl, rfl⟩)
      refine hR.mono ?_
      rintro e W3 (⟨rfl, hJ3, hk3⟩ | ⟨rfl, hJx3⟩)
      · have hT3 := TabW.below h00 hk3 hT'
        gi_wp2
        go_roundw
        case rel => exact ⟨pre ++ [k], z, rfl, hzl, HX2, hT3, hJ3⟩
        case measure => simpa [intOf] using HLEN.out
      · gi_wp2
        refine bodyPost_ret (results_none rfl _ _ _) rfl ?_
        exact ⟨⟨_, rfl⟩, .inr ⟨pre ++ [k], HPRE.out, hJx3⟩⟩
theorem each_stops (n : Nat) (hn : 1 ≤ n) (Bn n₀ : Nat) (h00 : 0 < n₀) (s : Nat) (hs : s < 18446744073709551616) (w : World) (hBn : Bn < w.heap.size) (hn₀ : n₀ ≤ w.heap.size) (hc : w.cell? ⟨Bn, 0, none⟩ = some (.int .u64 (s : Nat))) (hT : TabW w) :
    SeqStopsK Fence.wide n Tryz.prog 108 #[.pointer (some ⟨Bn, 0, none⟩)] (fun x : Nat => #[Value.int .i64 ((x : Nat) : Int)]) (Below n₀) (fun ys => ys = members s) (fun pre => pre <+: members s) (members s).length w := fun l J Jx W hW _ _ hY h0 =>
  each1_in n hn l Bn n₀ h00 s hs J Jx hY W ((hW.cell (p := ⟨Bn, 0, none⟩) hBn).trans hc) (TabW.below (by omega) hW hT) h0
end Go.Proofs.YtjdbgohfedjifaaGreatDoor

/- sets: Each of a set of the first eight: the numbers that it yields are below 8; the body need but keep the table. -/
namespace Go.Proofs.YtjdbgohfedjifaaGreatDoor
open Go.RowKit Go.Shelf Bosun
attribute [local go_sem] Oper.semAt_some
/-- What the body of a range over Each must keep: the table. -/
def KeepT (W W' : World) : Prop := TabW W → TabW W'
theorem keepT_t {A B C : World} (h : KeepT A B) (k : KeepT B C) : KeepT A C := fun t => k (h t)
theorem keepT_b {w : World} (hw : 0 < w.heap.size) (W : World) (l : Nat) (o o' : Obj) (hl : w.heap.size ≤ l) (h : W.heap[l]? = some o) (_ : o.isCells = false) (_ : o.isWalk = false) : KeepT W (W.putObj l o') := fun hT =>
  TabW.below (n₀ := w.heap.size) hw (belowK_b (Nat.le_refl _) W l o o' hl h (by assumption) (by assumption)) hT
theorem low8 {s : Nat} (h0 : s ≠ 0) (h : s < 256) : Lib.ctz 64 s < 8 := by
  have h1 := (low_bit h0 (show s < 18446744073709551616 by omega)).1
  rcases Nat.lt_or_ge (Lib.ctz 64 s) 8 with h2 | h2
  · exact h2
  · rw [Nat.testBit_lt_two_pow (Nat.lt_of_lt_of_le h (show 256 ≤ 2 ^ Lib.ctz 64 s from by have := Nat.pow_le_pow_right (show 0 < 2 by decide) h2; simpa using this))] at h1
    cases h1
set_option maxRecDepth 100000 in
set_option maxHeartbeats 2000000 in
theorem each8_in (n : Nat) (hn : 1 ≤ n) (l Bn : Nat) (s : Nat) (hs : s < 256) (J Jx : List (Fin 8) → World → Prop)
    (hY : ∀ (pre : List (Fin 8)) (x : Fin 8) W, J pre W → pre.length < (members s).length → YieldAt Fence.wide (n - 1) Tryz.prog l #[.int .i64 ((x.val : Nat) : Int)] W fun e W' =>
      (e = .returned (.bool true) ∧ J (pre ++ [x]) W' ∧ KeepT W W') ∨ (e = .returned (.bool false) ∧ Jx (pre ++ [x]) W'))
    (W : World) (hBn : W.cell? ⟨Bn, 0, none⟩ = some (.int .u64 (s : Nat))) (hT : TabW W) (h0 : J [] W) :
    CallsIn Fence.wide n Tryz.prog 108 #[.func (.yield l) #[] #[], .pointer (some ⟨Bn, 0, none⟩)] W fun e W' => (∃ v, e = .returned v) ∧
      ((∃ ys : List (Fin 8), ys.map Fin.val = members s ∧ J ys W') ∨ (∃ pre : List (Fin 8), pre.map Fin.val <+: members s ∧ Jx pre W')) := by
  have hro : Fence.wide.round = none := rfl
  refine callsIn_of_wp Tryz.func108 rfl trivial ?_ hro
  simp only [Tryz.ntmps108, List.size_toArray, List.length_cons, List.length_nil, Nat.reduceAdd, Nat.reduceSub, Array.replicate_succ, Array.replicate_zero, List.push_toArray, List.append_toArray, List.nil_append, List.cons_append]
  gi_wp2
  gi_loopw [3] (fun p wr => ∃ (pre : List (Fin 8)) (s' : Nat), p = .int .u64 (s' : Nat) ∧ s' < 256 ∧ Hid (members s = pre.map Fin.val ++ members s') ∧ TabW wr ∧ J pre wr)
    (fun p wr => (members (intOf p).toNat).length)
  case atStart => exact ⟨[], s, rfl, hs, rfl, hT, h0⟩
  case round =>
    obtain ⟨pre, s', rfl, hs', hx, hT', hJs⟩ := hrel
    by_cases hz : s' = 0
    · subst hz
      have hx' : members s = pre.map Fin.val := by rw [show members s = pre.map Fin.val ++ members 0 from hx, members_zero, List.append_nil]
      have HX := Lib.hid hx'
      clear hx hx'
      gi_wp2
      go_end0
      exact ⟨⟨_, rfl⟩, .inl ⟨pre, HX.out.symm, hJs⟩⟩
    · have hs64 : s' < 18446744073709551616 := by omega
      have hk64 := low8 hz hs'
      have hm := members_low hz hs64
      have HL := least_any s' hs64 wr hT'
      rw [leastI_low hz hs64] at HL
      obtain ⟨k, hk⟩ : ∃ k, k = Lib.ctz 64 s' := ⟨_, rfl⟩
      rw [← hk] at hm HL hk64
      obtain ⟨z, hzz⟩ : ∃ z, z = s' &&& (s' - 1) := ⟨_, rfl⟩
      rw [← hzz] at hm
      obtain ⟨s1, hs1⟩ : ∃ s1, s1 = s' - 1 := ⟨_, rfl⟩
      have r1 : IntKind.u64.wrap ((s' : Int) - 1) = (s1 : Nat) := by rw [IntKind.wrap_u64]; omega
      have r2 : bits .and .u64 (s' : Int) (s1 : Int) = (z : Nat) := by rw [bits_and_u64_nat _ _ hs64 (by omega), hzz, hs1]
      have e1 : ((s' : Int) - 1) = (s1 : Nat) := by omega
      have r3 : bits .and .u64 (s' : Int) ((s' : Int) - 1) = (z : Nat) := by rw [e1]; exact r2
      have hzl : z < 256 := by rw [hzz]; exact Nat.lt_of_le_of_lt Nat.and_le_left hs'
      have hx2 : members s = (pre ++ [(⟨k, hk64⟩ : Fin 8)]).map Fin.val ++ members z := by rw [show members s = pre.map Fin.val ++ members s' from hx, hm]; simp
      have hlen : (members z).length < (members s').length := by rw [hm]; simp
      have hpl : pre.length < (members s).length := by rw [hx2]; simp
      have hpre : (pre ++ [(⟨k, hk64⟩ : Fin 8)]).map Fin.val <+: members s := ⟨members z, hx2.symm⟩
      obtain ⟨fn, tmps, assign, body, hy, hR⟩ := hY pre ⟨k, hk64⟩ wr hJs hpl
      have HLW := Lib.hid (callsIn_wide (n := n - 1) |>.2 HL)
      have HX2 := Lib.hid hx2
      have HLEN := Lib.hid hlen
      have HPRE := Lib.hid hpre
      have y0 : ((s' : Int) != 0) = true := by simp; omega
      clear hk hzz hs1 e1 hm hx hx2 hlen hpre HL hpl
      gi_wp2_with (refine ⟨trivial, ?_⟩; gi_at_call 47; refine HLW.out.mono ?_; rintro e w2 ⟨rfl, rfl⟩)
      refine hR.mono ?_
      rintro e W3 (⟨rfl, hJ3, hk3⟩ | ⟨rfl, hJx3⟩)
      · have hT3 : TabW W3 := hk3 hT'
        gi_wp2
        go_roundw
        case rel => exact ⟨pre ++ [(⟨k, hk64⟩ : Fin 8)], z, rfl, hzl, HX2, hT3, hJ3⟩
        case measure => simpa [intOf] using HLEN.out
      · gi_wp2
        refine bodyPost_ret (results_none rfl _ _ _) rfl ?_
        exact ⟨⟨_, rfl⟩, .inr ⟨pre ++ [(⟨k, hk64⟩ : Fin 8)], HPRE.out, hJx3⟩⟩
theorem each8_stops (n : Nat) (hn : 1 ≤ n) (Bn : Nat) (s : Nat) (hs : s < 256) (w : World) (hBn : Bn < w.heap.size) (hc : w.cell? ⟨Bn, 0, none⟩ = some (.int .u64 (s : Nat))) (hT : TabW w) :
    SeqStopsK Fence.wide n Tryz.prog 108 #[.pointer (some ⟨Bn, 0, none⟩)] (fun x : Fin 8 => #[Value.int .i64 ((x.val : Nat) : Int)]) KeepT (fun ys => ys.map Fin.val = members s) (fun pre => pre.map Fin.val <+: members s) (members s).length w := fun l J Jx W hW _ _ hY h0 =>
  each8_in n hn l Bn s hs J Jx hY W ((hW.cell (p := ⟨Bn, 0, none⟩) hBn).trans hc) (TabW.below (by omega) hW hT) h0
end Go.Proofs.YtjdbgohfedjifaaGreatDoor

/- rack: worst. -/
namespace Bosun
open Go
theorem members8 {s : Nat} (h : s < 256) : members s = (List.range 8).filter s.testBit := by
  unfold members
  rw [show (64 : Nat) = 8 + 56 from rfl, List.range_add, List.filter_append]
  have : ((List.range 56).map (8 + ·)).filter s.testBit = [] := by
    rw [List.filter_eq_nil_iff]
    intro j hj
    simp only [List.mem_map, List.mem_range] at hj
    obtain ⟨i, _, rfl⟩ := hj
    rw [Nat.testBit_lt_two_pow (Nat.lt_of_lt_of_le h (show 256 ≤ 2 ^ (8 + i) from by have := Nat.pow_le_pow_right (show 0 < 2 by decide) (show 8 ≤ 8 + i by omega); simpa using this))]
    simp
  rw [this, List.append_nil]
/-- What a Shed's choice makes of a work, when these levels have come. -/
def afterW (r : RRack) (w : RWork) (l : List (Fin 8)) : RWork :=
  match l.getLast? with
  | none => w
  | some x => { w with level := x.val, op := some (newD (r.at w.kind x.val) r.cap 1 0) }
theorem afterW_form (r : RRack) (w : RWork) (l : List (Fin 8)) : ∃ lv op, afterW r w l = { w with level := lv, op := op } := by
  unfold afterW
  split
  · exact ⟨w.level, w.op, rfl⟩
  · exact ⟨_, _, rfl⟩
theorem afterW_snoc (r : RRack) (w : RWork) (l : List (Fin 8)) (x : Fin 8) : afterW r w (l ++ [x]) = { w with level := x.val, op := some (newD (r.at w.kind x.val) r.cap 1 0) } := by
  unfold afterW; rw [List.getLast?_append]; rfl
end Bosun
namespace Go.Proofs.YtjdbgohfedjifaaGreatDoor
open Go.RowKit Go.Shelf Bosun
attribute [local go_sem] Oper.semAt_some
theorem keepsO_of {W W' : World} {g : Nat} {cs : Array Value} {t : TypeId} (C : Chg [g] W W') (B : Blk W g cs t) : KeepsOthers W W' :=
  ⟨C.size, fun k o hk ho => by
    by_cases e : k = g
    · subst e
      have h1 : W.heap[k]? = some (.cells cs t (0, 0)) := B
      rw [h1] at hk
      cases hk
      cases ho
    · exact (C.block k (Array.getElem?_eq_some_iff.1 hk).1 (by simp; exact e)).trans hk⟩
theorem Tr.grown {W0 W W' : World} {wb rb bm bw : Nat} {gv : Value} {ob0 ob : Option Nat} {r : RRack} {w : RWork} {M : List Nat} {u : Nat} {row : Option Nat} (h : Tr W0 W wb rb bm bw gv ob0 ob r w M u) (hg : W.grownBy W' row) (hr : ∀ g, row = some g → W0.heap.size ≤ g ∧ ∃ o : Obj, W.heap[g]? = some o ∧ o.isCells = false) : Tr W0 W' wb rb bm bw gv ob0 ob r w M u := by
  have C : Chg row.toList W W' := Chg.of_grown hg
  have hne : ∀ (g : Nat) (cs : Array Value) (t : TypeId), Blk W g cs t → g ∉ row.toList := fun g cs t B hm => by
    obtain ⟨_, o, h1, h2⟩ := hr g (by cases row <;> simp at hm; rw [hm])
    have h3 : W.heap[g]? = some (.cells cs t (0, 0)) := B
    rw [h3] at h1
    cases h1
    cases h2
  refine ⟨⟨Blk.chg h.rig.wk C (hne _ _ _ h.rig.wk), Blk.chg h.rig.rk C (hne _ _ _ h.rig.rk), h.rig.mem.chg C (hne _ _ _ h.rig.mem.head) (hne _ _ _ h.rig.mem.row), ?_, h.rig.ok, h.rig.kind, h.rig.level, h.rig.steps⟩, h.chg.then C (fun g hg' => .inr (hr g (by cases row <;> simp at hg'; rw [hg'])).1), h.new⟩
  have ho := h.rig.op
  cases hw : w.op with
  | none => rw [hw] at ho; cases ob with
    | none => trivial
    | some g => exact ho.elim
  | some o =>
    rw [hw] at ho
    cases ob with
    | none => exact ho.elim
    | some g => exact ⟨ho.1.chg C (hne _ _ _ ho.1), ho.2⟩
set_option maxRecDepth 100000 in
set_option maxHeartbeats 8000000 in
theorem worst_any (W : World) (wb rb bm bw : Nat) (gv : Value) (r : RRack) (w : RWork) (M : List Nat) (u : Nat) (h : Rig W wb rb bm bw gv none r w M u) (hd : w.done = false) (hn : w.next = .worst) (ho : w.op = none) (good : Nat → Bool) (hT : TabW W) :
    Calls Tryz.prog 56 #[.pointer (some ⟨wb, 0, none⟩), .pointer (some ⟨bm, 0, none⟩)] W fun e W' => Turned W W' wb rb bm bw gv none (phaseR good r w M u) e := by
  have hbp : 0 < W.heap.size := World.block_lt_of_cell? W _ (hT 0 (by decide))
  have hs8 := h.ok.z0
  have HE := Lib.hid (fun w => callsIn_wide (n := 5) |>.2 (each_any r.s0 w))
  have HH := Lib.hid (Tr.start h)
  have c0 : W.cell? ⟨wb, 0, none⟩ = some (.pointer (some ⟨rb, 0, none⟩)) := by rw [Blk.cell h.wk]; rfl
  have c1 : W.cell? ⟨rb, 33, none⟩ = some (.int .u64 (r.s0 : Nat)) := h.rk.cset (k := 0) (by omega)
  have c0 := ckp ((Chg.refl [] W).alloc (.cells #[.pointer (some ⟨wb, 0, none⟩)] 39)) c0
  have c1 := ckp ((Chg.refl [] W).alloc (.cells #[.pointer (some ⟨wb, 0, none⟩)] 39)) c1
  have HT := Lib.hid hT
  have HK := Lib.hid (And.intro hd (And.intro hn ho))
  clear h hT hd hn ho
  refine (callsIn_wide (n := 6)).1 ?_
  refine callsIn_of_wp_marks Tryz.func56 rfl trivial ?_ rfl
  simp only [Tryz.ntmps56, List.size_toArray, List.length_cons, List.length_nil, Nat.reduceAdd, Nat.reduceSub, Array.replicate_succ, Array.replicate_zero, List.push_toArray, List.append_toArray, List.nil_append, List.cons_append]
  gi_wp2_with (refine ⟨trivial, ?_⟩; gi_at_call 87; refine (HE.out _).mono ?_; rintro e w2 ⟨rfl, rfl⟩)
  obtain ⟨b, hbe⟩ : ∃ b, b = W.heap.size := ⟨_, rfl⟩
  have q0 := (Blk.new W #[.pointer (some ⟨wb, 0, none⟩)] 39).alloc (.cells #[.int .u64 (r.s0 : Nat)] 35)
  have q1 := Blk.new (W.alloc (.cells #[.pointer (some ⟨wb, 0, none⟩)] 39)) #[.int .u64 (r.s0 : Nat)] 35
  simp only [World.size_alloc] at q1
  have C0 : Chg [] W ((W.alloc (.cells #[.pointer (some ⟨wb, 0, none⟩)] 39)).alloc (.cells #[.int .u64 (r.s0 : Nat)] 35)) := ((Chg.refl _ _).alloc _).alloc _
  generalize hW0 : ((W.alloc (.cells #[.pointer (some ⟨wb, 0, none⟩)] 39)).alloc (.cells #[.int .u64 (r.s0 : Nat)] 35)) = W0 at q0 q1 C0 ⊢
  have z0 : W0.heap.size = b + 2 := by rw [← hW0, hbe]; simp
  rw [← hbe] at q0 q1
  rw [← hbe]
  have k1 : W0.cell? ⟨b + 1, 0, none⟩ = some (.int .u64 (r.s0 : Nat)) := q1.cell 0
  have T0 : TabW W0 := HT.out.keep C0
  have HB := Lib.hid hbe
  have HC0 := Lib.hid C0
  clear hbe hW0 HE q1 c0 c1 C0
  refine wpIn_rangeFunc_ownF rfl (by omega) (gf := 108) (lb := #[.pointer (some ⟨b + 1, 0, none⟩)]) rfl trivial (enters_of Tryz.func108 (by kernel_rfl) rfl)
    (each8_stops 5 (by omega) (b + 1) r.s0 hs8 W0 (by omega) k1 T0) keepT_t (keepT_b (by omega)) (Below.refl _ _) (fun _ => rfl)
    (fun pre W1 => Blk W1 b #[.pointer (some ⟨wb, 0, none⟩)] 39 ∧ ∃ ob', Tr W W1 wb rb bm bw gv none ob' r (afterW r w pre) M u)
    (fun _ _ _ => False)
    (fun s A B row hs hg hr => by
      obtain ⟨h1, ob', h2⟩ := hs
      have hr' : ∀ g, row = some g → W.heap.size ≤ g ∧ ∃ o : Obj, A.heap[g]? = some o ∧ o.isCells = false := fun g e => ⟨by have := (hr g e).1; have := HC0.out.size; omega, (hr g e).2⟩
      refine ⟨h1.chg (Chg.of_grown hg) (fun hm => ?_), ob', h2.grown hg hr'⟩
      obtain ⟨_, o, e1, e2⟩ := hr' b (by cases row <;> simp at hm; rw [hm])
      have h3 : A.heap[b]? = some (.cells #[.pointer (some ⟨wb, 0, none⟩)] 39 (0, 0)) := h1
      rw [h3] at e1
      cases e1
      cases e2) (fun _ _ _ _ _ hs _ _ => hs)
    ⟨q0, none, HH.out.keep HC0.out⟩
    (fun x => { tmps := #[.pointer (some ⟨wb, 0, none⟩), .pointer (some ⟨bm, 0, none⟩), .pointer (some ⟨b, 0, none⟩), undef, .int .i64 ((x.val : Nat) : Int), .pointer (some ⟨wb, 0, none⟩), .pointer (some ⟨wb, 0, none⟩), .pointer (some ⟨wb, 0, none⟩), .pointer (some ⟨rb, 0, none⟩), .pointer (some ⟨rb, 0, none⟩), .pointer (some ⟨rb, 33, none⟩), .pointer (some ⟨rb, 33, none⟩), .int .u64 (r.s0 : Nat), .func (.func 108) #[] #[.pointer (some ⟨b + 1, 0, none⟩)], .int .i64 ((x.val : Nat) : Int), undef, undef, undef, undef, undef, undef, undef, undef, undef, undef, undef, undef, undef, undef, undef, undef, undef, undef, undef, undef], defers := [] }) ?assign ?body ?done ?stop
  case assign =>
    intro l x W K hK
    gi_wp2
    exact hK
  case body =>
    rintro lp pre x W1 ⟨hB, ob', T⟩ _
    have hn1 : 1 ≤ 6 - 1 - 1 := by decide
    have hmx : Tryz.prog.follows .mixedOrders = true := by kernel_rfl
    obtain ⟨lv, op, hw1⟩ := afterW_form r w pre
    rw [hw1] at T
    have kb : W1.cell? ⟨b, 0, none⟩ = some (.pointer (some ⟨wb, 0, none⟩)) := hB.cell 0
    have k4 : W1.cell? ⟨wb, 4, none⟩ = some (.int .i64 (lv : Nat)) := T.cell 4
    have z4 := T.frozen 4
    have hwbb : b ≠ wb := blk_ne hB T.rig.wk (by decide)
    have HSN := Lib.hid (afterW_snoc r w pre x)
    have HT1 := Lib.hid T
    have HB1 := Lib.hid hB
    clear T hB hw1 q0 k1 T0 z0
    gi_wp2_with fail
    have T2 := HT1.out.own (wk_s4 HT1.out.rig.wk x.val) ((Chg.refl _ _).setCell (.inl (by simp)) _) rfl HT1.out.rig.kind (fun _ => x.isLt) HT1.out.rig.steps
    have B2 : Blk (W1.setCell ⟨wb, 4, none⟩ (.int .i64 ((x.val : Nat) : Int))) b #[.pointer (some ⟨wb, 0, none⟩)] 39 := Blk.setCell_other HB1.out _ hwbb
    have HX2 := Lib.hid (And.intro T2 B2)
    have HK1 := Lib.hid (KeepsOthers.setCell W1 ⟨wb, 4, none⟩ (.int .i64 ((x.val : Nat) : Int)))
    obtain ⟨w2, hw2⟩ : ∃ w2, w2 = W1.setCell ⟨wb, 4, none⟩ (.int .i64 ((x.val : Nat) : Int)) := ⟨_, rfl⟩
    rw [← hw2] at HX2 HK1 ⊢
    clear hw2 T2 B2 kb k4 z4 HT1 HB1
    have kb : w2.cell? ⟨b, 0, none⟩ = some (.pointer (some ⟨wb, 0, none⟩)) := HX2.out.2.cell 0
    have HDQ := Lib.hid (fun W2 (T : Tr W W2 wb rb bm bw gv none ob' r { w with level := x.val, op := op } M u) => CallsIn.inRound lp (callsIn_wide (n := 3) |>.2 (wdeque_any wb rb gv ob' { w with level := x.val, op := op } r W2 T.rig.wk T.rig.rk T.rig.kind (T.rig.level HK.out.1))))
    have HPO := Lib.hid (fun W2 => CallsIn.inRound lp (callsIn_wide (n := 3) |>.2 (opop_any (r.at w.kind x.val) r.cap W2)))
    have hnz := (HX2.out.1.rig.ne0 (tab_chg HT.out HX2.out.1.chg (HH.out.rig.ne0 HT.out)))
    refine Go.wpIn_mono (Q := fun e a' w' => e = .normal ∧ Blk w' b #[.pointer (some ⟨wb, 0, none⟩)] 39 ∧ (∃ ob'', Tr W w' wb rb bm bw gv none ob'' r { w with level := x.val, op := some (newD (r.at w.kind x.val) r.cap 1 0) } M u) ∧ Chg [wb] w2 w') ?_ ?_
    · gi_region_with_o (first
        | (refine ⟨trivial, ?_⟩; gi_at_call 61; refine (HDQ.out _ (HX2.out.1.keep (Chg.refl [] _).drew)).mono ?_; rintro e wa ⟨rfl, Ca⟩; have HTa := Lib.hid (And.intro ((HX2.out.1.keep (Chg.refl [] _).drew).keep Ca) ((HX2.out.2.chg Ca.undrew (by simp)))); have HCa := Lib.hid Ca.undrew; have ka : wa.cell? ⟨b, 0, none⟩ = some (.pointer (some ⟨wb, 0, none⟩)) := HTa.out.2.cell 0; clear Ca)
        | (refine ⟨trivial, ?_⟩; gi_at_call 88; refine (HPO.out _).mono ?_; rintro e wz ⟨gn, rfl, Oz, Cz, gz⟩; have HTb := Lib.hid (And.intro (HTa.out.1.keep Cz) (HTa.out.2.chg Cz (by simp))); have kz : wz.cell? ⟨b, 0, none⟩ = some (.pointer (some ⟨wb, 0, none⟩)) := HTb.out.2.cell 0; have d6 := HTb.out.1.cell 6; have z6 := HTb.out.1.frozen 6; simp only [wkCells] at d6; have HO := Lib.hid (And.intro Oz (show W.heap.size ≤ gn by have := HTa.out.1.size; omega)); have HCz := Lib.hid ((HCa.out.then Cz (by simp)).weak (S := [wb])); clear Oz Cz gz))
      all_goals exact ⟨rfl, Blk.setCell_other HTb.out.2 _ hwbb, ⟨some gn, HTb.out.1.op HO.out.1 (OkOp.new (HTb.out.1.opAt HK.out.1).1 (HTb.out.1.opAt HK.out.1).2 HTb.out.1.rig.ok.cap (by omega) (by omega)) HO.out.2⟩, HCz.out.setCell (.inl (by simp)) _⟩
    · rintro e a' w' ⟨rfl, hB', ⟨ob'', T'⟩, C'⟩
      have hk1 := HK1.out.trans (keepsO_of C' HX2.out.1.rig.wk)
      gi_wp2
      exact ⟨hk1, fun _ => tab_chg HT.out T'.chg (HH.out.rig.ne0 HT.out), hB', ob'', by rw [HSN.out]; exact T'⟩
  case done =>
    rintro D ys W2 hD hys ⟨hB, ob', T⟩ hK
    have hmem := members8 hs8
    have hwo : worstOf r.s0 = (ys.map Fin.val).getLast? := by unfold worstOf; rw [← hmem, hys]
    have HPH : phaseR good r w M u = (match worstOf r.s0 with
      | none => (r, { w with done := true, err := 7 }, M, u)
      | some l => (r, { w with level := l, op := some (newD (r.at w.kind l) r.cap 1 0), next := .popping }, M, u)) := by
      unfold phaseR
      rw [HK.out.2.1]
      rfl
    rw [hwo] at HPH
    have HD := Lib.hid (And.intro hD hK)
    have hDW : W.heap.size ≤ D := by have := HC0.out.size; omega
    rcases List.eq_nil_or_concat ys with rfl | ⟨pre, x, rfl⟩
    · have T : Tr W W2 wb rb bm bw gv none ob' r w M u := T
      have hob : ob' = none := by
        have h := T.rig.op
        rw [HK.out.2.2] at h
        cases ob' with
        | none => rfl
        | some g => exact h.elim
      subst hob
      have HPS := Lib.hid (show phaseR good r w M u = (r, { w with done := true, err := 7 }, M, u) from HPH)
      have c6 : W2.cell? ⟨wb, 6, none⟩ = some (.pointer none) := T.cell 6
      have kb : W2.cell? ⟨b, 0, none⟩ = some (.pointer (some ⟨wb, 0, none⟩)) := hB.cell 0
      have HE := Lib.hid (callsIn_wide (n := 5) |>.2 (wend_any wb rb gv none w 7 W2 T.rig.wk))
      have HTT := Lib.hid T
      have HBB := Lib.hid hB
      have hne : b ≠ wb := blk_ne hB T.rig.wk (by decide)
      have HNE := Lib.hid hne
      clear T hB HPH hK hys hwo hmem q0 k1 T0 hne
      gi_wp2_with (refine ⟨trivial, ?_⟩; gi_at_call 83; refine HE.out.mono ?_; rintro e w3 ⟨rfl, B3, C3⟩)
      have HZ := Lib.hid (HTT.out.end_ 7 B3 C3)
      have hD3 : D ≠ wb := fun e => by
        subst e
        have h3 : W2.heap[D]? = some (.cells _ _ (0, 0)) := HTT.out.rig.wk
        rw [h3] at HD; cases HD.out.2
      have hK3 : w3.heap[D]? = some (.deferred (some [])) := (C3.block D (Array.getElem?_eq_some_iff.1 HD.out.2).1 (by simp; exact hD3)).trans HD.out.2
      refine ⟨by simp, .inl ⟨_, _, rfl, run_takeDeferred hK3, ?_⟩⟩
      exact ⟨_, results_none rfl _ _ _, (HZ.out.grown (grownBy_putObj' _ D _) (fun g e => by cases e; exact ⟨hDW, _, hK3, rfl⟩)).fin HPS.out rfl⟩
    · rw [List.concat_eq_append] at hys hwo T HPH
      rw [afterW_snoc] at T
      have HPS := Lib.hid (show phaseR good r w M u = (r, { w with level := x.val, op := some (newD (r.at w.kind x.val) r.cap 1 0), next := .popping }, M, u) from by
        rw [HPH]; simp)
      obtain ⟨g, hg, _⟩ := T.rig.opOf rfl
      subst hg
      have c6 : W2.cell? ⟨wb, 6, none⟩ = some (.pointer (some ⟨g, 0, none⟩)) := T.cell 6
      have c1 : W2.cell? ⟨wb, 1, none⟩ = some (nextV w.next) := T.cell 1
      have st1 := storeF W2 89 c1 (T.frozen 1)
      have kb : W2.cell? ⟨b, 0, none⟩ = some (.pointer (some ⟨wb, 0, none⟩)) := hB.cell 0
      have HTT := Lib.hid T
      clear T hB HPH hK hys hwo hmem q0 k1 T0
      gi_wp2_with fail
      have HZ := Lib.hid (HTT.out.next1 .popping)
      have hD3 : D ≠ wb := fun e => by
        subst e
        have h3 : W2.heap[D]? = some (.cells _ _ (0, 0)) := HTT.out.rig.wk
        rw [h3] at HD; cases HD.out.2
      have hK3 : (W2.setCell ⟨wb, 1, none⟩ (nextV .popping)).heap[D]? = some (.deferred (some [])) := (((Chg.refl [wb] W2).setCell (a := ⟨wb, 1, none⟩) (.inl (by simp)) (nextV .popping)).block D (Array.getElem?_eq_some_iff.1 HD.out.2).1 (by simp; exact hD3)).trans HD.out.2
      refine ⟨by simp, .inl ⟨_, _, rfl, run_takeDeferred hK3, ?_⟩⟩
      exact ⟨_, results_none rfl _ _ _, (HZ.out.grown (grownBy_putObj' _ D _) (fun g e => by cases e; exact ⟨hDW, _, hK3, rfl⟩)).fin HPS.out rfl⟩
  case stop =>
    rintro D c pre W _ _ h _
    exact h.elim
end Go.Proofs.YtjdbgohfedjifaaGreatDoor
