/- deque: a work at a block; its small calls. -/
import Derived.Test.YtjdbgohfedjifaaDoorDqP
import Derived.Laws.Bits64b
import Derived.Laws.BitsAllLaws
import Derived.IntWalk
import Derived.Deep.RegionHeld3
namespace Bosun
open Go Go.RowKit
def opCells (o : DOp) : Array Value := #[.int .i64 o.base, .int .i64 (o.cap : Nat), .int .i64 (o.kind : Nat), .int .i64 (o.steps : Nat), .int .u64 (o.b : Nat), .int .u64 (o.t : Nat), .int .u64 (o.x : Nat), .bool o.won, .bool o.done, .int .i64 o.err]
def BlkOp (T : TypeId) (w : World) (g : Nat) (o : DOp) : Prop := Blk w g (opCells o) T
section
variable {T : TypeId} {w w' : World} {g : Nat} {o : DOp}
theorem BlkOp.lt (h : BlkOp T w g o) : g < w.heap.size := Blk.lt h
theorem BlkOp.chg {S : List Nat} (h : BlkOp T w g o) (hc : Chg S w w') (hg : g ∉ S) : BlkOp T w' g o := Blk.chg h hc hg
theorem BlkOp.c0 (h : BlkOp T w g o) : w.cell? ⟨g, 0, none⟩ = some (.int .i64 o.base) := by rw [Blk.cell h]; rfl
theorem BlkOp.c1 (h : BlkOp T w g o) : w.cell? ⟨g, 1, none⟩ = some (.int .i64 (o.cap : Nat)) := by rw [Blk.cell h]; rfl
theorem BlkOp.c2 (h : BlkOp T w g o) : w.cell? ⟨g, 2, none⟩ = some (.int .i64 (o.kind : Nat)) := by rw [Blk.cell h]; rfl
theorem BlkOp.c3 (h : BlkOp T w g o) : w.cell? ⟨g, 3, none⟩ = some (.int .i64 (o.steps : Nat)) := by rw [Blk.cell h]; rfl
theorem BlkOp.c4 (h : BlkOp T w g o) : w.cell? ⟨g, 4, none⟩ = some (.int .u64 (o.b : Nat)) := by rw [Blk.cell h]; rfl
theorem BlkOp.c5 (h : BlkOp T w g o) : w.cell? ⟨g, 5, none⟩ = some (.int .u64 (o.t : Nat)) := by rw [Blk.cell h]; rfl
theorem BlkOp.c6 (h : BlkOp T w g o) : w.cell? ⟨g, 6, none⟩ = some (.int .u64 (o.x : Nat)) := by rw [Blk.cell h]; rfl
theorem BlkOp.c7 (h : BlkOp T w g o) : w.cell? ⟨g, 7, none⟩ = some (.bool o.won) := by rw [Blk.cell h]; rfl
theorem BlkOp.c8 (h : BlkOp T w g o) : w.cell? ⟨g, 8, none⟩ = some (.bool o.done) := by rw [Blk.cell h]; rfl
theorem BlkOp.c9 (h : BlkOp T w g o) : w.cell? ⟨g, 9, none⟩ = some (.int .i64 o.err) := by rw [Blk.cell h]; rfl
theorem BlkOp.frozen (h : BlkOp T w g o) (j : Nat) : w.frozen? ⟨g, j, none⟩ = false := Blk.frozen h j
theorem BlkOp.s3 (h : BlkOp T w g o) (n : Nat) : BlkOp T (w.setCell ⟨g, 3, none⟩ (.int .i64 (n : Nat))) g { o with steps := n } := Blk.setCell h 3 _
theorem BlkOp.s4 (h : BlkOp T w g o) (n : Nat) : BlkOp T (w.setCell ⟨g, 4, none⟩ (.int .u64 (n : Nat))) g { o with b := n } := Blk.setCell h 4 _
theorem BlkOp.s5 (h : BlkOp T w g o) (n : Nat) : BlkOp T (w.setCell ⟨g, 5, none⟩ (.int .u64 (n : Nat))) g { o with t := n } := Blk.setCell h 5 _
theorem BlkOp.s6 (h : BlkOp T w g o) (n : Nat) : BlkOp T (w.setCell ⟨g, 6, none⟩ (.int .u64 (n : Nat))) g { o with x := n } := Blk.setCell h 6 _
theorem BlkOp.s7 (h : BlkOp T w g o) (n : Bool) : BlkOp T (w.setCell ⟨g, 7, none⟩ (.bool n)) g { o with won := n } := Blk.setCell h 7 _
theorem BlkOp.s8 (h : BlkOp T w g o) (n : Bool) : BlkOp T (w.setCell ⟨g, 8, none⟩ (.bool n)) g { o with done := n } := Blk.setCell h 8 _
theorem BlkOp.s9 (h : BlkOp T w g o) (n : Int) : BlkOp T (w.setCell ⟨g, 9, none⟩ (.int .i64 n)) g { o with err := n } := Blk.setCell h 9 _
end
theorem ahd_wrap (a b : Nat) (_ha : a < 18446744073709551616) (_hb : b < 18446744073709551616) : IntKind.i64.wrap (IntKind.u64.wrap ((a : Int) - (b : Int))) = ahd a b := by
  unfold ahd
  rw [IntKind.wrap_u64, IntKind.wrap_i64, IntKind.wrap_i64]
  omega
theorem and_pow2 (k c : Nat) (h : Pow2 c) : k &&& (c - 1) = k % c := by
  obtain ⟨j, _, rfl⟩ := h
  exact Nat.and_two_pow_sub_one_eq_mod k j
end Bosun
namespace Go.Proofs.YtjdbgohfedjifaaDoor
open Go.RowKit Bosun
abbrev IsOp (w : World) (g : Nat) (o : DOp) : Prop := BlkOp 91 w g o
theorem ahead_any (a b : Nat) (ha : a < 18446744073709551616) (hb : b < 18446744073709551616) (w : World) : Calls Tryd.prog 66 #[.int .u64 (a : Nat), .int .u64 (b : Nat)] w fun e w' => e = .returned (.int .i64 (ahd a b)) ∧ w = w' := by
  have HE := Lib.hid (ahd_wrap a b ha hb)
  clear ha hb
  go_enter Tryd.func66, Tryd.ntmps66
  go_wp2_with fail
  go_ret
  exact ⟨ret_int (Eq.trans (IntWalk.i64_left _).symm HE.out), rfl⟩
theorem place_any (base : Int) (h0 : -100 ≤ base) (h1 : base ≤ 1000000) (cap : Nat) (hc : Pow2 cap) (k : Nat) (hk : k < 18446744073709551616) (w : World) :
    Calls Tryd.prog 65 #[.agg #[.int .i64 base, .int .i64 (cap : Nat)], .int .u64 (k : Nat)] w fun e w' => e = .returned (.int .i64 (plc base cap k)) ∧ Chg [] w w' := by
  have hl := hc.le
  have hm := and_pow2 k cap hc
  have hlt : k % cap < 256 := by have := Nat.mod_lt k (show cap > 0 by omega); omega
  have eb : bits .and .u64 (k : Int) ((cap : Int) - 1) = ((k % cap : Nat) : Int) := by
    rw [show ((cap : Int) - 1) = ((cap - 1 : Nat) : Int) from by omega, bits_and_u64_nat k (cap - 1) hk (by omega), hm]
  have HB := Lib.hid eb
  obtain ⟨p, hp⟩ : ∃ p, p = k % cap := ⟨_, rfl⟩
  rw [show plc base cap k = base + 2 + ((k % cap : Nat) : Int) from rfl, ← hp]
  rw [← hp] at HB hlt
  clear eb hm hp hc
  go_enter Tryd.func65, Tryd.ntmps65
  go_wp2_with fail
  go_ret
  exact ⟨ret_int (by rw [HB.out, IntWalk.wrap64_in (p : Int) (by omega), IntWalk.wrap64_in _ (by omega)]), (Chg.refl _ _).alloc _⟩
theorem top_any (g : Nat) (o : DOp) (w : World) (h : IsOp w g o) (h0 : -100 ≤ o.base) (h1 : o.base ≤ 1000000) : Calls Tryd.prog 92 #[.pointer (some ⟨g, 0, none⟩)] w fun e w' => e = .returned (.int .i64 o.base) ∧ w = w' := by
  have c0 := h.c0
  clear h
  obtain ⟨b, hb⟩ : ∃ b, b = o.base := ⟨_, rfl⟩
  rw [← hb] at c0 h0 h1 ⊢
  clear hb
  go_enter Tryd.func92, Tryd.ntmps92
  go_wp2_with fail
  go_ret
  exact ⟨rfl, rfl⟩
theorem bottom_any (g : Nat) (o : DOp) (w : World) (h : IsOp w g o) (h0 : -100 ≤ o.base) (h1 : o.base ≤ 1000000) : Calls Tryd.prog 91 #[.pointer (some ⟨g, 0, none⟩)] w fun e w' => e = .returned (.int .i64 (o.base + 1)) ∧ w = w' := by
  have c0 := h.c0
  clear h
  obtain ⟨b, hb⟩ : ∃ b, b = o.base := ⟨_, rfl⟩
  rw [← hb] at c0 h0 h1 ⊢
  clear hb
  go_enter Tryd.func91, Tryd.ntmps91
  go_wp2_with fail
  go_ret
  exact ⟨rfl, rfl⟩
theorem end_any (g : Nat) (o : DOp) (w : World) (h : IsOp w g o) (r : Int) : Calls Tryd.prog 93 #[.pointer (some ⟨g, 0, none⟩), .int .i64 r] w fun e w' => e = .returned (.tuple #[]) ∧ IsOp w' g { o with done := true, err := r } ∧ Chg [g] w w' := by
  have c8 := h.c8
  have c9 := h.c9
  have f8 := h.frozen 8
  have f9 := h.frozen 9
  have HH := Lib.hid h
  clear h
  go_enter Tryd.func93, Tryd.ntmps93
  go_wp2_with fail
  go_end0
  exact ⟨rfl, (HH.out.s8 true).s9 r, ((Chg.refl _ _).setCell (.inl (by simp)) _).setCell (.inl (by simp)) _⟩
theorem done_any (g : Nat) (o : DOp) (w : World) (h : IsOp w g o) : Calls Tryd.prog 72 #[.pointer (some ⟨g, 0, none⟩)] w fun e w' => e = .returned (.bool o.done) ∧ w = w' := by
  have c8 := h.c8
  clear h
  go_enter Tryd.func72, Tryd.ntmps72
  go_wp2_with fail
  go_ret
  exact ⟨rfl, rfl⟩
theorem steps_any (g : Nat) (o : DOp) (w : World) (h : IsOp w g o) : Calls Tryd.prog 77 #[.pointer (some ⟨g, 0, none⟩)] w fun e w' => e = .returned (.int .i64 (o.steps : Nat)) ∧ w = w' := by
  have c3 := h.c3
  clear h
  go_enter Tryd.func77, Tryd.ntmps77
  go_wp2_with fail
  go_ret
  exact ⟨rfl, rfl⟩
set_option maxHeartbeats 1000000 in
theorem take_any (g : Nat) (o : DOp) (w : World) (h : IsOp w g o) (h0 : -100 ≤ o.base) (h1 : o.base ≤ 1000000) (bm bw : Nat) (W : List Nat) (u : Nat) (hm : IsMem w bm bw W u) (n1 : g ≠ bm) (n2 : g ≠ bw) :
    Calls Tryd.prog 95 #[.pointer (some ⟨g, 0, none⟩), .pointer (some ⟨bm, 0, none⟩)] w fun e w' => e = .returned (.bool (wins W o.base o.t)) ∧ IsOp w' g o ∧ IsMem w' bm bw (if wins W o.base o.t then setA W o.base (add1 o.t) else W) (tick W o.base u) ∧ Chg [bm, bw] w w' := by
  have c5 := h.c5
  have HH := Lib.hid h
  have HT := Lib.hid (fun w h => top_any g o w h h0 h1)
  have hlt := add1_lt o.t
  have ew : IntKind.u64.wrap ((o.t : Int) + 1) = (add1 o.t : Nat) := by rw [IntKind.wrap_u64]; rfl
  obtain ⟨m, hm1⟩ : ∃ m, m = add1 o.t := ⟨_, rfl⟩
  rw [← hm1] at ew hlt ⊢
  obtain ⟨t, ht⟩ : ∃ t, t = o.t := ⟨_, rfl⟩
  rw [← ht] at c5 ew ⊢
  have HTT := Lib.hid ht
  have HC := Lib.hid (fun w hm => cas_any bm bw W u w hm o.base t m hlt)
  obtain ⟨q, hq⟩ : ∃ q, q = wins W o.base t := ⟨_, rfl⟩
  rw [← hq] at HC ⊢
  obtain ⟨W2, hW2⟩ : ∃ W2, W2 = (if q then setA W o.base m else W) := ⟨_, rfl⟩
  rw [← hW2] at HC ⊢
  clear hq hW2
  clear hm1 ht h
  go_enter Tryd.func95, Tryd.ntmps95
  go_wp2_with fail
  go_region_held3 (fun w' => w'.cell? ⟨g, 5, none⟩ = some (.int .u64 (t : Nat))) (first | assumption | exact c5)
    (first
      | (go_at_call 92; refine (HT.out _ (HH.out.chg (Chg.refl [] _).drew (by simp))).mono ?_; rintro e w2 ⟨rfl, rfl⟩)
      | (go_at_call 97; refine (HC.out _ hm.drew).mono ?_; rintro e w3 ⟨rfl, M3, C3⟩; have H3 := HH.out.chg C3.undrew (by simp; exact ⟨n1, n2⟩); have k3 : w3.cell? ⟨g, 5, none⟩ = some (.int .u64 (t : Nat)) := (by rw [HTT.out]; exact H3.c5)))
  go_wp2_with fail
  go_ret
  exact ⟨rfl, H3, M3, C3.undrew⟩
end Go.Proofs.YtjdbgohfedjifaaDoor
