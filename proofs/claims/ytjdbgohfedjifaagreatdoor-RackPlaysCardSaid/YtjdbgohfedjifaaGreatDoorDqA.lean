/- A deque's works, plainly: what each step makes of a work and of the words. No program in sight. -/
import Derived.Test.YtjdbgohfedjifaaGreatDoorMm
import Derived.Laws.Bits64b
import Derived.Laws.BitsAllLaws
import Derived.IntWalk
import Derived.Deep.RegionHeld3
namespace Bosun
open Go
/-- How far one number is ahead of another one. -/
def ahd (a b : Nat) : Int := IntKind.i64.wrap ((a : Int) - (b : Int))
def add1 (k : Nat) : Nat := (k + 1) % 18446744073709551616
def sub1 (k : Nat) : Nat := (k + 18446744073709551615) % 18446744073709551616
theorem add1_lt (k : Nat) : add1 k < 18446744073709551616 := Nat.mod_lt _ (by omega)
theorem sub1_lt (k : Nat) : sub1 k < 18446744073709551616 := Nat.mod_lt _ (by omega)
/-- The address of a number's place. -/
def plc (base : Int) (cap k : Nat) : Int := base + 2 + ((k % cap : Nat) : Int)
/-- How many places there are. -/
def Pow2 (c : Nat) : Prop := ∃ j, j ≤ 8 ∧ c = 2 ^ j
theorem Pow2.cases {c : Nat} (h : Pow2 c) : c = 1 ∨ c = 2 ∨ c = 4 ∨ c = 8 ∨ c = 16 ∨ c = 32 ∨ c = 64 ∨ c = 128 ∨ c = 256 := by
  obtain ⟨j, hj, rfl⟩ := h
  match j, hj with
  | 0, _ | 1, _ | 2, _ | 3, _ | 4, _ | 5, _ | 6, _ | 7, _ | 8, _ => simp
theorem Pow2.le {c : Nat} (h : Pow2 c) : 1 ≤ c ∧ c ≤ 256 := by rcases h.cases with rfl | rfl | rfl | rfl | rfl | rfl | rfl | rfl | rfl <;> omega
/-- A work: kind 0 a push, 1 a pop, 2 a steal. -/
structure DOp where
  base : Int
  cap : Nat
  kind : Nat
  steps : Nat
  b : Nat
  t : Nat
  x : Nat
  won : Bool
  done : Bool
  err : Int
def stepD (o : DOp) (W : List Nat) (u : Nat) : DOp × List Nat × Nat :=
  if o.done then (o, W, u) else
  match o.kind, o.steps with
  | 0, 0 => ({ o with steps := 1, b := getA W (o.base + 1) }, W, tick W (o.base + 1) u)
  | 0, 1 => (if (o.cap : Int) ≤ ahd o.b (getA W o.base) then { o with steps := 2, t := getA W o.base, done := true, err := 6 } else { o with steps := 2, t := getA W o.base }, W, tick W o.base u)
  | 0, 2 => ({ o with steps := 3 }, setA W (plc o.base o.cap o.b) o.x, tick W (plc o.base o.cap o.b) u)
  | 0, _ => ({ o with steps := 4, done := true, err := 0 }, setA W (o.base + 1) (add1 o.b), tick W (o.base + 1) u)
  | 1, 0 => ({ o with steps := 1, b := sub1 (getA W (o.base + 1)) }, W, tick W (o.base + 1) u)
  | 1, 1 => ({ o with steps := 2 }, setA W (o.base + 1) o.b, tick W (o.base + 1) u)
  | 1, 2 => ({ o with steps := 3, t := getA W o.base }, W, tick W o.base u)
  | 1, 3 => if 0 < ahd o.t o.b then ({ o with steps := 4, done := true, err := 7 }, setA W (o.base + 1) o.t, tick W (o.base + 1) u)
    else (if 0 < ahd o.b o.t then { o with steps := 4, x := getA W (plc o.base o.cap o.b), done := true, err := 0 } else { o with steps := 4, x := getA W (plc o.base o.cap o.b) }, W, tick W (plc o.base o.cap o.b) u)
  | 1, 4 => ({ o with steps := 5, won := wins W o.base o.t }, if wins W o.base o.t then setA W o.base (add1 o.t) else W, tick W o.base u)
  | 1, _ => ({ o with steps := 6, done := true, err := if o.won then 0 else 7 }, setA W (o.base + 1) (add1 o.t), tick W (o.base + 1) u)
  | _, 0 => ({ o with steps := 1, t := getA W o.base }, W, tick W o.base u)
  | _, 1 => (if ahd (getA W (o.base + 1)) o.t ≤ 0 then { o with steps := 2, b := getA W (o.base + 1), done := true, err := 7 } else { o with steps := 2, b := getA W (o.base + 1) }, W, tick W (o.base + 1) u)
  | _, 2 => ({ o with steps := 3, x := getA W (plc o.base o.cap o.t) }, W, tick W (plc o.base o.cap o.t) u)
  | _, _ => ({ o with steps := 4, done := true, err := if wins W o.base o.t then 0 else 8 }, if wins W o.base o.t then setA W o.base (add1 o.t) else W, tick W o.base u)
/-- What is so of every work. -/
structure OkOp (o : DOp) : Prop where
  kind : o.kind ≤ 2
  steps : o.done = false → o.steps < (if o.kind = 1 then 6 else 4)
  err : o.done = false → o.err = 0
  cap : Pow2 o.cap
  b0 : -100 ≤ o.base
  b1 : o.base ≤ 1000000
  b : o.b < 18446744073709551616
  t : o.t < 18446744073709551616
  x : o.x < 18446744073709551616
  e0 : 0 ≤ o.err
  e1 : o.err ≤ 15
  s : o.steps ≤ 6
/-- A new work. -/
def newD (base : Int) (cap kind x : Nat) : DOp := ⟨base, cap, kind, 0, 0, 0, x, false, false, 0⟩
theorem OkOp.new {base : Int} {cap kind x : Nat} (h0 : -100 ≤ base) (h1 : base ≤ 1000000) (hc : Pow2 cap) (hk : kind ≤ 2) (hx : x < 18446744073709551616) : OkOp (newD base cap kind x) :=
  ⟨hk, fun _ => by show 0 < _; split <;> omega, fun _ => rfl, hc, h0, h1, by show 0 < _; omega, by show 0 < _; omega, hx, by show (0 : Int) ≤ 0; omega, by show (0 : Int) ≤ 15; omega, by show 0 ≤ 6; omega⟩
def resD (o : DOp) : Nat × Int := if o.done = false then (0, 14) else if o.err ≠ 0 then (0, o.err) else (o.x, 0)
end Bosun

/- deque: a work at a block; its small calls. -/
namespace Bosun
open Go Go.RowKit
def opCells (o : DOp) : Array Value := #[.int .i64 o.base, .int .i64 (o.cap : Nat), .int .i64 (o.kind : Nat), .int .i64 (o.steps : Nat), .int .u64 (o.b : Nat), .int .u64 (o.t : Nat), .int .u64 (o.x : Nat), .bool o.won, .bool o.done, .int .i64 o.err]
def BlkOp (T : TypeId) (w : World) (g : Nat) (o : DOp) : Prop := Blk w g (opCells o) T
section
variable {T : TypeId} {w w' : World} {g : Nat} {o : DOp}
theorem BlkOp.lt (h : BlkOp T w g o) : g < w.heap.size := Blk.lt h
theorem BlkOp.chg {S : List Nat} (h : BlkOp T w g o) (hc : Chg S w w') (hg : g ∉ S) : BlkOp T w' g o := Blk.chg h hc hg
theorem BlkOp.c0 (h : BlkOp T w g o) : w.cell? ⟨g, 0, none⟩ = some (.int .i64 o.base) := by rw [Blk.cell h]; rfl
theorem BlkOp.c1 (h : BlkOp T w g o) : w.cell? ⟨g, 1, none⟩ = some (.int .i64 (o.cap : Nat)) := by rw [Blk.cell h]; rfl
theorem BlkOp.c2 (h : BlkOp T w g o) : w.cell? ⟨g, 2, none⟩ = some (.int .i64 (o.kind : Nat)) := by rw [Blk.cell h]; rfl
theorem BlkOp.c3 (h : BlkOp T w g o) : w.cell? ⟨g, 3, none⟩ = some (.int .i64 (o.steps : Nat)) := by rw [Blk.cell h]; rfl
theorem BlkOp.c4 (h : BlkOp T w g o) : w.cell? ⟨g, 4, none⟩ = some (.int .u64 (o.b : Nat)) := by rw [Blk.cell h]; rfl
theorem BlkOp.c5 (h : BlkOp T w g o) : w.cell? ⟨g, 5, none⟩ = some (.int .u64 (o.t : Nat)) := by rw [Blk.cell h]; rfl
theorem BlkOp.c6 (h : BlkOp T w g o) : w.cell? ⟨g, 6, none⟩ = some (.int .u64 (o.x : Nat)) := by rw [Blk.cell h]; rfl
theorem BlkOp.c7 (h : BlkOp T w g o) : w.cell? ⟨g, 7, none⟩ = some (.bool o.won) := by rw [Blk.cell h]; rfl
theorem BlkOp.c8 (h : BlkOp T w g o) : w.cell? ⟨g, 8, none⟩ = some (.bool o.done) := by rw [Blk.cell h]; rfl
theorem BlkOp.c9 (h : BlkOp T w g o) : w.cell? ⟨g, 9, none⟩ = some (.int .i64 o.err) := by rw [Blk.cell h]; rfl
theorem BlkOp.frozen (h : BlkOp T w g o) (j : Nat) : w.frozen? ⟨g, j, none⟩ = false := Blk.frozen h j
theorem BlkOp.s3 (h : BlkOp T w g o) (n : Nat) : BlkOp T (w.setCell ⟨g, 3, none⟩ (.int .i64 (n : Nat))) g { o with steps := n } := Blk.setCell h 3 _
theorem BlkOp.s4 (h : BlkOp T w g o) (n : Nat) : BlkOp T (w.setCell ⟨g, 4, none⟩ (.int .u64 (n : Nat))) g { o with b := n } := Blk.setCell h 4 _
theorem BlkOp.s5 (h : BlkOp T w g o) (n : Nat) : BlkOp T (w.setCell ⟨g, 5, none⟩ (.int .u64 (n : Nat))) g { o with t := n } := Blk.setCell h 5 _
theorem BlkOp.s6 (h : BlkOp T w g o) (n : Nat) : BlkOp T (w.setCell ⟨g, 6, none⟩ (.int .u64 (n : Nat))) g { o with x := n } := Blk.setCell h 6 _
theorem BlkOp.s7 (h : BlkOp T w g o) (n : Bool) : BlkOp T (w.setCell ⟨g, 7, none⟩ (.bool n)) g { o with won := n } := Blk.setCell h 7 _
theorem BlkOp.s8 (h : BlkOp T w g o) (n : Bool) : BlkOp T (w.setCell ⟨g, 8, none⟩ (.bool n)) g { o with done := n } := Blk.setCell h 8 _
theorem BlkOp.s9 (h : BlkOp T w g o) (n : Int) : BlkOp T (w.setCell ⟨g, 9, none⟩ (.int .i64 n)) g { o with err := n } := Blk.setCell h 9 _
end
theorem ahd_wrap (a b : Nat) (_ha : a < 18446744073709551616) (_hb : b < 18446744073709551616) : IntKind.i64.wrap (IntKind.u64.wrap ((a : Int) - (b : Int))) = ahd a b := by
  unfold ahd
  rw [IntKind.wrap_u64, IntKind.wrap_i64, IntKind.wrap_i64]
  omega
theorem and_pow2 (k c : Nat) (h : Pow2 c) : k &&& (c - 1) = k % c := by
  obtain ⟨j, _, rfl⟩ := h
  exact Nat.and_two_pow_sub_one_eq_mod k j
end Bosun
namespace Go.Proofs.YtjdbgohfedjifaaGreatDoor
open Go.RowKit Bosun
abbrev IsOp (w : World) (g : Nat) (o : DOp) : Prop := BlkOp 134 w g o
theorem ahead_any (a b : Nat) (ha : a < 18446744073709551616) (hb : b < 18446744073709551616) (w : World) : Calls Tryz.prog 99 #[.int .u64 (a : Nat), .int .u64 (b : Nat)] w fun e w' => e = .returned (.int .i64 (ahd a b)) ∧ w = w' := by
  have HE := Lib.hid (ahd_wrap a b ha hb)
  clear ha hb
  go_enter Tryz.func99, Tryz.ntmps99
  go_wp2_with fail
  go_ret
  exact ⟨ret_int (Eq.trans (IntWalk.i64_left _).symm HE.out), rfl⟩
theorem place_any (base : Int) (h0 : -100 ≤ base) (h1 : base ≤ 1000000) (cap : Nat) (hc : Pow2 cap) (k : Nat) (hk : k < 18446744073709551616) (w : World) :
    Calls Tryz.prog 79 #[.agg #[.int .i64 base, .int .i64 (cap : Nat)], .int .u64 (k : Nat)] w fun e w' => e = .returned (.int .i64 (plc base cap k)) ∧ Chg [] w w' := by
  have hl := hc.le
  have hm := and_pow2 k cap hc
  have hlt : k % cap < 256 := by have := Nat.mod_lt k (show cap > 0 by omega); omega
  have eb : bits .and .u64 (k : Int) ((cap : Int) - 1) = ((k % cap : Nat) : Int) := by
    rw [show ((cap : Int) - 1) = ((cap - 1 : Nat) : Int) from by omega, bits_and_u64_nat k (cap - 1) hk (by omega), hm]
  have HB := Lib.hid eb
  obtain ⟨p, hp⟩ : ∃ p, p = k % cap := ⟨_, rfl⟩
  rw [show plc base cap k = base + 2 + ((k % cap : Nat) : Int) from rfl, ← hp]
  rw [← hp] at HB hlt
  clear eb hm hp hc
  go_enter Tryz.func79, Tryz.ntmps79
  go_wp2_with fail
  go_ret
  exact ⟨ret_int (by rw [HB.out, IntWalk.wrap64_in (p : Int) (by omega), IntWalk.wrap64_in _ (by omega)]), (Chg.refl _ _).alloc _⟩
theorem top_any (g : Nat) (o : DOp) (w : World) (h : IsOp w g o) (h0 : -100 ≤ o.base) (h1 : o.base ≤ 1000000) : Calls Tryz.prog 126 #[.pointer (some ⟨g, 0, none⟩)] w fun e w' => e = .returned (.int .i64 o.base) ∧ w = w' := by
  have c0 := h.c0
  clear h
  obtain ⟨b, hb⟩ : ∃ b, b = o.base := ⟨_, rfl⟩
  rw [← hb] at c0 h0 h1 ⊢
  clear hb
  go_enter Tryz.func126, Tryz.ntmps126
  go_wp2_with fail
  go_ret
  exact ⟨rfl, rfl⟩
theorem bottom_any (g : Nat) (o : DOp) (w : World) (h : IsOp w g o) (h0 : -100 ≤ o.base) (h1 : o.base ≤ 1000000) : Calls Tryz.prog 125 #[.pointer (some ⟨g, 0, none⟩)] w fun e w' => e = .returned (.int .i64 (o.base + 1)) ∧ w = w' := by
  have c0 := h.c0
  clear h
  obtain ⟨b, hb⟩ : ∃ b, b = o.base := ⟨_, rfl⟩
  rw [← hb] at c0 h0 h1 ⊢
  clear hb
  go_enter Tryz.func125, Tryz.ntmps125
  go_wp2_with fail
  go_ret
  exact ⟨rfl, rfl⟩
theorem end_any (g : Nat) (o : DOp) (w : World) (h : IsOp w g o) (r : Int) : Calls Tryz.prog 127 #[.pointer (some ⟨g, 0, none⟩), .int .i64 r] w fun e w' => e = .returned (.tuple #[]) ∧ IsOp w' g { o with done := true, err := r } ∧ Chg [g] w w' := by
  have c8 := h.c8
  have c9 := h.c9
  have f8 := h.frozen 8
  have f9 := h.frozen 9
  have HH := Lib.hid h
  clear h
  go_enter Tryz.func127, Tryz.ntmps127
  go_wp2_with fail
  go_end0
  exact ⟨rfl, (HH.out.s8 true).s9 r, ((Chg.refl _ _).setCell (.inl (by simp)) _).setCell (.inl (by simp)) _⟩
theorem done_any (g : Nat) (o : DOp) (w : World) (h : IsOp w g o) : Calls Tryz.prog 113 #[.pointer (some ⟨g, 0, none⟩)] w fun e w' => e = .returned (.bool o.done) ∧ w = w' := by
  have c8 := h.c8
  clear h
  go_enter Tryz.func113, Tryz.ntmps113
  go_wp2_with fail
  go_ret
  exact ⟨rfl, rfl⟩
theorem steps_any (g : Nat) (o : DOp) (w : World) (h : IsOp w g o) : Calls Tryz.prog 118 #[.pointer (some ⟨g, 0, none⟩)] w fun e w' => e = .returned (.int .i64 (o.steps : Nat)) ∧ w = w' := by
  have c3 := h.c3
  clear h
  go_enter Tryz.func118, Tryz.ntmps118
  go_wp2_with fail
  go_ret
  exact ⟨rfl, rfl⟩
set_option maxHeartbeats 1000000 in
theorem take_any (g : Nat) (o : DOp) (w : World) (h : IsOp w g o) (h0 : -100 ≤ o.base) (h1 : o.base ≤ 1000000) (bm bw : Nat) (W : List Nat) (u : Nat) (hm : IsMem w bm bw W u) (n1 : g ≠ bm) (n2 : g ≠ bw) :
    Calls Tryz.prog 129 #[.pointer (some ⟨g, 0, none⟩), .pointer (some ⟨bm, 0, none⟩)] w fun e w' => e = .returned (.bool (wins W o.base o.t)) ∧ IsOp w' g o ∧ IsMem w' bm bw (if wins W o.base o.t then setA W o.base (add1 o.t) else W) (tick W o.base u) ∧ Chg [bm, bw] w w' := by
  have c5 := h.c5
  have HH := Lib.hid h
  have HT := Lib.hid (fun w h => top_any g o w h h0 h1)
  have hlt := add1_lt o.t
  have ew : IntKind.u64.wrap ((o.t : Int) + 1) = (add1 o.t : Nat) := by rw [IntKind.wrap_u64]; rfl
  obtain ⟨m, hm1⟩ : ∃ m, m = add1 o.t := ⟨_, rfl⟩
  rw [← hm1] at ew hlt ⊢
  obtain ⟨t, ht⟩ : ∃ t, t = o.t := ⟨_, rfl⟩
  rw [← ht] at c5 ew ⊢
  have HTT := Lib.hid ht
  have HC := Lib.hid (fun w hm => cas_any bm bw W u w hm o.base t m hlt)
  obtain ⟨q, hq⟩ : ∃ q, q = wins W o.base t := ⟨_, rfl⟩
  rw [← hq] at HC ⊢
  obtain ⟨W2, hW2⟩ : ∃ W2, W2 = (if q then setA W o.base m else W) := ⟨_, rfl⟩
  rw [← hW2] at HC ⊢
  clear hq hW2
  clear hm1 ht h
  go_enter Tryz.func129, Tryz.ntmps129
  go_wp2_with fail
  go_region_held3 (fun w' => w'.cell? ⟨g, 5, none⟩ = some (.int .u64 (t : Nat))) (first | assumption | exact c5)
    (first
      | (go_at_call 126; refine (HT.out _ (HH.out.chg (Chg.refl [] _).drew (by simp))).mono ?_; rintro e w2 ⟨rfl, rfl⟩)
      | (go_at_call 131; refine (HC.out _ hm.drew).mono ?_; rintro e w3 ⟨rfl, M3, C3⟩; have H3 := HH.out.chg C3.undrew (by simp; exact ⟨n1, n2⟩); have k3 : w3.cell? ⟨g, 5, none⟩ = some (.int .u64 (t : Nat)) := (by rw [HTT.out]; exact H3.c5)))
  go_wp2_with fail
  go_ret
  exact ⟨rfl, H3, M3, C3.undrew⟩
end Go.Proofs.YtjdbgohfedjifaaGreatDoor

/- How many words a deque has, and which, plainly. No program in sight. -/
namespace Bosun
open Go
/-- How many words a deque has, and which. -/
def lenD (base : Int) (cap : Nat) (W : List Nat) : Nat := (min (max (ahd (getA W (base + 1)) (getA W base)) 0) (cap : Int)).toNat
def allD (base : Int) (cap : Nat) (W : List Nat) : List Nat := (List.range (lenD base cap W)).map fun i => getA W (plc base cap ((getA W (base + 1) + (18446744073709551616 - lenD base cap W) + i) % 18446744073709551616))
theorem lenD_le (base : Int) (cap : Nat) (W : List Nat) : lenD base cap W ≤ cap := by unfold lenD; omega
end Bosun

/- deque: the steps of a push. -/
namespace Go.Proofs.YtjdbgohfedjifaaGreatDoor
open Go.RowKit Bosun
set_option maxHeartbeats 1000000 in
theorem push1_any (g : Nat) (o : DOp) (w : World) (h : IsOp w g o) (hs : o.steps = 1) (h0 : -100 ≤ o.base) (h1 : o.base ≤ 1000000) (bm bw : Nat) (W : List Nat) (u : Nat) (hm : IsMem w bm bw W u) (n1 : g ≠ bm) (n2 : g ≠ bw) :
    Calls Tryz.prog 114 #[.pointer (some ⟨g, 0, none⟩), .pointer (some ⟨bm, 0, none⟩)] w fun e w' => e = .returned (.tuple #[]) ∧ IsOp w' g { o with b := getA W (o.base + 1) } ∧ IsMem w' bm bw W (tick W (o.base + 1) u) ∧ Chg [g, bm, bw] w w' := by
  have c3 : w.cell? ⟨g, 3, none⟩ = some (.int .i64 1) := by rw [h.c3, hs]; rfl
  have HH := Lib.hid h
  have HB := Lib.hid (fun w h => bottom_any g o w h h0 h1)
  have HL := Lib.hid (fun w hm => load_any bm bw W u w hm (o.base + 1))
  obtain ⟨x, hx⟩ : ∃ x, x = getA W (o.base + 1) := ⟨_, rfl⟩
  rw [← hx] at HL ⊢
  clear hs h hx
  go_enter Tryz.func114, Tryz.ntmps114
  go_wp2_with fail
  refine (HB.out _ HH.out).mono ?_
  rintro e w1 ⟨rfl, rfl⟩
  go_wp2_with fail
  refine (HL.out _ hm).mono ?_
  rintro e w2 ⟨rfl, M2, C2⟩
  have H2 := HH.out.chg C2 (by simp; exact n1)
  have d4 := H2.c4
  have f4 := H2.frozen 4
  go_wp2_with fail
  go_end0
  have CS := fun v => (Chg.refl [g] w2).setCell (a := ⟨g, 4, none⟩) (.inl (by simp)) v
  exact ⟨rfl, H2.s4 x, M2.chg (CS _) (by simp; exact n1.symm) (by simp; exact n2.symm), (C2.mono (fun g hg => .inl (by simp at hg ⊢; omega))).then (CS _) (fun g hg => .inl (by simp at hg ⊢; omega))⟩
set_option maxHeartbeats 2000000 in
theorem push2_any (g : Nat) (o : DOp) (w : World) (h : IsOp w g o) (hs : o.steps = 2) (h0 : -100 ≤ o.base) (h1 : o.base ≤ 1000000) (hb : o.b < 18446744073709551616) (bm bw : Nat) (W : List Nat) (u : Nat) (hm : IsMem w bm bw W u) (n1 : g ≠ bm) (n2 : g ≠ bw) :
    Calls Tryz.prog 114 #[.pointer (some ⟨g, 0, none⟩), .pointer (some ⟨bm, 0, none⟩)] w fun e w' => e = .returned (.tuple #[]) ∧ IsOp w' g (if (o.cap : Int) ≤ ahd o.b (getA W o.base) then { o with t := getA W o.base, done := true, err := 6 } else { o with t := getA W o.base }) ∧ IsMem w' bm bw W (tick W o.base u) ∧ Chg [g, bm, bw] w w' := by
  have c3 : w.cell? ⟨g, 3, none⟩ = some (.int .i64 2) := by rw [h.c3, hs]; rfl
  have HH := Lib.hid h
  have HB := Lib.hid (fun w h => top_any g o w h h0 h1)
  have HL := Lib.hid (fun w hm => load_any bm bw W u w hm o.base)
  have hx0 := hm.small.getA o.base
  obtain ⟨x, hx⟩ : ∃ x, x = getA W o.base := ⟨_, rfl⟩
  rw [← hx] at HL hx0 ⊢
  have HA := Lib.hid (fun w => ahead_any o.b x hb hx0 w)
  obtain ⟨v, hv⟩ : ∃ v, v = ahd o.b x := ⟨_, rfl⟩
  rw [← hv] at HA ⊢
  clear hs h hx hv hb hx0
  by_cases hf : (o.cap : Int) ≤ v
  · rw [if_pos hf]
    go_enter Tryz.func114, Tryz.ntmps114
    go_wp2_with fail
    refine (HB.out _ HH.out).mono ?_
    rintro e w1 ⟨rfl, rfl⟩
    go_wp2_with fail
    refine (HL.out _ hm).mono ?_
    rintro e w2 ⟨rfl, M2, C2⟩
    have H2 := HH.out.chg C2 (by simp; exact n1)
    have d5 := H2.c5
    have f5 := H2.frozen 5
    go_wp2_with fail
    have CS := (Chg.refl [g] w2).setCell (a := ⟨g, 5, none⟩) (.inl (by simp)) (.int .u64 (x : Nat))
    have H3 := H2.s5 x
    have M3 := M2.chg CS (by simp; exact n1.symm) (by simp; exact n2.symm)
    have C3 := (C2.mono (S' := [g, bm, bw]) (fun g hg => .inl (by simp at hg ⊢; omega))).then CS (fun g hg => .inl (by simp at hg ⊢; omega))
    obtain ⟨w3, hw3⟩ : ∃ w3, w3 = w2.setCell ⟨g, 5, none⟩ (.int .u64 (x : Nat)) := ⟨_, rfl⟩
    rw [← hw3] at H3 M3 C3 ⊢
    clear hw3 CS d5 f5 M2 C2 H2 c3
    have k1 : w3.cell? ⟨g, 1, none⟩ = some (.int .i64 (o.cap : Nat)) := H3.c1
    have k4 := H3.c4
    have k5 : w3.cell? ⟨g, 5, none⟩ = some (.int .u64 (x : Nat)) := H3.c5
    go_region_held3 (fun w' => w'.cell? ⟨g, 1, none⟩ = some (.int .i64 (o.cap : Nat)) ∧ w'.cell? ⟨g, 4, none⟩ = some (.int .u64 (o.b : Nat)) ∧ w'.cell? ⟨g, 5, none⟩ = some (.int .u64 (x : Nat))) (first | assumption | exact ⟨k1, k4, k5⟩)
      ((go_at_call 99; refine (HA.out _).mono ?_; rintro e w4 ⟨rfl, rfl⟩))
    go_wp2_with (go_at_call 127; refine (end_any g _ _ (H3.chg (Chg.refl [] _).drew (by simp)) 6).mono ?_; rintro e w5 ⟨rfl, H5, C5⟩)
    go_end0
    exact ⟨rfl, H5, (M3.drew).chg C5 (by simp; exact n1.symm) (by simp; exact n2.symm), C3.drew.then C5 (fun g hg => .inl (by simp at hg ⊢; omega))⟩
  · rw [if_neg hf]
    have hd : decide ((o.cap : Int) ≤ v) = false := by simpa using hf
    clear hf
    go_enter Tryz.func114, Tryz.ntmps114
    go_wp2_with fail
    refine (HB.out _ HH.out).mono ?_
    rintro e w1 ⟨rfl, rfl⟩
    go_wp2_with fail
    refine (HL.out _ hm).mono ?_
    rintro e w2 ⟨rfl, M2, C2⟩
    have H2 := HH.out.chg C2 (by simp; exact n1)
    have d5 := H2.c5
    have f5 := H2.frozen 5
    go_wp2_with fail
    have CS := (Chg.refl [g] w2).setCell (a := ⟨g, 5, none⟩) (.inl (by simp)) (.int .u64 (x : Nat))
    have H3 := H2.s5 x
    have M3 := M2.chg CS (by simp; exact n1.symm) (by simp; exact n2.symm)
    have C3 := (C2.mono (S' := [g, bm, bw]) (fun g hg => .inl (by simp at hg ⊢; omega))).then CS (fun g hg => .inl (by simp at hg ⊢; omega))
    obtain ⟨w3, hw3⟩ : ∃ w3, w3 = w2.setCell ⟨g, 5, none⟩ (.int .u64 (x : Nat)) := ⟨_, rfl⟩
    rw [← hw3] at H3 M3 C3 ⊢
    clear hw3 CS d5 f5 M2 C2 H2 c3
    have k1 : w3.cell? ⟨g, 1, none⟩ = some (.int .i64 (o.cap : Nat)) := H3.c1
    have k4 := H3.c4
    have k5 : w3.cell? ⟨g, 5, none⟩ = some (.int .u64 (x : Nat)) := H3.c5
    go_region_held3 (fun w' => w'.cell? ⟨g, 1, none⟩ = some (.int .i64 (o.cap : Nat)) ∧ w'.cell? ⟨g, 4, none⟩ = some (.int .u64 (o.b : Nat)) ∧ w'.cell? ⟨g, 5, none⟩ = some (.int .u64 (x : Nat))) (first | assumption | exact ⟨k1, k4, k5⟩)
      ((go_at_call 99; refine (HA.out _).mono ?_; rintro e w4 ⟨rfl, rfl⟩))
    go_wp2_with fail
    go_end0
    exact ⟨rfl, H3.chg (Chg.refl [] _).drew (by simp), M3.drew, C3.drew⟩
set_option maxHeartbeats 2000000 in
theorem push3_any (g : Nat) (o : DOp) (w : World) (h : IsOp w g o) (hs : o.steps = 3) (h0 : -100 ≤ o.base) (h1 : o.base ≤ 1000000) (hc : Pow2 o.cap) (hb : o.b < 18446744073709551616) (hx : o.x < 18446744073709551616) (bm bw : Nat) (W : List Nat) (u : Nat) (hm : IsMem w bm bw W u) (n1 : g ≠ bm) (n2 : g ≠ bw) :
    Calls Tryz.prog 114 #[.pointer (some ⟨g, 0, none⟩), .pointer (some ⟨bm, 0, none⟩)] w fun e w' => e = .returned (.tuple #[]) ∧ IsOp w' g o ∧ IsMem w' bm bw (setA W (plc o.base o.cap o.b) o.x) (tick W (plc o.base o.cap o.b) u) ∧ Chg [g, bm, bw] w w' := by
  have c3 : w.cell? ⟨g, 3, none⟩ = some (.int .i64 3) := by rw [h.c3, hs]; rfl
  have c0 := h.c0
  have c1 := h.c1
  have c4 := h.c4
  have c6 := h.c6
  have HH := Lib.hid h
  have HB := Lib.hid (fun w => place_any o.base h0 h1 o.cap hc o.b hb w)
  have HL := Lib.hid (fun w hm => store_any bm bw W u w hm (plc o.base o.cap o.b) o.x hx)
  obtain ⟨p, hp⟩ : ∃ p, p = plc o.base o.cap o.b := ⟨_, rfl⟩
  rw [← hp] at HB HL ⊢
  have lg := h.lt
  clear hs h hp hb hx hc
  go_enter Tryz.func114, Tryz.ntmps114
  go_wp2_with fail
  go_region_held3 (fun w' => w'.cell? ⟨g, 0, none⟩ = some (.int .i64 o.base) ∧ w'.cell? ⟨g, 1, none⟩ = some (.int .i64 (o.cap : Nat)) ∧ w'.cell? ⟨g, 4, none⟩ = some (.int .u64 (o.b : Nat)) ∧ w'.cell? ⟨g, 6, none⟩ = some (.int .u64 (o.x : Nat))) (first | assumption | exact ⟨c0, c1, c4, c6⟩)
    (first
      | (go_at_call 79; refine (HB.out _).mono ?_; rintro e w2 ⟨rfl, C2⟩; have H2 := HH.out.chg C2.undrew (by simp); have M2 := hm.keep C2.undrew; have k2 := And.intro H2.c0 (And.intro H2.c1 (And.intro H2.c4 H2.c6)))
      | (go_at_call 128; refine (HL.out _ M2).mono ?_; rintro e w3 ⟨rfl, M3, C3⟩; have H3 := H2.chg C3 (by simp; exact ⟨n1, n2⟩); have k3 := And.intro H3.c0 (And.intro H3.c1 (And.intro H3.c4 H3.c6))))
  go_wp2_with fail
  go_end0
  exact ⟨rfl, H3, M3, C2.undrew.weak.then C3 (fun g hg => .inl (by simp at hg ⊢; omega))⟩
set_option maxHeartbeats 2000000 in
theorem push4_any (g : Nat) (o : DOp) (w : World) (h : IsOp w g o) (hs : o.steps = 4) (h0 : -100 ≤ o.base) (h1 : o.base ≤ 1000000) (bm bw : Nat) (W : List Nat) (u : Nat) (hm : IsMem w bm bw W u) (n1 : g ≠ bm) (n2 : g ≠ bw) :
    Calls Tryz.prog 114 #[.pointer (some ⟨g, 0, none⟩), .pointer (some ⟨bm, 0, none⟩)] w fun e w' => e = .returned (.tuple #[]) ∧ IsOp w' g { o with done := true, err := 0 } ∧ IsMem w' bm bw (setA W (o.base + 1) (add1 o.b)) (tick W (o.base + 1) u) ∧ Chg [g, bm, bw] w w' := by
  have c3 : w.cell? ⟨g, 3, none⟩ = some (.int .i64 4) := by rw [h.c3, hs]; rfl
  have c4 := h.c4
  have HH := Lib.hid h
  have HB := Lib.hid (fun w h => bottom_any g o w h h0 h1)
  have hlt := add1_lt o.b
  have ew : IntKind.u64.wrap ((o.b : Int) + 1) = (add1 o.b : Nat) := by rw [IntKind.wrap_u64]; rfl
  obtain ⟨m, hm1⟩ : ∃ m, m = add1 o.b := ⟨_, rfl⟩
  rw [← hm1] at ew hlt ⊢
  clear hm1 hs h
  go_enter Tryz.func114, Tryz.ntmps114
  go_wp2_with fail
  go_region_held3 (fun w' => w'.cell? ⟨g, 4, none⟩ = some (.int .u64 (o.b : Nat))) (first | assumption | exact c4)
    (first
      | (go_at_call 125; refine (HB.out _ (HH.out.chg (Chg.refl [] _).drew (by simp))).mono ?_; rintro e w2 ⟨rfl, rfl⟩)
      | (go_at_call 128; refine (store_any bm bw W u _ hm.drew (o.base + 1) m hlt).mono ?_; rintro e w3 ⟨rfl, M3, C3⟩; have H3 := HH.out.chg C3.undrew (by simp; exact ⟨n1, n2⟩); have k3 := H3.c4))
  go_wp2_with (go_at_call 127; refine (end_any g _ _ H3 0).mono ?_; rintro e w5 ⟨rfl, H5, C5⟩)
  go_end0
  exact ⟨rfl, H5, M3.chg C5 (by simp; exact n1.symm) (by simp; exact n2.symm), (C3.undrew.mono (fun g hg => .inl (by simp at hg ⊢; omega))).then C5 (fun g hg => .inl (by simp at hg ⊢; omega))⟩
end Go.Proofs.YtjdbgohfedjifaaGreatDoor
