/- A deque's works, plainly: what each step makes of a work and of the words. No program in sight. -/
import Derived.Test.YtjdbgohfedjifaaDoorMm
import Derived.Laws.Bits64b
import Derived.Laws.BitsAllLaws
import Derived.IntWalk
import Derived.Deep.RegionHeld3
namespace Bosun
open Go
/-- How far one number is ahead of another one. -/
def ahd (a b : Nat) : Int := IntKind.i64.wrap ((a : Int) - (b : Int))
def add1 (k : Nat) : Nat := (k + 1) % 18446744073709551616
def sub1 (k : Nat) : Nat := (k + 18446744073709551615) % 18446744073709551616
theorem add1_lt (k : Nat) : add1 k < 18446744073709551616 := Nat.mod_lt _ (by omega)
theorem sub1_lt (k : Nat) : sub1 k < 18446744073709551616 := Nat.mod_lt _ (by omega)
/-- The address of a number's place. -/
def plc (base : Int) (cap k : Nat) : Int := base + 2 + ((k % cap : Nat) : Int)
/-- How many places there are. -/
def Pow2 (c : Nat) : Prop := ∃ j, j ≤ 8 ∧ c = 2 ^ j
theorem Pow2.cases {c : Nat} (h : Pow2 c) : c = 1 ∨ c = 2 ∨ c = 4 ∨ c = 8 ∨ c = 16 ∨ c = 32 ∨ c = 64 ∨ c = 128 ∨ c = 256 := by
  obtain ⟨j, hj, rfl⟩ := h
  match j, hj with
  | 0, _ | 1, _ | 2, _ | 3, _ | 4, _ | 5, _ | 6, _ | 7, _ | 8, _ => simp
theorem Pow2.le {c : Nat} (h : Pow2 c) : 1 ≤ c ∧ c ≤ 256 := by rcases h.cases with rfl | rfl | rfl | rfl | rfl | rfl | rfl | rfl | rfl <;> omega
/-- A work: kind 0 a push, 1 a pop, 2 a steal. -/
structure DOp where
  base : Int
  cap : Nat
  kind : Nat
  steps : Nat
  b : Nat
  t : Nat
  x : Nat
  won : Bool
  done : Bool
  err : Int
def stepD (o : DOp) (W : List Nat) (u : Nat) : DOp × List Nat × Nat :=
  if o.done then (o, W, u) else
  match o.kind, o.steps with
  | 0, 0 => ({ o with steps := 1, b := getA W (o.base + 1) }, W, tick W (o.base + 1) u)
  | 0, 1 => (if (o.cap : Int) ≤ ahd o.b (getA W o.base) then { o with steps := 2, t := getA W o.base, done := true, err := 6 } else { o with steps := 2, t := getA W o.base }, W, tick W o.base u)
  | 0, 2 => ({ o with steps := 3 }, setA W (plc o.base o.cap o.b) o.x, tick W (plc o.base o.cap o.b) u)
  | 0, _ => ({ o with steps := 4, done := true, err := 0 }, setA W (o.base + 1) (add1 o.b), tick W (o.base + 1) u)
  | 1, 0 => ({ o with steps := 1, b := sub1 (getA W (o.base + 1)) }, W, tick W (o.base + 1) u)
  | 1, 1 => ({ o with steps := 2 }, setA W (o.base + 1) o.b, tick W (o.base + 1) u)
  | 1, 2 => ({ o with steps := 3, t := getA W o.base }, W, tick W o.base u)
  | 1, 3 => if 0 < ahd o.t o.b then ({ o with steps := 4, done := true, err := 7 }, setA W (o.base + 1) o.t, tick W (o.base + 1) u)
    else (if 0 < ahd o.b o.t then { o with steps := 4, x := getA W (plc o.base o.cap o.b), done := true, err := 0 } else { o with steps := 4, x := getA W (plc o.base o.cap o.b) }, W, tick W (plc o.base o.cap o.b) u)
  | 1, 4 => ({ o with steps := 5, won := wins W o.base o.t }, if wins W o.base o.t then setA W o.base (add1 o.t) else W, tick W o.base u)
  | 1, _ => ({ o with steps := 6, done := true, err := if o.won then 0 else 7 }, setA W (o.base + 1) (add1 o.t), tick W (o.base + 1) u)
  | _, 0 => ({ o with steps := 1, t := getA W o.base }, W, tick W o.base u)
  | _, 1 => (if ahd (getA W (o.base + 1)) o.t ≤ 0 then { o with steps := 2, b := getA W (o.base + 1), done := true, err := 7 } else { o with steps := 2, b := getA W (o.base + 1) }, W, tick W (o.base + 1) u)
  | _, 2 => ({ o with steps := 3, x := getA W (plc o.base o.cap o.t) }, W, tick W (plc o.base o.cap o.t) u)
  | _, _ => ({ o with steps := 4, done := true, err := if wins W o.base o.t then 0 else 8 }, if wins W o.base o.t then setA W o.base (add1 o.t) else W, tick W o.base u)
/-- What is so of every work. -/
structure OkOp (o : DOp) : Prop where
  kind : o.kind ≤ 2
  steps : o.done = false → o.steps < (if o.kind = 1 then 6 else 4)
  err : o.done = false → o.err = 0
  cap : Pow2 o.cap
  b0 : -100 ≤ o.base
  b1 : o.base ≤ 1000000
  b : o.b < 18446744073709551616
  t : o.t < 18446744073709551616
  x : o.x < 18446744073709551616
  e0 : 0 ≤ o.err
  e1 : o.err ≤ 15
  s : o.steps ≤ 6
/-- A new work. -/
def newD (base : Int) (cap kind x : Nat) : DOp := ⟨base, cap, kind, 0, 0, 0, x, false, false, 0⟩
theorem OkOp.new {base : Int} {cap kind x : Nat} (h0 : -100 ≤ base) (h1 : base ≤ 1000000) (hc : Pow2 cap) (hk : kind ≤ 2) (hx : x < 18446744073709551616) : OkOp (newD base cap kind x) :=
  ⟨hk, fun _ => by show 0 < _; split <;> omega, fun _ => rfl, hc, h0, h1, by show 0 < _; omega, by show 0 < _; omega, hx, by show (0 : Int) ≤ 0; omega, by show (0 : Int) ≤ 15; omega, by show 0 ≤ 6; omega⟩
def resD (o : DOp) : Nat × Int := if o.done = false then (0, 14) else if o.err ≠ 0 then (0, o.err) else (o.x, 0)
end Bosun

/- deque: a work at a block; its small calls. -/
namespace Bosun
open Go Go.RowKit
def opCells (o : DOp) : Array Value := #[.int .i64 o.base, .int .i64 (o.cap : Nat), .int .i64 (o.kind : Nat), .int .i64 (o.steps : Nat), .int .u64 (o.b : Nat), .int .u64 (o.t : Nat), .int .u64 (o.x : Nat), .bool o.won, .bool o.done, .int .i64 o.err]
def BlkOp (T : TypeId) (w : World) (g : Nat) (o : DOp) : Prop := Blk w g (opCells o) T
section
variable {T : TypeId} {w w' : World} {g : Nat} {o : DOp}
theorem BlkOp.lt (h : BlkOp T w g o) : g < w.heap.size := Blk.lt h
theorem BlkOp.chg {S : List Nat} (h : BlkOp T w g o) (hc : Chg S w w') (hg : g ∉ S) : BlkOp T w' g o := Blk.chg h hc hg
theorem BlkOp.c0 (h : BlkOp T w g o) : w.cell? ⟨g, 0, none⟩ = some (.int .i64 o.base) := by rw [Blk.cell h]; rfl
theorem BlkOp.c1 (h : BlkOp T w g o) : w.cell? ⟨g, 1, none⟩ = some (.int .i64 (o.cap : Nat)) := by rw [Blk.cell h]; rfl
theorem BlkOp.c2 (h : BlkOp T w g o) : w.cell? ⟨g, 2, none⟩ = some (.int .i64 (o.kind : Nat)) := by rw [Blk.cell h]; rfl
theorem BlkOp.c3 (h : BlkOp T w g o) : w.cell? ⟨g, 3, none⟩ = some (.int .i64 (o.steps : Nat)) := by rw [Blk.cell h]; rfl
theorem BlkOp.c4 (h : BlkOp T w g o) : w.cell? ⟨g, 4, none⟩ = some (.int .u64 (o.b : Nat)) := by rw [Blk.cell h]; rfl
theorem BlkOp.c5 (h : BlkOp T w g o) : w.cell? ⟨g, 5, none⟩ = some (.int .u64 (o.t : Nat)) := by rw [Blk.cell h]; rfl
theorem BlkOp.c6 (h : BlkOp T w g o) : w.cell? ⟨g, 6, none⟩ = some (.int .u64 (o.x : Nat)) := by rw [Blk.cell h]; rfl
theorem BlkOp.c7 (h : BlkOp T w g o) : w.cell? ⟨g, 7, none⟩ = some (.bool o.won) := by rw [Blk.cell h]; rfl
theorem BlkOp.c8 (h : BlkOp T w g o) : w.cell? ⟨g, 8, none⟩ = some (.bool o.done) := by rw [Blk.cell h]; rfl
theorem BlkOp.c9 (h : BlkOp T w g o) : w.cell? ⟨g, 9, none⟩ = some (.int .i64 o.err) := by rw [Blk.cell h]; rfl
theorem BlkOp.frozen (h : BlkOp T w g o) (j : Nat) : w.frozen? ⟨g, j, none⟩ = false := Blk.frozen h j
theorem BlkOp.s3 (h : BlkOp T w g o) (n : Nat) : BlkOp T (w.setCell ⟨g, 3, none⟩ (.int .i64 (n : Nat))) g { o with steps := n } := Blk.setCell h 3 _
theorem BlkOp.s4 (h : BlkOp T w g o) (n : Nat) : BlkOp T (w.setCell ⟨g, 4, none⟩ (.int .u64 (n : Nat))) g { o with b := n } := Blk.setCell h 4 _
theorem BlkOp.s5 (h : BlkOp T w g o) (n : Nat) : BlkOp T (w.setCell ⟨g, 5, none⟩ (.int .u64 (n : Nat))) g { o with t := n } := Blk.setCell h 5 _
theorem BlkOp.s6 (h : BlkOp T w g o) (n : Nat) : BlkOp T (w.setCell ⟨g, 6, none⟩ (.int .u64 (n : Nat))) g { o with x := n } := Blk.setCell h 6 _
theorem BlkOp.s7 (h : BlkOp T w g o) (n : Bool) : BlkOp T (w.setCell ⟨g, 7, none⟩ (.bool n)) g { o with won := n } := Blk.setCell h 7 _
theorem BlkOp.s8 (h : BlkOp T w g o) (n : Bool) : BlkOp T (w.setCell ⟨g, 8, none⟩ (.bool n)) g { o with done := n } := Blk.setCell h 8 _
theorem BlkOp.s9 (h : BlkOp T w g o) (n : Int) : BlkOp T (w.setCell ⟨g, 9, none⟩ (.int .i64 n)) g { o with err := n } := Blk.setCell h 9 _
end
theorem ahd_wrap (a b : Nat) (_ha : a < 18446744073709551616) (_hb : b < 18446744073709551616) : IntKind.i64.wrap (IntKind.u64.wrap ((a : Int) - (b : Int))) = ahd a b := by
  unfold ahd
  rw [IntKind.wrap_u64, IntKind.wrap_i64, IntKind.wrap_i64]
  omega
theorem and_pow2 (k c : Nat) (h : Pow2 c) : k &&& (c - 1) = k % c := by
  obtain ⟨j, _, rfl⟩ := h
  exact Nat.and_two_pow_sub_one_eq_mod k j
end Bosun
namespace Go.Proofs.YtjdbgohfedjifaaDoor
open Go.RowKit Bosun
abbrev IsOp (w : World) (g : Nat) (o : DOp) : Prop := BlkOp 91 w g o
theorem ahead_any (a b : Nat) (ha : a < 18446744073709551616) (hb : b < 18446744073709551616) (w : World) : Calls Tryd.prog 66 #[.int .u64 (a : Nat), .int .u64 (b : Nat)] w fun e w' => e = .returned (.int .i64 (ahd a b)) ∧ w = w' := by
  have HE := Lib.hid (ahd_wrap a b ha hb)
  clear ha hb
  go_enter Tryd.func66, Tryd.ntmps66
  go_wp2_with fail
  go_ret
  exact ⟨ret_int (Eq.trans (IntWalk.i64_left _).symm HE.out), rfl⟩
theorem place_any (base : Int) (h0 : -100 ≤ base) (h1 : base ≤ 1000000) (cap : Nat) (hc : Pow2 cap) (k : Nat) (hk : k < 18446744073709551616) (w : World) :
    Calls Tryd.prog 65 #[.agg #[.int .i64 base, .int .i64 (cap : Nat)], .int .u64 (k : Nat)] w fun e w' => e = .returned (.int .i64 (plc base cap k)) ∧ Chg [] w w' := by
  have hl := hc.le
  have hm := and_pow2 k cap hc
  have hlt : k % cap < 256 := by have := Nat.mod_lt k (show cap > 0 by omega); omega
  have eb : bits .and .u64 (k : Int) ((cap : Int) - 1) = ((k % cap : Nat) : Int) := by
    rw [show ((cap : Int) - 1) = ((cap - 1 : Nat) : Int) from by omega, bits_and_u64_nat k (cap - 1) hk (by omega), hm]
  have HB := Lib.hid eb
  obtain ⟨p, hp⟩ : ∃ p, p = k % cap := ⟨_, rfl⟩
  rw [show plc base cap k = base + 2 + ((k % cap : Nat) : Int) from rfl, ← hp]
  rw [← hp] at HB hlt
  clear eb hm hp hc
  go_enter Tryd.func65, Tryd.ntmps65
  go_wp2_with fail
  go_ret
  exact ⟨ret_int (by rw [HB.out, IntWalk.wrap64_in (p : Int) (by omega), IntWalk.wrap64_in _ (by omega)]), (Chg.refl _ _).alloc _⟩
theorem top_any (g : Nat) (o : DOp) (w : World) (h : IsOp w g o) (h0 : -100 ≤ o.base) (h1 : o.base ≤ 1000000) : Calls Tryd.prog 92 #[.pointer (some ⟨g, 0, none⟩)] w fun e w' => e = .returned (.int .i64 o.base) ∧ w = w' := by
  have c0 := h.c0
  clear h
  obtain ⟨b, hb⟩ : ∃ b, b = o.base := ⟨_, rfl⟩
  rw [← hb] at c0 h0 h1 ⊢
  clear hb
  go_enter Tryd.func92, Tryd.ntmps92
  go_wp2_with fail
  go_ret
  exact ⟨rfl, rfl⟩
theorem bottom_any (g : Nat) (o : DOp) (w : World) (h : IsOp w g o) (h0 : -100 ≤ o.base) (h1 : o.base ≤ 1000000) : Calls Tryd.prog 91 #[.pointer (some ⟨g, 0, none⟩)] w fun e w' => e = .returned (.int .i64 (o.base + 1)) ∧ w = w' := by
  have c0 := h.c0
  clear h
  obtain ⟨b, hb⟩ : ∃ b, b = o.base := ⟨_, rfl⟩
  rw [← hb] at c0 h0 h1 ⊢
  clear hb
  go_enter Tryd.func91, Tryd.ntmps91
  go_wp2_with fail
  go_ret
  exact ⟨rfl, rfl⟩
theorem end_any (g : Nat) (o : DOp) (w : World) (h : IsOp w g o) (r : Int) : Calls Tryd.prog 93 #[.pointer (some ⟨g, 0, none⟩), .int .i64 r] w fun e w' => e = .returned (.tuple #[]) ∧ IsOp w' g { o with done := true, err := r } ∧ Chg [g] w w' := by
  have c8 := h.c8
  have c9 := h.c9
  have f8 := h.frozen 8
  have f9 := h.frozen 9
  have HH := Lib.hid h
  clear h
  go_enter Tryd.func93, Tryd.ntmps93
  go_wp2_with fail
  go_end0
  exact ⟨rfl, (HH.out.s8 true).s9 r, ((Chg.refl _ _).setCell (.inl (by simp)) _).setCell (.inl (by simp)) _⟩
theorem done_any (g : Nat) (o : DOp) (w : World) (h : IsOp w g o) : Calls Tryd.prog 72 #[.pointer (some ⟨g, 0, none⟩)] w fun e w' => e = .returned (.bool o.done) ∧ w = w' := by
  have c8 := h.c8
  clear h
  go_enter Tryd.func72, Tryd.ntmps72
  go_wp2_with fail
  go_ret
  exact ⟨rfl, rfl⟩
theorem steps_any (g : Nat) (o : DOp) (w : World) (h : IsOp w g o) : Calls Tryd.prog 77 #[.pointer (some ⟨g, 0, none⟩)] w fun e w' => e = .returned (.int .i64 (o.steps : Nat)) ∧ w = w' := by
  have c3 := h.c3
  clear h
  go_enter Tryd.func77, Tryd.ntmps77
  go_wp2_with fail
  go_ret
  exact ⟨rfl, rfl⟩
set_option maxHeartbeats 1000000 in
theorem take_any (g : Nat) (o : DOp) (w : World) (h : IsOp w g o) (h0 : -100 ≤ o.base) (h1 : o.base ≤ 1000000) (bm bw : Nat) (W : List Nat) (u : Nat) (hm : IsMem w bm bw W u) (n1 : g ≠ bm) (n2 : g ≠ bw) :
    Calls Tryd.prog 95 #[.pointer (some ⟨g, 0, none⟩), .pointer (some ⟨bm, 0, none⟩)] w fun e w' => e = .returned (.bool (wins W o.base o.t)) ∧ IsOp w' g o ∧ IsMem w' bm bw (if wins W o.base o.t then setA W o.base (add1 o.t) else W) (tick W o.base u) ∧ Chg [bm, bw] w w' := by
  have c5 := h.c5
  have HH := Lib.hid h
  have HT := Lib.hid (fun w h => top_any g o w h h0 h1)
  have hlt := add1_lt o.t
  have ew : IntKind.u64.wrap ((o.t : Int) + 1) = (add1 o.t : Nat) := by rw [IntKind.wrap_u64]; rfl
  obtain ⟨m, hm1⟩ : ∃ m, m = add1 o.t := ⟨_, rfl⟩
  rw [← hm1] at ew hlt ⊢
  obtain ⟨t, ht⟩ : ∃ t, t = o.t := ⟨_, rfl⟩
  rw [← ht] at c5 ew ⊢
  have HTT := Lib.hid ht
  have HC := Lib.hid (fun w hm => cas_any bm bw W u w hm o.base t m hlt)
  obtain ⟨q, hq⟩ : ∃ q, q = wins W o.base t := ⟨_, rfl⟩
  rw [← hq] at HC ⊢
  obtain ⟨W2, hW2⟩ : ∃ W2, W2 = (if q then setA W o.base m else W) := ⟨_, rfl⟩
  rw [← hW2] at HC ⊢
  clear hq hW2
  clear hm1 ht h
  go_enter Tryd.func95, Tryd.ntmps95
  go_wp2_with fail
  go_region_held3 (fun w' => w'.cell? ⟨g, 5, none⟩ = some (.int .u64 (t : Nat))) (first | assumption | exact c5)
    (first
      | (go_at_call 92; refine (HT.out _ (HH.out.chg (Chg.refl [] _).drew (by simp))).mono ?_; rintro e w2 ⟨rfl, rfl⟩)
      | (go_at_call 97; refine (HC.out _ hm.drew).mono ?_; rintro e w3 ⟨rfl, M3, C3⟩; have H3 := HH.out.chg C3.undrew (by simp; exact ⟨n1, n2⟩); have k3 : w3.cell? ⟨g, 5, none⟩ = some (.int .u64 (t : Nat)) := (by rw [HTT.out]; exact H3.c5)))
  go_wp2_with fail
  go_ret
  exact ⟨rfl, H3, M3, C3.undrew⟩
end Go.Proofs.YtjdbgohfedjifaaDoor

/- How many words a deque has, and which, plainly. No program in sight. -/
namespace Bosun
open Go
/-- How many words a deque has, and which. -/
def lenD (base : Int) (cap : Nat) (W : List Nat) : Nat := (min (max (ahd (getA W (base + 1)) (getA W base)) 0) (cap : Int)).toNat
def allD (base : Int) (cap : Nat) (W : List Nat) : List Nat := (List.range (lenD base cap W)).map fun i => getA W (plc base cap ((getA W (base + 1) + (18446744073709551616 - lenD base cap W) + i) % 18446744073709551616))
theorem lenD_le (base : Int) (cap : Nat) (W : List Nat) : lenD base cap W ≤ cap := by unfold lenD; omega
end Bosun

/- A deque that one owner and some thieves work on, plainly: what holds between any two steps. No program in sight. -/
namespace Bosun
open Go
theorem getA_setA_same {W : List Nat} {k : Nat} (h : k < W.length) (x : Nat) : getA (setA W k x) k = x := by
  rw [setA_yes h, getA_yes (by simpa using h)]; simp
theorem getA_setA_other {W : List Nat} {k j : Nat} (h : k ≠ j) (x : Nat) : getA (setA W k x) j = getA W j := by
  by_cases hk : k < W.length
  · rw [setA_yes hk]
    by_cases hj : j < W.length
    · rw [getA_yes hj, getA_yes (by simpa using hj), List.getElem_set, if_neg h]
    · rw [getA_no (hasA_no (by rw [List.length_set]; omega)), getA_no (hasA_no (by omega))]
  · rw [setA_no (hasA_no (by omega))]
/-- The numbers, counted from one below the first. -/
def num (f k : Nat) : Nat := (f + k) % 18446744073709551616
theorem num_lt (f k : Nat) : num f k < 18446744073709551616 := Nat.mod_lt _ (by omega)
theorem ahd_num {f a b : Nat} (ha : a < 1000000) (hb : b < 1000000) : ahd (num f a) (num f b) = (a : Int) - (b : Int) := by
  unfold ahd num; rw [IntKind.wrap_i64]; omega
theorem add1_num (f k : Nat) : add1 (num f k) = num f (k + 1) := by unfold add1 num; omega
theorem sub1_num (f k : Nat) : sub1 (num f (k + 1)) = num f k := by unfold sub1 num; omega
theorem num_inj {f a b : Nat} (ha : a < 1000000) (hb : b < 1000000) (h : num f a = num f b) : a = b := by unfold num at h; omega
/-- The address of a number's place. -/
def pl (f cap k : Nat) : Nat := 2 + (f + k) % cap
theorem Pow2.dvd {c : Nat} (h : Pow2 c) : c ∣ 18446744073709551616 := by
  rcases h.cases with rfl | rfl | rfl | rfl | rfl | rfl | rfl | rfl | rfl <;> decide
theorem plc_num {f cap : Nat} (h : Pow2 cap) (k : Nat) : plc 0 cap (num f k) = (pl f cap k : Nat) := by
  unfold plc num pl
  rw [Nat.mod_mod_of_dvd _ h.dvd]; omega
theorem pl_range {f cap : Nat} (h : Pow2 cap) (k : Nat) : 2 ≤ pl f cap k ∧ pl f cap k < 258 := by
  have h1 := h.le
  have h2 := Nat.mod_lt (f + k) (show cap > 0 by omega)
  unfold pl; omega
theorem pl_ne {f cap : Nat} {k b : Nat} (h1 : k < b) (h2 : b - k < cap) : pl f cap k ≠ pl f cap b := by
  intro h
  unfold pl at h
  have h3 : (f + b) % cap = (f + k) % cap := by omega
  have h4 := Nat.sub_mod_eq_zero_of_mod_eq h3
  rw [show f + b - (f + k) = b - k from by omega, Nat.mod_eq_of_lt h2] at h4
  omega
/-- The word at a number's place. -/
def at_ (f cap : Nat) (W : List Nat) (k : Nat) : Nat := getA W (pl f cap k : Nat)
def listOf (f cap : Nat) (W : List Nat) (l b : Nat) : List Nat := (List.range (b - l)).map fun j => at_ f cap W (l + j)
theorem listOf_len (f cap : Nat) (W : List Nat) (l b : Nat) : (listOf f cap W l b).length = b - l := by simp [listOf]
theorem listOf_nil (f cap : Nat) (W : List Nat) (l : Nat) : listOf f cap W l l = [] := by simp [listOf]
theorem listOf_cons (f cap : Nat) (W : List Nat) {l b : Nat} (h : l < b) : listOf f cap W l b = at_ f cap W l :: listOf f cap W (l + 1) b := by
  unfold listOf
  rw [show b - l = (b - (l + 1)) + 1 from by omega, List.range_succ_eq_map, List.map_cons, List.map_map]
  congr 1
  refine List.map_congr_left fun j _ => ?_
  simp only [Function.comp]
  rw [show l + (j + 1) = l + 1 + j from by omega]
theorem listOf_snoc (f cap : Nat) (W : List Nat) {l b : Nat} (h : l ≤ b) : listOf f cap W l (b + 1) = listOf f cap W l b ++ [at_ f cap W b] := by
  unfold listOf
  rw [show b + 1 - l = (b - l) + 1 from by omega, List.range_succ, List.map_append]
  simp only [List.map_cons, List.map_nil]
  rw [show l + (b - l) = b from by omega]
theorem listOf_congr {f cap : Nat} {W W' : List Nat} {l b : Nat} (h : ∀ k, l ≤ k → k < b → at_ f cap W' k = at_ f cap W k) : listOf f cap W' l b = listOf f cap W l b := by
  unfold listOf
  refine List.map_congr_left fun j hj => ?_
  simp only [List.mem_range] at hj
  exact h _ (by omega) (by omega)
theorem at_low {f cap : Nat} (h : Pow2 cap) {W : List Nat} {a x : Nat} (ha : a < 2) (k : Nat) : at_ f cap (setA W (a : Int) x) k = at_ f cap W k := by
  unfold at_
  have := pl_range (f := f) h k
  exact getA_setA_other (by omega) x
theorem at_other {f cap : Nat} {W : List Nat} {x k b : Nat} (h1 : k < b) (h2 : b - k < cap) : at_ f cap (setA W (pl f cap b : Nat) x) k = at_ f cap W k := by
  unfold at_
  exact getA_setA_other (Ne.symm (pl_ne h1 h2)) x
/-- The owner's pop took the bottom down, and has not settled. -/
def Clm (A : Nat → Option DOp) : Prop := ∃ o, A 0 = some o ∧ o.kind = 1 ∧ o.done = false ∧ 2 ≤ o.steps
/-- The owner's pop has read the top. -/
def Rd (A : Nat → Option DOp) : Prop := ∃ o, A 0 = some o ∧ o.kind = 1 ∧ o.done = false ∧ 3 ≤ o.steps
/-- What the owner's work knows. t0: the top that a pop read; l: where the shelf's words begin. -/
def Own_ (f cap : Nat) (W : List Nat) (t b l t0 : Nat) (o : DOp) : Prop := o.base = 0 ∧ o.cap = cap ∧ o.kind ≤ 1 ∧ (o.done = false →
  (o.kind = 0 → o.steps < 4 ∧ (1 ≤ o.steps → o.b = num f b) ∧ (2 ≤ o.steps → b - t < cap) ∧ (3 ≤ o.steps → at_ f cap W b = o.x)) ∧
  (o.kind = 1 → o.steps < 6 ∧ (1 ≤ o.steps → o.b = num f (b - 1)) ∧ (3 ≤ o.steps → o.t = num f t0 ∧ 1 ≤ t0 ∧ t0 ≤ t ∧ (t0 + 1 < b → t + 1 ≤ b)) ∧
    (4 ≤ o.steps → t0 + 1 = b ∧ o.x = at_ f cap W (b - 1)) ∧ (5 ≤ o.steps → t = b ∧ (o.won = true → l + 1 = b) ∧ (o.won = false → l = t))))
/-- What a thief's work knows. -/
def Thf (f cap : Nat) (W : List Nat) (t b t0 : Nat) (rd : Prop) (o : DOp) : Prop := o.base = 0 ∧ o.cap = cap ∧ o.kind = 2 ∧ (o.done = false → o.steps < 4 ∧
  (1 ≤ o.steps → ∃ tt, o.t = num f tt ∧ 1 ≤ tt ∧ tt ≤ t ∧ (2 ≤ o.steps → tt < b ∧ (rd → tt ≤ t0 ∨ tt + 1 < b)) ∧ (3 ≤ o.steps → tt = t → o.x = at_ f cap W tt)))
structure DInv (f cap : Nat) (W : List Nat) (A : Nat → Option DOp) (t b l t0 N : Nat) (c : Bool) : Prop where
  pw : Pow2 cap
  len : W.length = 260
  small : Small W
  t1 : 1 ≤ t
  tb : t ≤ b
  bN : b ≤ N
  lt : l ≤ t
  room : b - l ≤ cap
  l1 : 1 ≤ l
  top : getA W (0 : Nat) = num f t
  bot : getA W (1 : Nat) = num f (if c then b - 1 else b)
  clm : c = true ↔ Clm A
  won : l ≠ t → ∃ o, A 0 = some o ∧ o.kind = 1 ∧ o.done = false ∧ o.steps = 5 ∧ o.won = true ∧ l + 1 = b ∧ t = b
  own : ∀ o, A 0 = some o → Own_ f cap W t b l t0 o
  thief : ∀ k, 1 ≤ k → ∀ o, A k = some o → Thf f cap W t b t0 (Rd A) o
/-- The deque's words are L; c: a pop's claim stands. -/
def St (f cap : Nat) (W : List Nat) (A : Nat → Option DOp) (L : List Nat) (N : Nat) (c : Bool) : Prop := ∃ t b l t0, DInv f cap W A t b l t0 N c ∧ L = listOf f cap W l b
def updA (A : Nat → Option DOp) (k : Nat) (o : DOp) : Nat → Option DOp := fun j => if j = k then some o else A j
theorem updA_same (A : Nat → Option DOp) (k : Nat) (o : DOp) : updA A k o k = some o := if_pos rfl
theorem updA_other (A : Nat → Option DOp) {k j : Nat} (o : DOp) (h : j ≠ k) : updA A k o j = A j := if_neg h
theorem Thf.mono {f cap : Nat} {W : List Nat} {t b t0 : Nat} {rd rd' : Prop} {o : DOp} (h : Thf f cap W t b t0 rd o) (hr : rd' → rd) : Thf f cap W t b t0 rd' o := by
  obtain ⟨h1, h2, h3, h4⟩ := h
  refine ⟨h1, h2, h3, fun hd => ⟨(h4 hd).1, fun hs => ?_⟩⟩
  obtain ⟨tt, a1, a2, a3, a4, a5⟩ := (h4 hd).2 hs
  exact ⟨tt, a1, a2, a3, fun h => ⟨(a4 h).1, fun r => (a4 h).2 (hr r)⟩, a5⟩
section
variable {f cap : Nat} {W : List Nat} {A : Nat → Option DOp} {t b l t0 N : Nat} {c : Bool} {L : List Nat}
theorem Clm_upd {k : Nat} (hk : 1 ≤ k) (o : DOp) : Clm (updA A k o) ↔ Clm A := by unfold Clm; rw [updA_other A o (show 0 ≠ k by omega)]
theorem Rd_upd {k : Nat} (hk : 1 ≤ k) (o : DOp) : Rd (updA A k o) ↔ Rd A := by unfold Rd; rw [updA_other A o (show 0 ≠ k by omega)]
/-- A work begins. -/
theorem St.new (h : St f cap W A L N c) {k : Nat} (hk : A k = none ∨ ∃ o, A k = some o ∧ o.done = true) (o : DOp) (h1 : o.base = 0) (h2 : o.cap = cap) (h3 : if k = 0 then o.kind ≤ 1 else o.kind = 2) (h4 : o.steps = 0) (h5 : o.done = false) :
    St f cap W (updA A k o) L N c := by
  obtain ⟨t, b, l, t0, I, hL⟩ := h
  refine ⟨t, b, l, t0, ?_, hL⟩
  by_cases k0 : k = 0
  · subst k0
    rw [if_pos rfl] at h3
    have n0 : ∀ o, A 0 = some o → o.done = true := fun o ho => by
      rcases hk with e | ⟨o', e, e2⟩
      · rw [e] at ho; cases ho
      · rw [e] at ho; cases ho; exact e2
    have nc : ¬ Clm A := fun ⟨o, a, _, d, _⟩ => by rw [n0 o a] at d; cases d
    have nr : ¬ Rd (updA A 0 o) := fun ⟨o', a, _, _, d⟩ => by rw [updA_same] at a; cases a; omega
    have nc' : ¬ Clm (updA A 0 o) := fun ⟨o', a, _, _, d⟩ => by rw [updA_same] at a; cases a; omega
    have hlt : l = t := by
      by_cases e : l = t
      · exact e
      · obtain ⟨o', a, _, d, _⟩ := I.won e; rw [n0 o' a] at d; cases d
    refine ⟨I.pw, I.len, I.small, I.t1, I.tb, I.bN, I.lt, I.room, I.l1, I.top, I.bot, ?_, fun e => absurd hlt e, ?_, ?_⟩
    · rw [I.clm]; exact ⟨fun h => absurd h nc, fun h => absurd h nc'⟩
    · intro o' ho
      rw [updA_same] at ho; cases ho
      exact ⟨h1, h2, h3, fun _ => ⟨fun _ => ⟨by omega, fun h => by omega, fun h => by omega, fun h => by omega⟩, fun _ => ⟨by omega, fun h => by omega, fun h => by omega, fun h => by omega, fun h => by omega⟩⟩⟩
    · intro k hk o' ho
      rw [updA_other A o (by omega)] at ho
      exact (I.thief k hk o' ho).mono (fun h => absurd h nr)
  · rw [if_neg k0] at h3
    have k1 : 1 ≤ k := by omega
    refine ⟨I.pw, I.len, I.small, I.t1, I.tb, I.bN, I.lt, I.room, I.l1, I.top, I.bot, by rw [Clm_upd k1]; exact I.clm, ?_, ?_, ?_⟩
    · rw [updA_other A o (show 0 ≠ k by omega)]; exact I.won
    · rw [updA_other A o (show 0 ≠ k by omega)]; exact I.own
    · intro j hj o' ho
      by_cases e : j = k
      · subst e
        rw [updA_same] at ho; cases ho
        exact ⟨h1, h2, h3, fun _ => ⟨by omega, fun h => by omega⟩⟩
      · rw [updA_other A o e] at ho
        exact (I.thief j hj o' ho).mono (Rd_upd k1 o).1
/-- A thief's work turns, and nothing else. -/
theorem DInv.turn (I : DInv f cap W A t b l t0 N c) {k : Nat} (k1 : 1 ≤ k) (o : DOp) (ho : Thf f cap W t b t0 (Rd A) o) : DInv f cap W (updA A k o) t b l t0 N c := by
  refine ⟨I.pw, I.len, I.small, I.t1, I.tb, I.bN, I.lt, I.room, I.l1, I.top, I.bot, by rw [Clm_upd k1]; exact I.clm, ?_, ?_, ?_⟩
  · rw [updA_other A o (show 0 ≠ k by omega)]; exact I.won
  · rw [updA_other A o (show 0 ≠ k by omega)]; exact I.own
  · intro j hj o' h
    by_cases e : j = k
    · subst e
      rw [updA_same] at h; cases h
      exact ho.mono (Rd_upd k1 o).1
    · rw [updA_other A o e] at h
      exact (I.thief j hj o' h).mono (Rd_upd k1 o).1
theorem wins_num (I : DInv f cap W A t b l t0 N c) (hN : N < 1000000) {tt : Nat} (h : tt ≤ t) : wins W (0 : Nat) (num f tt) = decide (tt = t) := by
  unfold wins
  rw [hasA_yes (by rw [I.len]; omega), I.top, Bool.true_and]
  refine decide_eq_decide.2 ⟨fun e => (num_inj (by have := I.tb; have := I.bN; omega) (by have := I.tb; have := I.bN; omega) e).symm, fun e => by rw [e]⟩
/-- A thief's step. -/
theorem St.steal (h : St f cap W A L N c) (hN : N < 1000000) {k : Nat} (k1 : 1 ≤ k) {o : DOp} (ho : A k = some o) (hd : o.done = false) (herr : o.err = 0) (u : Nat) :
    ((stepD o W u).1.done = false ∧ St f cap (stepD o W u).2.1 (updA A k (stepD o W u).1) L N c) ∨
    ((stepD o W u).1.done = true ∧ (stepD o W u).1.err = 0 ∧ ∃ L', L = (stepD o W u).1.x :: L' ∧ St f cap (stepD o W u).2.1 (updA A k (stepD o W u).1) L' N c) ∨
    ((stepD o W u).1.done = true ∧ (stepD o W u).1.err = 8 ∧ St f cap (stepD o W u).2.1 (updA A k (stepD o W u).1) L N c) ∨
    ((stepD o W u).1.done = true ∧ (stepD o W u).1.err = 7 ∧ (L = [] ∨ (c = true ∧ L.length = 1)) ∧ St f cap (stepD o W u).2.1 (updA A k (stepD o W u).1) L N c) := by
  obtain ⟨t, b, l, t0, I, hL⟩ := h
  have ht := I.thief k k1 o ho
  obtain ⟨hb, hc, hk, hh0⟩ := ht
  obtain ⟨hs, hh⟩ := hh0 hd
  clear hh0
  obtain ⟨base, cp, kind, steps, ob, ot, ox, won, done, err⟩ := o
  simp only at hb hc hk hs hh hd herr
  obtain rfl : cap = cp := hc.symm
  subst hb hk hd herr
  have tb := I.tb
  have bN := I.bN
  rcases (show steps = 0 ∨ steps = 1 ∨ steps = 2 ∨ steps = 3 by omega) with rfl | rfl | rfl | rfl
  · refine .inl ⟨rfl, t, b, l, t0, I.turn k1 _ ⟨rfl, rfl, rfl, fun _ => ⟨by show 1 < 4; omega, fun _ => ⟨t, I.top, I.t1, Nat.le_refl _, fun h => absurd h (by show ¬ 2 ≤ 1; omega), fun h => absurd h (by show ¬ 3 ≤ 1; omega)⟩⟩⟩, hL⟩
  · obtain ⟨tt, e1, e2, e3, _, _⟩ := hh (by omega)
    have hbot := I.bot
    obtain ⟨bt, hbt⟩ : ∃ bt, bt = (if c then b - 1 else b) := ⟨_, rfl⟩
    rw [← hbt] at hbot
    have hbt2 : bt ≤ b ∧ (c = false → bt = b) ∧ (c = true → bt = b - 1) := by rw [hbt]; cases c <;> simp
    have ha : ahd (getA W (0 + 1)) ot = (bt : Int) - (tt : Int) := by
      rw [show ((0 : Int) + 1) = ((1 : Nat) : Int) from rfl, hbot, e1]
      exact ahd_num (by omega) (by omega)
    have e : stepD ⟨0, cap, 2, 1, ob, ot, ox, won, false, 0⟩ W u = (if ahd (getA W (0 + 1)) ot ≤ 0 then ⟨0, cap, 2, 2, getA W (0 + 1), ot, ox, won, true, 7⟩ else ⟨0, cap, 2, 2, getA W (0 + 1), ot, ox, won, false, 0⟩, W, tick W (0 + 1) u) := rfl
    rw [e]
    by_cases hle : bt ≤ tt
    · rw [if_pos (by rw [ha]; omega)]
      refine .inr (.inr (.inr ⟨rfl, rfl, ?_, t, b, l, t0, I.turn k1 _ ⟨rfl, rfl, rfl, fun h => by cases h⟩, hL⟩))
      rw [hL]
      by_cases hlt : l = t
      · cases hc : c with
        | false => have := hbt2.2.1 hc; exact .inl (by rw [show b = l from by omega]; exact listOf_nil _ _ _ _)
        | true =>
          have := hbt2.2.2 hc
          by_cases hlb : l = b
          · exact .inl (by rw [hlb]; exact listOf_nil _ _ _ _)
          · exact .inr ⟨rfl, by rw [listOf_len]; omega⟩
      · obtain ⟨o', a1, a2, a3, a4, a5, a6, a7⟩ := I.won hlt
        exact .inr ⟨I.clm.2 ⟨o', a1, a2, a3, by omega⟩, by rw [listOf_len]; omega⟩
    · rw [if_neg (by rw [ha]; omega)]
      refine .inl ⟨rfl, t, b, l, t0, I.turn k1 _ ⟨rfl, rfl, rfl, fun _ => ⟨by show 2 < 4; omega, fun _ => ⟨tt, e1, e2, e3, fun _ => ⟨by omega, fun r => .inr ?_⟩, fun h => absurd h (by show ¬ 3 ≤ 2; omega)⟩⟩⟩, hL⟩
      obtain ⟨o', a1, a2, a3, a4⟩ := r
      have := hbt2.2.2 (I.clm.2 ⟨o', a1, a2, a3, by omega⟩)
      omega
  · obtain ⟨tt, e1, e2, e3, e4, _⟩ := hh (by omega)
    have e4 := e4 (by omega)
    refine .inl ⟨rfl, t, b, l, t0, I.turn k1 _ ⟨rfl, rfl, rfl, fun _ => ⟨by show 3 < 4; omega, fun _ => ⟨tt, e1, e2, e3, fun _ => e4, fun _ _ => ?_⟩⟩⟩, hL⟩
    show getA W (plc 0 cap ot) = at_ f cap W tt
    rw [e1, plc_num I.pw]; rfl
  · obtain ⟨tt, e1, e2, e3, e4, e5⟩ := hh (by omega)
    have e4 := e4 (by omega)
    have e5 := e5 (by omega)
    have hw : wins W 0 ot = decide (tt = t) := by rw [e1]; exact wins_num I hN e3
    have e : stepD ⟨0, cap, 2, 3, ob, ot, ox, won, false, 0⟩ W u = (⟨0, cap, 2, 4, ob, ot, ox, won, true, if wins W 0 ot then 0 else 8⟩, if wins W 0 ot then setA W 0 (add1 ot) else W, tick W 0 u) := rfl
    rw [e, hw]
    by_cases htt : tt = t
    · subst htt
      rw [decide_eq_true rfl]
      simp only [if_true]
      have hlt : l = tt := by
        by_cases e : l = tt
        · exact e
        · obtain ⟨o', a1, a2, a3, a4, a5, a6, a7⟩ := I.won e; omega
      subst hlt
      refine .inr (.inl ⟨trivial, trivial, listOf f cap W (l + 1) b, ?_, l + 1, b, l + 1, t0, ?_, ?_⟩)
      · rw [hL, listOf_cons f cap W e4.1, e5 rfl]
      · rw [e1, add1_num]
        have hz : ∀ k, at_ f cap (setA W (0 : Nat) (num f (l + 1))) k = at_ f cap W k := fun k => at_low I.pw (by omega) k
        have ko : ∀ j, j ≠ k → updA A k ⟨0, cap, 2, 4, ob, num f l, ox, won, true, 0⟩ j = A j := fun j hj => updA_other A _ hj
        refine ⟨I.pw, by rw [setA_length]; exact I.len, I.small.setA _ (num_lt _ _), by omega, by omega, bN, Nat.le_refl _, by have := I.room; omega, by omega, getA_setA_same (k := 0) (by rw [I.len]; omega) _, ?_, by rw [Clm_upd k1]; exact I.clm, fun h => absurd rfl h, ?_, ?_⟩
        · rw [show (0 : Int) = ((0 : Nat) : Int) from rfl, getA_setA_other (by omega)]; exact I.bot
        · intro o' h'
          rw [ko 0 (by omega)] at h'
          obtain ⟨p1, p2, p3, p4⟩ := I.own o' h'
          refine ⟨p1, p2, p3, fun hd => ⟨fun h0 => ?_, fun h1 => ?_⟩⟩
          · obtain ⟨q1, q2, q3, q4⟩ := (p4 hd).1 h0
            exact ⟨q1, q2, fun h => by have := q3 h; omega, fun h => by rw [show (0 : Int) = ((0 : Nat) : Int) from rfl, hz]; exact q4 h⟩
          · obtain ⟨q1, q2, q3, q4, q5⟩ := (p4 hd).2 h1
            refine ⟨q1, q2, fun h => ?_, fun h => ?_, fun h => ?_⟩
            · obtain ⟨r1, r2, r3, r4⟩ := q3 h
              refine ⟨r1, r2, by omega, fun hh => ?_⟩
              rcases e4.2 ⟨o', h', h1, hd, h⟩ with g | g <;> omega
            · rw [show (0 : Int) = ((0 : Nat) : Int) from rfl, hz]; exact q4 h
            · have := (q5 h).1; omega
        · intro j hj o' h'
          by_cases hjk : j = k
          · subst hjk
            rw [updA_same] at h'; cases h'
            exact ⟨rfl, rfl, rfl, fun h => by cases h⟩
          · rw [ko j hjk] at h'
            obtain ⟨p1, p2, p3, p4⟩ := I.thief j hj o' h'
            refine ⟨p1, p2, p3, fun hd => ⟨(p4 hd).1, fun hs => ?_⟩⟩
            obtain ⟨tt, a1, a2, a3, a4, a5⟩ := (p4 hd).2 hs
            exact ⟨tt, a1, a2, by omega, fun h => ⟨(a4 h).1, fun r => (a4 h).2 ((Rd_upd k1 _).1 r)⟩, fun h he => by have := a4 (by omega); omega⟩
      · exact (listOf_congr (fun k _ _ => by rw [e1, add1_num]; exact at_low (a := 0) I.pw (by omega) k)).symm
    · rw [decide_eq_false htt]
      simp only [Bool.false_eq_true, if_false]
      exact .inr (.inr (.inl ⟨trivial, trivial, t, b, l, t0, I.turn k1 _ ⟨rfl, rfl, rfl, fun h => by cases h⟩, hL⟩))
/-- The owner's work turns. -/
theorem DInv.step0 (I : DInv f cap W A t b l t0 N c) {W' : List Nat} {t' b' l' t0' N' : Nat} {c' : Bool} {o' : DOp} (hlen : W'.length = 260) (hsm : Small W') (htop : getA W' (0 : Nat) = num f t') (hbot : getA W' (1 : Nat) = num f (if c' then b' - 1 else b'))
    (htt : t ≤ t') (htb : t' ≤ b') (hbN : b' ≤ N') (hlt : l' ≤ t') (hroom : b' - l' ≤ cap) (hl1 : 1 ≤ l') (hclm : c' = true ↔ (o'.kind = 1 ∧ o'.done = false ∧ 2 ≤ o'.steps))
    (hwon : l' ≠ t' → o'.kind = 1 ∧ o'.done = false ∧ o'.steps = 5 ∧ o'.won = true ∧ l' + 1 = b' ∧ t' = b') (hown : Own_ f cap W' t' b' l' t0' o')
    (hth : ∀ tt, 1 ≤ tt → tt ≤ t → tt < b → (Rd A → tt ≤ t0 ∨ tt + 1 < b) → tt < b' ∧ ((o'.kind = 1 ∧ o'.done = false ∧ 3 ≤ o'.steps) → tt ≤ t0' ∨ tt + 1 < b'))
    (hx : ∀ tt, 1 ≤ tt → tt ≤ t → tt < b → tt = t' → tt = t ∧ at_ f cap W' tt = at_ f cap W tt) : DInv f cap W' (updA A 0 o') t' b' l' t0' N' c' := by
  refine ⟨I.pw, hlen, hsm, by have := I.t1; omega, htb, hbN, hlt, hroom, hl1, htop, hbot, ?_, ?_, ?_, ?_⟩
  · rw [hclm]
    exact ⟨fun h => ⟨o', updA_same _ _ _, h⟩, fun ⟨o, a, h⟩ => by rw [updA_same] at a; cases a; exact h⟩
  · intro h
    exact ⟨o', updA_same _ _ _, hwon h⟩
  · intro o h
    rw [updA_same] at h; cases h; exact hown
  · intro k hk o h
    rw [updA_other A o' (by omega)] at h
    obtain ⟨p1, p2, p3, p4⟩ := I.thief k hk o h
    refine ⟨p1, p2, p3, fun hd => ⟨(p4 hd).1, fun hs => ?_⟩⟩
    obtain ⟨tt, a1, a2, a3, a4, a5⟩ := (p4 hd).2 hs
    refine ⟨tt, a1, a2, by omega, fun h2 => ?_, fun h3 he => ?_⟩
    · obtain ⟨q1, q2⟩ := hth tt a2 a3 (a4 h2).1 (a4 h2).2
      refine ⟨q1, fun ⟨o, e1, e2⟩ => q2 ?_⟩
      rw [updA_same] at e1; cases e1; exact e2
    · obtain ⟨r1, r2⟩ := hx tt a2 a3 (a4 (by omega)).1 he
      rw [r2]; exact a5 h3 r1
/-- The owner's push. -/
theorem St.push (h : St f cap W A L N c) (hN : N < 1000000) {o : DOp} (ho : A 0 = some o) (hk : o.kind = 0) (hd : o.done = false) (herr : o.err = 0) (hx : o.x < 18446744073709551616) (u : Nat) : c = false ∧
    (((stepD o W u).1.done = false ∧ (stepD o W u).1.x = o.x ∧ St f cap (stepD o W u).2.1 (updA A 0 (stepD o W u).1) L N false) ∨
    ((stepD o W u).1.done = true ∧ (stepD o W u).1.err = 6 ∧ cap ≤ L.length ∧ St f cap (stepD o W u).2.1 (updA A 0 (stepD o W u).1) L N false) ∨
    ((stepD o W u).1.done = true ∧ (stepD o W u).1.err = 0 ∧ (stepD o W u).1.x = o.x ∧ L.length < cap ∧ St f cap (stepD o W u).2.1 (updA A 0 (stepD o W u).1) (L ++ [o.x]) (N + 1) false)) := by
  obtain ⟨t, b, l, t0, I, hL⟩ := h
  obtain ⟨hb, hc, _, hh0⟩ := I.own o ho
  obtain ⟨hs, h1, h2, h3⟩ := (hh0 hd).1 hk
  have nc : c = false := by
    cases hc : c with
    | false => rfl
    | true => obtain ⟨o', a, a2, _⟩ := I.clm.1 hc; rw [ho] at a; cases a; omega
  have nl : l = t := by
    by_cases e : l = t
    · exact e
    · obtain ⟨o', a, a2, _⟩ := I.won e; rw [ho] at a; cases a; omega
  have nr : ¬ Rd A := fun ⟨o', a, a2, _⟩ => by rw [ho] at a; cases a; omega
  refine ⟨nc, ?_⟩
  clear hh0
  obtain ⟨base, cp, kind, steps, ob, ot, ox, won, done, err⟩ := o
  simp only at hb hc hk hs h1 h2 h3 hd herr hx
  obtain rfl : cap = cp := hc.symm
  subst hb hk hd herr nl nc
  have tb := I.tb
  have bN := I.bN
  have l1 := I.l1
  have room := I.room
  have hbot := I.bot
  simp only [Bool.false_eq_true, if_false] at hbot
  have cF : ∀ o' : DOp, o'.kind = 0 → (false = true ↔ (o'.kind = 1 ∧ o'.done = false ∧ 2 ≤ o'.steps)) := fun o' e => ⟨fun h => (by cases h), fun h => by omega⟩
  rcases (show steps = 0 ∨ steps = 1 ∨ steps = 2 ∨ steps = 3 by omega) with rfl | rfl | rfl | rfl
  · refine .inl ⟨rfl, rfl, l, b, l, t0, I.step0 I.len I.small I.top (by simp only [Bool.false_eq_true, if_false]; exact hbot) (Nat.le_refl _) tb bN (Nat.le_refl _) room l1 (cF _ rfl) (fun h => absurd rfl h) ⟨rfl, rfl, of_decide_eq_true rfl, fun _ => ⟨fun _ => ⟨of_decide_eq_true rfl, fun _ => hbot, fun h => absurd h (of_decide_eq_true rfl), fun h => absurd h (of_decide_eq_true rfl)⟩, fun h => by cases h⟩⟩ (fun tt a b c d => ⟨c, fun h => by cases h.1⟩) (fun tt a b c d => ⟨d, rfl⟩), hL⟩
  · have e1 := h1 (by omega)
    have ha : ahd ob (getA W 0) = (b : Int) - (l : Int) := by
      rw [show (0 : Int) = ((0 : Nat) : Int) from rfl, I.top, e1]
      exact ahd_num (by omega) (by omega)
    have e : stepD ⟨0, cap, 0, 1, ob, ot, ox, won, false, 0⟩ W u = (if (cap : Int) ≤ ahd ob (getA W 0) then ⟨0, cap, 0, 2, ob, getA W 0, ox, won, true, 6⟩ else ⟨0, cap, 0, 2, ob, getA W 0, ox, won, false, 0⟩, W, tick W 0 u) := rfl
    rw [e]
    by_cases hle : cap ≤ b - l
    · rw [if_pos (by rw [ha]; omega)]
      exact .inr (.inl ⟨rfl, rfl, by rw [hL, listOf_len]; exact hle, l, b, l, t0, I.step0 I.len I.small I.top (by simp only [Bool.false_eq_true, if_false]; exact hbot) (Nat.le_refl _) tb bN (Nat.le_refl _) room l1 (cF _ rfl) (fun h => absurd rfl h) ⟨rfl, rfl, of_decide_eq_true rfl, fun h => by cases h⟩ (fun tt a b c d => ⟨c, fun h => by cases h.1⟩) (fun tt a b c d => ⟨d, rfl⟩), hL⟩)
    · rw [if_neg (by rw [ha]; omega)]
      exact .inl ⟨rfl, rfl, l, b, l, t0, I.step0 I.len I.small I.top (by simp only [Bool.false_eq_true, if_false]; exact hbot) (Nat.le_refl _) tb bN (Nat.le_refl _) room l1 (cF _ rfl) (fun h => absurd rfl h) ⟨rfl, rfl, of_decide_eq_true rfl, fun _ => ⟨fun _ => ⟨of_decide_eq_true rfl, fun _ => e1, fun _ => by omega, fun h => absurd h (of_decide_eq_true rfl)⟩, fun h => by cases h⟩⟩ (fun tt a b c d => ⟨c, fun h => by cases h.1⟩) (fun tt a b c d => ⟨d, rfl⟩), hL⟩
  · have e1 := h1 (by omega)
    have e2 := h2 (by omega)
    have e : stepD ⟨0, cap, 0, 2, ob, ot, ox, won, false, 0⟩ W u = (⟨0, cap, 0, 3, ob, ot, ox, won, false, 0⟩, setA W (pl f cap b : Nat) ox, tick W (pl f cap b : Nat) u) := by
      rw [← plc_num I.pw b, ← e1]; rfl
    rw [e]
    have hp := pl_range (f := f) I.pw b
    refine .inl ⟨rfl, rfl, l, b, l, t0, I.step0 (by rw [setA_length]; exact I.len) (I.small.setA _ hx) (by rw [getA_setA_other (by omega)]; exact I.top) (by rw [getA_setA_other (by omega)]; simp only [Bool.false_eq_true, if_false]; exact hbot) (Nat.le_refl _) tb bN (Nat.le_refl _) room l1 (cF _ rfl) (fun h => absurd rfl h) ⟨rfl, rfl, of_decide_eq_true rfl, fun _ => ⟨fun _ => ⟨of_decide_eq_true rfl, fun _ => e1, fun _ => e2, fun _ => ?_⟩, fun h => by cases h⟩⟩ (fun tt a b c d => ⟨c, fun h => by cases h.1⟩) (fun tt a b c d => ⟨d, ?_⟩), ?_⟩
    · unfold at_; exact getA_setA_same (by rw [I.len]; omega) _
    · exact at_other c (by omega)
    · rw [hL]; exact (listOf_congr (fun k a b => at_other b (by omega))).symm
  · have e1 := h1 (by omega)
    have e2 := h2 (by omega)
    have e3 := h3 (by omega)
    have e : stepD ⟨0, cap, 0, 3, ob, ot, ox, won, false, 0⟩ W u = (⟨0, cap, 0, 4, ob, ot, ox, won, true, 0⟩, setA W (1 : Nat) (num f (b + 1)), tick W (0 + 1) u) := by
      rw [← add1_num, ← e1]; rfl
    rw [e]
    refine .inr (.inr ⟨rfl, rfl, rfl, by rw [hL, listOf_len]; omega, l, b + 1, l, t0, I.step0 (by rw [setA_length]; exact I.len) (I.small.setA _ (num_lt _ _)) (by rw [getA_setA_other (by omega)]; exact I.top) (by rw [getA_setA_same (by rw [I.len]; omega)]; simp only [Bool.false_eq_true, if_false]) (Nat.le_refl _) (by omega) (by omega) (Nat.le_refl _) (by omega) l1 (cF _ rfl) (fun h => absurd rfl h) ⟨rfl, rfl, of_decide_eq_true rfl, fun h => by cases h⟩ (fun tt a b c d => ⟨by omega, fun h => by cases h.1⟩) (fun tt a b c d => ⟨d, at_low (a := 1) I.pw (by omega) _⟩), ?_⟩)
    rw [listOf_congr (W := W) (fun k _ _ => at_low (a := 1) I.pw (by omega) k), listOf_snoc f cap W tb, ← hL, e3]
/-- The owner's pop. -/
theorem St.pop (h : St f cap W A L N c) (hN : N < 1000000) {o : DOp} (ho : A 0 = some o) (hk : o.kind = 1) (hd : o.done = false) (herr : o.err = 0) (u : Nat) :
    ((stepD o W u).1.done = false ∧ (stepD o W u).1.steps ≠ 2 ∧ St f cap (stepD o W u).2.1 (updA A 0 (stepD o W u).1) L N c) ∨
    ((stepD o W u).1.done = false ∧ (stepD o W u).1.steps = 2 ∧ c = false ∧ St f cap (stepD o W u).2.1 (updA A 0 (stepD o W u).1) L N true) ∨
    ((stepD o W u).1.done = true ∧ (stepD o W u).1.steps ≠ 2 ∧ c = true ∧ (stepD o W u).1.err = 0 ∧ ∃ L', L = L' ++ [(stepD o W u).1.x] ∧ St f cap (stepD o W u).2.1 (updA A 0 (stepD o W u).1) L' N false) ∨
    ((stepD o W u).1.done = true ∧ (stepD o W u).1.steps ≠ 2 ∧ c = true ∧ (stepD o W u).1.err = 7 ∧ L = [] ∧ St f cap (stepD o W u).2.1 (updA A 0 (stepD o W u).1) [] N false) := by
  obtain ⟨t, b, l, t0, I, hL⟩ := h
  obtain ⟨hb, hc, _, hh0⟩ := I.own o ho
  obtain ⟨hs, h1, h2, h3, h4⟩ := (hh0 hd).2 hk
  have cc : c = true ↔ 2 ≤ o.steps := by
    rw [I.clm]
    exact ⟨fun ⟨o', a, _, _, d⟩ => by rw [ho] at a; cases a; exact d, fun d => ⟨o, ho, hk, hd, d⟩⟩
  have nl : l ≠ t → o.steps = 5 ∧ o.won = true ∧ l + 1 = b ∧ t = b := fun e => by
    obtain ⟨o', a, _, _, r⟩ := I.won e; rw [ho] at a; cases a; exact r
  have nr : 3 ≤ o.steps → Rd A := fun d => ⟨o, ho, hk, hd, d⟩
  clear hh0
  obtain ⟨base, cp, kind, steps, ob, ot, ox, won, done, err⟩ := o
  simp only at hb hc hk hs h1 h2 h3 h4 hd herr cc nl nr
  obtain rfl : cap = cp := hc.symm
  subst hb hk hd herr
  have tb := I.tb
  have bN := I.bN
  have l1 := I.l1
  have t1 := I.t1
  have lt := I.lt
  have room := I.room
  have hbot := I.bot
  have cT : ∀ o' : DOp, o'.kind = 1 → o'.done = false → 2 ≤ o'.steps → (true = true ↔ (o'.kind = 1 ∧ o'.done = false ∧ 2 ≤ o'.steps)) := fun o' a b d => ⟨fun _ => ⟨a, b, d⟩, fun _ => rfl⟩
  have cF : ∀ o' : DOp, (o'.done = true ∨ o'.steps < 2) → (false = true ↔ (o'.kind = 1 ∧ o'.done = false ∧ 2 ≤ o'.steps)) := fun o' e => ⟨fun h => (by cases h), fun h => by rcases e with e | e; rw [e] at h; exact absurd h.2.1 (by decide); omega⟩
  rcases (show steps = 0 ∨ steps = 1 ∨ steps = 2 ∨ steps = 3 ∨ steps = 4 ∨ steps = 5 by omega) with rfl | rfl | rfl | rfl | rfl | rfl
  · obtain rfl : c = false := by cases c; rfl; exact absurd (cc.1 rfl) (by omega)
    simp only [Bool.false_eq_true, if_false] at hbot
    obtain rfl : l = t := Classical.byContradiction fun e => by have := (nl e).1; omega
    have e : stepD ⟨0, cap, 1, 0, ob, ot, ox, won, false, 0⟩ W u = (⟨0, cap, 1, 1, num f (b - 1), ot, ox, won, false, 0⟩, W, tick W (0 + 1) u) := by
      rw [← sub1_num, show b - 1 + 1 = b from by omega, ← hbot]; rfl
    rw [e]
    exact .inl ⟨rfl, of_decide_eq_true rfl, l, b, l, t0, I.step0 I.len I.small I.top (by simp only [Bool.false_eq_true, if_false]; exact hbot) (Nat.le_refl _) tb bN (Nat.le_refl _) room l1 (cF _ (.inr (of_decide_eq_true rfl))) (fun h => absurd rfl h) ⟨rfl, rfl, of_decide_eq_true rfl, fun _ => ⟨(fun h => by cases h), fun _ => ⟨of_decide_eq_true rfl, fun _ => rfl, fun h => absurd h (of_decide_eq_true rfl), fun h => absurd h (of_decide_eq_true rfl), fun h => absurd h (of_decide_eq_true rfl)⟩⟩⟩ (fun tt a b c d => ⟨c, fun h => absurd h.2.2 (of_decide_eq_true rfl)⟩) (fun tt a b c d => ⟨d, rfl⟩), hL⟩
  · obtain rfl : c = false := by cases c; rfl; exact absurd (cc.1 rfl) (by omega)
    obtain rfl : l = t := Classical.byContradiction fun e => by have := (nl e).1; omega
    have e1 := h1 (by omega)
    have e : stepD ⟨0, cap, 1, 1, ob, ot, ox, won, false, 0⟩ W u = (⟨0, cap, 1, 2, ob, ot, ox, won, false, 0⟩, setA W (1 : Nat) (num f (b - 1)), tick W (0 + 1) u) := by
      rw [← e1]; rfl
    rw [e]
    refine .inr (.inl ⟨rfl, rfl, rfl, l, b, l, t0, I.step0 (by rw [setA_length]; exact I.len) (I.small.setA _ (num_lt _ _)) (by rw [getA_setA_other (by omega)]; exact I.top) (by rw [getA_setA_same (by rw [I.len]; omega)]; simp only [if_true]) (Nat.le_refl _) tb bN (Nat.le_refl _) room l1 (cT _ rfl rfl (of_decide_eq_true rfl)) (fun h => absurd rfl h) ⟨rfl, rfl, of_decide_eq_true rfl, fun _ => ⟨(fun h => by cases h), fun _ => ⟨of_decide_eq_true rfl, fun _ => e1, fun h => absurd h (of_decide_eq_true rfl), fun h => absurd h (of_decide_eq_true rfl), fun h => absurd h (of_decide_eq_true rfl)⟩⟩⟩ (fun tt a b c d => ⟨c, fun h => absurd h.2.2 (of_decide_eq_true rfl)⟩) (fun tt a b c d => ⟨d, at_low (a := 1) I.pw (by omega) _⟩), ?_⟩)
    rw [hL]; exact (listOf_congr (fun k _ _ => at_low (a := 1) I.pw (by omega) k)).symm
  · obtain rfl : c = true := cc.2 (by omega)
    simp only [if_true] at hbot
    obtain rfl : l = t := Classical.byContradiction fun e => by have := (nl e).1; omega
    have e1 := h1 (by omega)
    have e : stepD ⟨0, cap, 1, 2, ob, ot, ox, won, false, 0⟩ W u = (⟨0, cap, 1, 3, ob, num f l, ox, won, false, 0⟩, W, tick W 0 u) := by
      rw [← I.top]; rfl
    rw [e]
    exact .inl ⟨rfl, of_decide_eq_true rfl, l, b, l, l, I.step0 I.len I.small I.top (by simp only [if_true]; exact hbot) (Nat.le_refl _) tb bN (Nat.le_refl _) room l1 (cT _ rfl rfl (of_decide_eq_true rfl)) (fun h => absurd rfl h) ⟨rfl, rfl, of_decide_eq_true rfl, fun _ => ⟨(fun h => by cases h), fun _ => ⟨of_decide_eq_true rfl, fun _ => e1, fun _ => ⟨rfl, l1, Nat.le_refl _, fun h => by omega⟩, fun h => absurd h (of_decide_eq_true rfl), fun h => absurd h (of_decide_eq_true rfl)⟩⟩⟩ (fun tt a b c d => ⟨c, fun h => .inl b⟩) (fun tt a b c d => ⟨d, rfl⟩), hL⟩
  · obtain rfl : c = true := cc.2 (by omega)
    simp only [if_true] at hbot
    obtain rfl : l = t := Classical.byContradiction fun e => by have := (nl e).1; omega
    have e1 := h1 (by omega)
    obtain ⟨e2, e3, e4, e5⟩ := h2 (by omega)
    have hr := nr (by omega)
    have ha : ahd ot ob = (t0 : Int) - ((b - 1 : Nat) : Int) := by rw [e1, e2]; exact ahd_num (by omega) (by omega)
    have ha2 : ahd ob ot = ((b - 1 : Nat) : Int) - (t0 : Int) := by rw [e1, e2]; exact ahd_num (by omega) (by omega)
    have e : stepD ⟨0, cap, 1, 3, ob, ot, ox, won, false, 0⟩ W u = (if 0 < ahd ot ob then (⟨0, cap, 1, 4, ob, ot, ox, won, true, 7⟩, setA W (0 + 1) ot, tick W (0 + 1) u) else (if 0 < ahd ob ot then ⟨0, cap, 1, 4, ob, ot, getA W (plc 0 cap ob), won, true, 0⟩ else ⟨0, cap, 1, 4, ob, ot, getA W (plc 0 cap ob), won, false, 0⟩, W, tick W (plc 0 cap ob) u)) := rfl
    rw [e]
    have hx : getA W (plc 0 cap ob) = at_ f cap W (b - 1) := by rw [e1, plc_num I.pw]; rfl
    by_cases hf : b ≤ t0
    · rw [if_pos (by rw [ha]; omega)]
      obtain rfl : l = b := by omega
      obtain rfl : t0 = l := by omega
      refine .inr (.inr (.inr ⟨rfl, of_decide_eq_true rfl, rfl, rfl, by rw [hL]; exact listOf_nil _ _ _ _, t0, t0, t0, t0, I.step0 (W' := setA W (1 : Nat) ot) (by rw [setA_length]; exact I.len) (I.small.setA _ (by rw [e2]; exact num_lt _ _)) (by rw [getA_setA_other (by omega)]; exact I.top) (by rw [getA_setA_same (by rw [I.len]; omega), e2]; rfl) (Nat.le_refl _) (Nat.le_refl _) bN (Nat.le_refl _) (by omega) l1 (cF _ (.inl rfl)) (fun h => absurd rfl h) ⟨rfl, rfl, of_decide_eq_true rfl, fun h => by cases h⟩ (fun tt a b c d => ⟨c, fun h => by cases h.2.1⟩) (fun tt a b c d => by omega), (listOf_nil _ _ _ _).symm⟩))
    · rw [if_neg (by rw [ha]; omega), hx]
      by_cases hf2 : t0 + 1 < b
      · rw [if_pos (by rw [ha2]; omega)]
        have := e5 hf2
        refine .inr (.inr (.inl ⟨rfl, of_decide_eq_true rfl, rfl, rfl, listOf f cap W l (b - 1), ?_, l, b - 1, l, t0, I.step0 I.len I.small I.top (by simp only [Bool.false_eq_true, if_false]; exact hbot) (Nat.le_refl _) (by omega) (by omega) (Nat.le_refl _) (by omega) l1 (cF _ (.inl rfl)) (fun h => absurd rfl h) ⟨rfl, rfl, of_decide_eq_true rfl, fun h => by cases h⟩ (fun tt a b c d => ⟨by rcases d hr with d | d <;> omega, fun h => by cases h.2.1⟩) (fun tt a b c d => ⟨d, rfl⟩), rfl⟩))
        rw [hL]
        have := listOf_snoc f cap W (l := l) (b := b - 1) (by omega)
        rw [show b - 1 + 1 = b from by omega] at this
        exact this
      · rw [if_neg (by rw [ha2]; omega)]
        exact .inl ⟨rfl, of_decide_eq_true rfl, l, b, l, t0, I.step0 I.len I.small I.top (by simp only [if_true]; exact hbot) (Nat.le_refl _) tb bN (Nat.le_refl _) room l1 (cT _ rfl rfl (of_decide_eq_true rfl)) (fun h => absurd rfl h) ⟨rfl, rfl, of_decide_eq_true rfl, fun _ => ⟨(fun h => by cases h), fun _ => ⟨of_decide_eq_true rfl, fun _ => e1, fun _ => ⟨e2, e3, e4, e5⟩, fun _ => ⟨by omega, rfl⟩, fun h => absurd h (of_decide_eq_true rfl)⟩⟩⟩ (fun tt a b c d => ⟨c, fun h => d hr⟩) (fun tt a b c d => ⟨d, rfl⟩), hL⟩
  · obtain rfl : c = true := cc.2 (by omega)
    simp only [if_true] at hbot
    obtain rfl : l = t := Classical.byContradiction fun e => by have := (nl e).1; omega
    have e1 := h1 (by omega)
    obtain ⟨e2, e3, e4, e5⟩ := h2 (by omega)
    obtain ⟨e6, e7⟩ := h3 (by omega)
    have hr := nr (by omega)
    have hw : wins W 0 ot = decide (t0 = l) := by rw [e2]; exact wins_num I hN e4
    have e : stepD ⟨0, cap, 1, 4, ob, ot, ox, won, false, 0⟩ W u = (⟨0, cap, 1, 5, ob, ot, ox, wins W 0 ot, false, 0⟩, if wins W 0 ot then setA W (0 : Nat) (add1 ot) else W, tick W 0 u) := rfl
    rw [e, hw]
    by_cases htt : t0 = l
    · subst htt
      rw [decide_eq_true rfl]
      simp only [if_true]
      rw [e2, add1_num, e6]
      have hz : ∀ k, at_ f cap (setA W (0 : Nat) (num f b)) k = at_ f cap W k := fun k => at_low (a := 0) I.pw (by omega) k
      refine .inl ⟨trivial, of_decide_eq_true rfl, b, b, t0, t0, I.step0 (by rw [setA_length]; exact I.len) (I.small.setA _ (num_lt _ _)) (getA_setA_same (k := 0) (by rw [I.len]; omega) _) (by rw [show ((1 : Nat) : Int) = ((1 : Nat) : Int) from rfl]; have := getA_setA_other (W := W) (k := 0) (j := 1) (by omega) (num f b); simp only [if_true]; rw [← hbot]; exact this) (by omega) (Nat.le_refl _) bN (by omega) room l1 (cT _ rfl rfl (of_decide_eq_true rfl)) (fun _ => ⟨rfl, rfl, rfl, rfl, e6, rfl⟩) ⟨rfl, rfl, of_decide_eq_true rfl, fun _ => ⟨(fun h => by cases h), fun _ => ⟨of_decide_eq_true rfl, fun _ => e1, fun _ => ⟨rfl, e3, by omega, fun h => by omega⟩, fun _ => ⟨e6, by rw [e7]; exact (hz _).symm⟩, fun _ => ⟨rfl, fun _ => e6, fun h => by cases h⟩⟩⟩⟩ (fun tt a b c d => ⟨c, fun h => d hr⟩) (fun tt a b c d => by omega), ?_⟩
      rw [hL]; exact (listOf_congr (fun k _ _ => hz k)).symm
    · rw [decide_eq_false htt]
      simp only [Bool.false_eq_true, if_false]
      exact .inl ⟨trivial, of_decide_eq_true rfl, l, b, l, t0, I.step0 I.len I.small I.top (by simp only [if_true]; exact hbot) (Nat.le_refl _) tb bN (Nat.le_refl _) room l1 (cT _ rfl rfl (of_decide_eq_true rfl)) (fun h => absurd rfl h) ⟨rfl, rfl, of_decide_eq_true rfl, fun _ => ⟨(fun h => by cases h), fun _ => ⟨of_decide_eq_true rfl, fun _ => e1, fun _ => ⟨e2, e3, e4, e5⟩, fun _ => ⟨e6, e7⟩, fun _ => ⟨by omega, (fun h => by cases h), fun _ => rfl⟩⟩⟩⟩ (fun tt a b c d => ⟨c, fun h => d hr⟩) (fun tt a b c d => ⟨d, rfl⟩), hL⟩
  · obtain rfl : c = true := cc.2 (by omega)
    simp only [if_true] at hbot
    have e1 := h1 (by omega)
    obtain ⟨e2, e3, e4, e5⟩ := h2 (by omega)
    obtain ⟨e6, e7⟩ := h3 (by omega)
    obtain ⟨e8, e9, e10⟩ := h4 (by omega)
    have e : stepD ⟨0, cap, 1, 5, ob, ot, ox, won, false, 0⟩ W u = (⟨0, cap, 1, 6, ob, ot, ox, won, true, if won then 0 else 7⟩, setA W (1 : Nat) (num f b), tick W (0 + 1) u) := by
      rw [← e6, ← add1_num, ← e2]; rfl
    rw [e]
    have I' : ∀ er, DInv f cap (setA W (1 : Nat) (num f b)) (updA A 0 ⟨0, cap, 1, 6, ob, ot, ox, won, true, er⟩) t b b t0 N false := fun er =>
      I.step0 (by rw [setA_length]; exact I.len) (I.small.setA _ (num_lt _ _)) (by rw [getA_setA_other (by omega)]; exact I.top) (by rw [getA_setA_same (by rw [I.len]; omega)]; rfl) (Nat.le_refl _) tb bN (by omega) (by omega) (by omega) (cF _ (.inl rfl)) (fun h => absurd e8.symm h) ⟨rfl, rfl, of_decide_eq_true rfl, fun h => by cases h⟩ (fun tt a b c d => ⟨c, fun h => by cases h.2.1⟩) (fun tt a b c d => by omega)
    cases won with
    | true =>
      have := e9 rfl
      refine .inr (.inr (.inl ⟨rfl, of_decide_eq_true rfl, rfl, rfl, [], ?_, t, b, b, t0, I' _, (listOf_nil _ _ _ _).symm⟩))
      rw [hL, listOf_cons f cap W (by omega), this, listOf_nil, e7, show b - 1 = l from by omega]; rfl
    | false =>
      have := e10 rfl
      refine .inr (.inr (.inr ⟨rfl, of_decide_eq_true rfl, rfl, rfl, ?_, t, b, b, t0, I' _, (listOf_nil _ _ _ _).symm⟩))
      rw [hL, this, e8]; exact listOf_nil _ _ _ _
end
end Bosun
