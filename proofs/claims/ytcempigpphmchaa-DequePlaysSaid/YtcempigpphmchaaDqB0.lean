/- The law's 'begin': a worker's next work, of both, at any place. As XDqB. -/
import Derived.Test.YtcempigpphmchaaDq6
import Derived.Test.YtcempigpphmchaaDqR
import Derived.Deep.RegionHeld3
namespace Go.Proofs.Ytcempigpphmchaa
open Go.RowKit Bosun
/-- Two new works, apart. -/
def Began (w w' : World) (o o' : DOp) (e : Ending) : Prop := ∃ g r, e = .returned (.tuple #[.pointer (some ⟨g, 0, none⟩), .pointer (some ⟨r, 0, none⟩)]) ∧ IsOp w' g o ∧ IsROp w' r o' ∧ Chg [] w w' ∧ w.heap.size ≤ g ∧ w.heap.size ≤ r ∧ g ≠ r
set_option maxHeartbeats 4000000 in
theorem begin_steal (b1 b2 : Int) (c1 c2 : Nat) (k : Nat) (hk : 0 < k) (push : Bool) (who : Int) (x : Nat) (w : World) :
    Calls Try.prog 12 #[.agg #[.int .i64 b1, .int .i64 (c1 : Nat)], .agg #[.int .i64 b2, .int .i64 (c2 : Nat)], .int .i64 (k : Nat), .agg #[.int .u8 who, .bool push, .int .u64 (x : Nat)]] w fun e w' => Began w w' (newD b1 c1 2 0) (newD b2 c2 2 0) e := by
  have dk : decide (0 < k) = true := by simpa using hk
  go_enter Try.func12, Try.ntmps12
  obtain ⟨w1, hw1⟩ : ∃ w1, w1 = ((w.alloc (.cells #[.int .i64 b1, .int .i64 (c1 : Nat)] 33)).alloc (.cells #[.int .i64 b2, .int .i64 (c2 : Nat)] 36)).alloc (.cells #[.int .u8 who, .bool push, .int .u64 (x : Nat)] 43) := ⟨_, rfl⟩
  have HW1 := Lib.hid hw1
  have C1 : Chg [] w w1 := by rw [hw1]; exact (((Chg.refl _ _).alloc _).alloc _).alloc _
  have z1 : w1.heap.size = w.heap.size + 1 + 1 + 1 := by rw [hw1]; simp
  have B1 : Blk w1 w.heap.size #[.int .i64 b1, .int .i64 (c1 : Nat)] 33 := by rw [hw1]; exact ((Blk.new w _ _).alloc _).alloc _
  have B2 : Blk w1 (w.heap.size + 1) #[.int .i64 b2, .int .i64 (c2 : Nat)] 36 := by
    rw [hw1]; refine Blk.alloc ?_ _; exact heap_alloc2_new w _ _
  have B3 : Blk w1 (w.heap.size + 1 + 1) #[.int .u8 who, .bool push, .int .u64 (x : Nat)] 43 := by
    rw [hw1]
    have := Blk.new ((w.alloc (.cells #[.int .i64 b1, .int .i64 (c1 : Nat)] 33)).alloc (.cells #[.int .i64 b2, .int .i64 (c2 : Nat)] 36)) #[.int .u8 who, .bool push, .int .u64 (x : Nat)] 43
    simpa using this
  clear hw1
  go_wp2_with fail
  rw [← HW1.out]
  have c10 : w1.cell? ⟨w.heap.size, 0, none⟩ = some (.int .i64 b1) := B1.cell 0
  have c11 : w1.cell? ⟨w.heap.size, 1, none⟩ = some (.int .i64 (c1 : Nat)) := B1.cell 1
  have c20 : w1.cell? ⟨w.heap.size + 1, 0, none⟩ = some (.int .i64 b2) := B2.cell 0
  have c21 : w1.cell? ⟨w.heap.size + 1, 1, none⟩ = some (.int .i64 (c2 : Nat)) := B2.cell 1
  have c31 : w1.cell? ⟨w.heap.size + 1 + 1, 1, none⟩ = some (.bool push) := B3.cell 1
  have c32 : w1.cell? ⟨w.heap.size + 1 + 1, 2, none⟩ = some (.int .u64 (x : Nat)) := B3.cell 2
  go_region_held3 (fun w' => w'.cell? ⟨w.heap.size, 0, none⟩ = some (.int .i64 b1) ∧ w'.cell? ⟨w.heap.size, 1, none⟩ = some (.int .i64 (c1 : Nat)) ∧ w'.cell? ⟨w.heap.size + 1, 0, none⟩ = some (.int .i64 b2) ∧ w'.cell? ⟨w.heap.size + 1, 1, none⟩ = some (.int .i64 (c2 : Nat))) (first | assumption | exact ⟨B1.cell 0, B1.cell 1, B2.cell 0, B2.cell 1⟩ | exact ⟨D1.cell 0, D1.cell 1, D2.cell 0, D2.cell 1⟩ | exact ⟨(D1.alloc _).cell 0, (D1.alloc _).cell 1, (D2.alloc _).cell 0, (D2.alloc _).cell 1⟩ | exact ⟨(B1.drew.alloc _).cell 0, (B1.drew.alloc _).cell 1, (B2.drew.alloc _).cell 0, (B2.drew.alloc _).cell 1⟩ | exact ⟨(B1.alloc _).cell 0, (B1.alloc _).cell 1, (B2.alloc _).cell 0, (B2.alloc _).cell 1⟩ | exact ⟨(D1.drew.alloc _).cell 0, (D1.drew.alloc _).cell 1, (D2.drew.alloc _).cell 0, (D2.drew.alloc _).cell 1⟩) (first
    | (go_at_call 29; refine (osteal_any b1 c1 _).mono ?_; rintro e w2 ⟨g, rfl, H2, C2, g2⟩; have lg := H2.lt; have zz := C2.size; have CC : Chg [] w1 w2 := (by first | exact C2.undrew | exact ((Chg.refl [] w1).drew.alloc _).then C2 (by simp) | exact ((Chg.refl [] w1).alloc _).drew.then C2 (by simp)); have D1 := B1.chg CC (by simp); have D2 := B2.chg CC (by simp); have D3 := B3.chg CC (by simp); have j10 := D1.cell 0; have j11 := D1.cell 1; have j20 := D2.cell 0; have j21 := D2.cell 1; have j31 := D3.cell 1; have j32 := D3.cell 2))
  all_goals
    go_wp2_with fail
    go_ret2
    have zd : w1.drew.heap.size = w1.heap.size := rfl
    first
      | exact ⟨_, _, rfl, Blk.alloc H2 _, Blk.new w2 _ _, (C1.then CC (by simp)).alloc _, by omega, by omega, by omega⟩
      | (have NB : IsROp (w1.drew.alloc (.cells (opCells (newD b2 c2 2 0)) 47)) (w.heap.size + 1 + 1 + 1) (newD b2 c2 2 0) := (by rw [← z1]; exact Blk.new w1.drew _ _)
         have l2 : w.heap.size + 1 + 1 + 1 < g := (by have := g2; simp [z1] at this; omega)
         exact ⟨_, _, rfl, H2, NB.chg C2 (by simp), C1.then CC (by simp), by omega, by omega, by omega⟩)
set_option maxHeartbeats 4000000 in
theorem begin_push (b1 b2 : Int) (c1 c2 : Nat)  (who : Int) (x : Nat) (w : World) :
    Calls Try.prog 12 #[.agg #[.int .i64 b1, .int .i64 (c1 : Nat)], .agg #[.int .i64 b2, .int .i64 (c2 : Nat)], .int .i64 0, .agg #[.int .u8 who, .bool true, .int .u64 (x : Nat)]] w fun e w' => Began w w' (newD b1 c1 0 x) (newD b2 c2 0 x) e := by
  go_enter Try.func12, Try.ntmps12
  obtain ⟨w1, hw1⟩ : ∃ w1, w1 = ((w.alloc (.cells #[.int .i64 b1, .int .i64 (c1 : Nat)] 33)).alloc (.cells #[.int .i64 b2, .int .i64 (c2 : Nat)] 36)).alloc (.cells #[.int .u8 who, .bool true, .int .u64 (x : Nat)] 43) := ⟨_, rfl⟩
  have HW1 := Lib.hid hw1
  have C1 : Chg [] w w1 := by rw [hw1]; exact (((Chg.refl _ _).alloc _).alloc _).alloc _
  have z1 : w1.heap.size = w.heap.size + 1 + 1 + 1 := by rw [hw1]; simp
  have B1 : Blk w1 w.heap.size #[.int .i64 b1, .int .i64 (c1 : Nat)] 33 := by rw [hw1]; exact ((Blk.new w _ _).alloc _).alloc _
  have B2 : Blk w1 (w.heap.size + 1) #[.int .i64 b2, .int .i64 (c2 : Nat)] 36 := by
    rw [hw1]; refine Blk.alloc ?_ _; exact heap_alloc2_new w _ _
  have B3 : Blk w1 (w.heap.size + 1 + 1) #[.int .u8 who, .bool true, .int .u64 (x : Nat)] 43 := by
    rw [hw1]
    have := Blk.new ((w.alloc (.cells #[.int .i64 b1, .int .i64 (c1 : Nat)] 33)).alloc (.cells #[.int .i64 b2, .int .i64 (c2 : Nat)] 36)) #[.int .u8 who, .bool true, .int .u64 (x : Nat)] 43
    simpa using this
  clear hw1
  go_wp2_with fail
  rw [← HW1.out]
  have c10 : w1.cell? ⟨w.heap.size, 0, none⟩ = some (.int .i64 b1) := B1.cell 0
  have c11 : w1.cell? ⟨w.heap.size, 1, none⟩ = some (.int .i64 (c1 : Nat)) := B1.cell 1
  have c20 : w1.cell? ⟨w.heap.size + 1, 0, none⟩ = some (.int .i64 b2) := B2.cell 0
  have c21 : w1.cell? ⟨w.heap.size + 1, 1, none⟩ = some (.int .i64 (c2 : Nat)) := B2.cell 1
  have c31 : w1.cell? ⟨w.heap.size + 1 + 1, 1, none⟩ = some (.bool true) := B3.cell 1
  have c32 : w1.cell? ⟨w.heap.size + 1 + 1, 2, none⟩ = some (.int .u64 (x : Nat)) := B3.cell 2
  go_region_held3 (fun w' => w'.cell? ⟨w.heap.size, 0, none⟩ = some (.int .i64 b1) ∧ w'.cell? ⟨w.heap.size, 1, none⟩ = some (.int .i64 (c1 : Nat)) ∧ w'.cell? ⟨w.heap.size + 1, 0, none⟩ = some (.int .i64 b2) ∧ w'.cell? ⟨w.heap.size + 1, 1, none⟩ = some (.int .i64 (c2 : Nat)) ∧ w'.cell? ⟨w.heap.size + 1 + 1, 2, none⟩ = some (.int .u64 (x : Nat))) (first | assumption | exact ⟨B1.cell 0, B1.cell 1, B2.cell 0, B2.cell 1, B3.cell 2⟩ | exact ⟨D1.cell 0, D1.cell 1, D2.cell 0, D2.cell 1, D3.cell 2⟩ | exact ⟨(D1.alloc _).cell 0, (D1.alloc _).cell 1, (D2.alloc _).cell 0, (D2.alloc _).cell 1, (D3.alloc _).cell 2⟩ | exact ⟨(B1.drew.alloc _).cell 0, (B1.drew.alloc _).cell 1, (B2.drew.alloc _).cell 0, (B2.drew.alloc _).cell 1, (B3.drew.alloc _).cell 2⟩ | exact ⟨(B1.alloc _).cell 0, (B1.alloc _).cell 1, (B2.alloc _).cell 0, (B2.alloc _).cell 1, (B3.alloc _).cell 2⟩ | exact ⟨(D1.drew.alloc _).cell 0, (D1.drew.alloc _).cell 1, (D2.drew.alloc _).cell 0, (D2.drew.alloc _).cell 1, (D3.drew.alloc _).cell 2⟩) (first
    | (go_at_call 30; refine (opush_any b1 c1 x _).mono ?_; rintro e w2 ⟨g, rfl, H2, C2, g2⟩; have lg := H2.lt; have zz := C2.size; have CC : Chg [] w1 w2 := (by first | exact C2.undrew | exact ((Chg.refl [] w1).drew.alloc _).then C2 (by simp) | exact ((Chg.refl [] w1).alloc _).drew.then C2 (by simp)); have D1 := B1.chg CC (by simp); have D2 := B2.chg CC (by simp); have D3 := B3.chg CC (by simp); have j10 := D1.cell 0; have j11 := D1.cell 1; have j20 := D2.cell 0; have j21 := D2.cell 1; have j31 := D3.cell 1; have j32 := D3.cell 2))
  all_goals
    go_wp2_with fail
    go_ret2
    have zd : w1.drew.heap.size = w1.heap.size := rfl
    first
      | exact ⟨_, _, rfl, Blk.alloc H2 _, Blk.new w2 _ _, (C1.then CC (by simp)).alloc _, by omega, by omega, by omega⟩
      | (have NB : IsROp (w1.drew.alloc (.cells (opCells (newD b2 c2 0 x)) 47)) (w.heap.size + 1 + 1 + 1) (newD b2 c2 0 x) := (by rw [← z1]; exact Blk.new w1.drew _ _)
         have l2 : w.heap.size + 1 + 1 + 1 < g := (by have := g2; simp [z1] at this; omega)
         exact ⟨_, _, rfl, H2, NB.chg C2 (by simp), C1.then CC (by simp), by omega, by omega, by omega⟩)
set_option maxHeartbeats 4000000 in
theorem begin_pop (b1 b2 : Int) (c1 c2 : Nat)  (who : Int) (x : Nat) (w : World) :
    Calls Try.prog 12 #[.agg #[.int .i64 b1, .int .i64 (c1 : Nat)], .agg #[.int .i64 b2, .int .i64 (c2 : Nat)], .int .i64 0, .agg #[.int .u8 who, .bool false, .int .u64 (x : Nat)]] w fun e w' => Began w w' (newD b1 c1 1 0) (newD b2 c2 1 0) e := by
  go_enter Try.func12, Try.ntmps12
  obtain ⟨w1, hw1⟩ : ∃ w1, w1 = ((w.alloc (.cells #[.int .i64 b1, .int .i64 (c1 : Nat)] 33)).alloc (.cells #[.int .i64 b2, .int .i64 (c2 : Nat)] 36)).alloc (.cells #[.int .u8 who, .bool false, .int .u64 (x : Nat)] 43) := ⟨_, rfl⟩
  have HW1 := Lib.hid hw1
  have C1 : Chg [] w w1 := by rw [hw1]; exact (((Chg.refl _ _).alloc _).alloc _).alloc _
  have z1 : w1.heap.size = w.heap.size + 1 + 1 + 1 := by rw [hw1]; simp
  have B1 : Blk w1 w.heap.size #[.int .i64 b1, .int .i64 (c1 : Nat)] 33 := by rw [hw1]; exact ((Blk.new w _ _).alloc _).alloc _
  have B2 : Blk w1 (w.heap.size + 1) #[.int .i64 b2, .int .i64 (c2 : Nat)] 36 := by
    rw [hw1]; refine Blk.alloc ?_ _; exact heap_alloc2_new w _ _
  have B3 : Blk w1 (w.heap.size + 1 + 1) #[.int .u8 who, .bool false, .int .u64 (x : Nat)] 43 := by
    rw [hw1]
    have := Blk.new ((w.alloc (.cells #[.int .i64 b1, .int .i64 (c1 : Nat)] 33)).alloc (.cells #[.int .i64 b2, .int .i64 (c2 : Nat)] 36)) #[.int .u8 who, .bool false, .int .u64 (x : Nat)] 43
    simpa using this
  clear hw1
  go_wp2_with fail
  rw [← HW1.out]
  have c10 : w1.cell? ⟨w.heap.size, 0, none⟩ = some (.int .i64 b1) := B1.cell 0
  have c11 : w1.cell? ⟨w.heap.size, 1, none⟩ = some (.int .i64 (c1 : Nat)) := B1.cell 1
  have c20 : w1.cell? ⟨w.heap.size + 1, 0, none⟩ = some (.int .i64 b2) := B2.cell 0
  have c21 : w1.cell? ⟨w.heap.size + 1, 1, none⟩ = some (.int .i64 (c2 : Nat)) := B2.cell 1
  have c31 : w1.cell? ⟨w.heap.size + 1 + 1, 1, none⟩ = some (.bool false) := B3.cell 1
  have c32 : w1.cell? ⟨w.heap.size + 1 + 1, 2, none⟩ = some (.int .u64 (x : Nat)) := B3.cell 2
  go_region_held3 (fun w' => w'.cell? ⟨w.heap.size, 0, none⟩ = some (.int .i64 b1) ∧ w'.cell? ⟨w.heap.size, 1, none⟩ = some (.int .i64 (c1 : Nat)) ∧ w'.cell? ⟨w.heap.size + 1, 0, none⟩ = some (.int .i64 b2) ∧ w'.cell? ⟨w.heap.size + 1, 1, none⟩ = some (.int .i64 (c2 : Nat))) (first | assumption | exact ⟨B1.cell 0, B1.cell 1, B2.cell 0, B2.cell 1⟩ | exact ⟨D1.cell 0, D1.cell 1, D2.cell 0, D2.cell 1⟩ | exact ⟨(D1.alloc _).cell 0, (D1.alloc _).cell 1, (D2.alloc _).cell 0, (D2.alloc _).cell 1⟩ | exact ⟨(B1.drew.alloc _).cell 0, (B1.drew.alloc _).cell 1, (B2.drew.alloc _).cell 0, (B2.drew.alloc _).cell 1⟩ | exact ⟨(B1.alloc _).cell 0, (B1.alloc _).cell 1, (B2.alloc _).cell 0, (B2.alloc _).cell 1⟩ | exact ⟨(D1.drew.alloc _).cell 0, (D1.drew.alloc _).cell 1, (D2.drew.alloc _).cell 0, (D2.drew.alloc _).cell 1⟩) (first
    | (go_at_call 31; refine (opop_any b1 c1 _).mono ?_; rintro e w2 ⟨g, rfl, H2, C2, g2⟩; have lg := H2.lt; have zz := C2.size; have CC : Chg [] w1 w2 := (by first | exact C2.undrew | exact ((Chg.refl [] w1).drew.alloc _).then C2 (by simp) | exact ((Chg.refl [] w1).alloc _).drew.then C2 (by simp)); have D1 := B1.chg CC (by simp); have D2 := B2.chg CC (by simp); have D3 := B3.chg CC (by simp); have j10 := D1.cell 0; have j11 := D1.cell 1; have j20 := D2.cell 0; have j21 := D2.cell 1; have j31 := D3.cell 1; have j32 := D3.cell 2))
  all_goals
    go_wp2_with fail
    go_ret2
    have zd : w1.drew.heap.size = w1.heap.size := rfl
    first
      | exact ⟨_, _, rfl, Blk.alloc H2 _, Blk.new w2 _ _, (C1.then CC (by simp)).alloc _, by omega, by omega, by omega⟩
      | (have NB : IsROp (w1.drew.alloc (.cells (opCells (newD b2 c2 1 0)) 47)) (w.heap.size + 1 + 1 + 1) (newD b2 c2 1 0) := (by rw [← z1]; exact Blk.new w1.drew _ _)
         have l2 : w.heap.size + 1 + 1 + 1 < g := (by have := g2; simp [z1] at this; omega)
         exact ⟨_, _, rfl, H2, NB.chg C2 (by simp), C1.then CC (by simp), by omega, by omega, by omega⟩)
/-- The work that an act begins: its kind, its word. -/
def kindOf (k : Nat) (p : Bool) : Nat := if k = 0 then (if p then 0 else 1) else 2
def wordOf (k : Nat) (p : Bool) (x : Nat) : Nat := if k = 0 ∧ p = true then x else 0
theorem begin_all (b1 : Int) (c1 k : Nat) (who : Int) (p : Bool) (x : Nat) (w : World) :
    Calls Try.prog 12 #[.agg #[.int .i64 b1, .int .i64 (c1 : Nat)], .agg #[.int .i64 b1, .int .i64 (c1 : Nat)], .int .i64 (k : Nat), .agg #[.int .u8 who, .bool p, .int .u64 (x : Nat)]] w fun e w' => Began w w' (newD b1 c1 (kindOf k p) (wordOf k p x)) (newD b1 c1 (kindOf k p) (wordOf k p x)) e := by
  by_cases hk : k = 0
  · subst hk
    cases p
    · exact begin_pop b1 b1 c1 c1 who x w
    · exact begin_push b1 b1 c1 c1 who x w
  · have e1 : kindOf k p = 2 := if_neg hk
    have e2 : wordOf k p x = 0 := if_neg (fun h => hk h.1)
    rw [e1, e2]
    exact begin_steal b1 b1 c1 c1 k (by omega) p who x w
end Go.Proofs.Ytcempigpphmchaa
