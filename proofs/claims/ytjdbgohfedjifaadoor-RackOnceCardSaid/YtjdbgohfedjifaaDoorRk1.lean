/- rack: a rack's and a work's cells; end, sign, the work's deque, mark. -/
import Derived.Test.YtjdbgohfedjifaaDoorRkS
import Derived.Test.YtjdbgohfedjifaaDoorDq6
import Derived.Test.YtjdbgohfedjifaaDoorRk0
import Derived.Deep.RegionHeld3
import Derived.BigRegion
import Derived.Deep.DeepCutAuto
namespace Bosun
open Go
/-- A rack's cells. -/
def rackCell (r : RRack) (i : Nat) : Value :=
  if i = 0 then .int .i64 r.base else if i < 33 then (if (i - 1) % 2 = 0 then .int .i64 (r.at ((i - 1) / 16) ((i - 1) / 2 % 8)) else .int .i64 (r.cap : Nat))
  else if i = 33 then .int .u64 (r.s0 : Nat) else if i = 34 then .int .u64 (r.s1 : Nat) else .int .i64 (r.turn : Nat)
def rackRow (r : RRack) : Array Value := ((List.range 36).map (rackCell r)).toArray
theorem rackRow_get (r : RRack) {i : Nat} (h : i < 36) : (rackRow r)[i]? = some (rackCell r i) := by simp [rackRow, h]
theorem rackRow_set (r r' : RRack) (k : Nat) (v : Value) (hk : rackCell r' k = v) (ho : ∀ i, i < 36 → i ≠ k → rackCell r' i = rackCell r i) : (rackRow r).setIfInBounds k v = rackRow r' := by
  apply Array.ext
  · simp [rackRow]
  · intro i h1 h2
    have h3 : i < 36 := by simpa [rackRow] using h2
    rw [Array.getElem_setIfInBounds (by simpa [rackRow] using h3)]
    simp only [rackRow, List.getElem_toArray, List.getElem_map, List.getElem_range]
    by_cases h : k = i
    · subst h; rw [if_pos rfl, hk]
    · rw [if_neg h, ho i h3 (Ne.symm h)]
theorem rackRow_put (r : RRack) {k : Nat} (hk : k < 2) (s : Nat) : (rackRow r).setIfInBounds (33 + k) (.int .u64 (s : Nat)) = rackRow (r.put k s) := by
  match k, hk with
  | 0, _ =>
    refine rackRow_set r _ 33 _ rfl fun i hi hne => ?_
    simp only [rackCell, RRack.put, RRack.at, if_true]
    by_cases h : i = 33
    · exact absurd h hne
    · simp [h]
  | 1, _ =>
    refine rackRow_set r _ 34 _ rfl fun i hi hne => ?_
    simp only [rackCell, RRack.put, RRack.at]
    by_cases h : i = 34
    · exact absurd h hne
    · simp [h]
theorem rackRow_turn (r : RRack) (t : Nat) : (rackRow r).setIfInBounds 35 (.int .i64 (t : Nat)) = rackRow { r with turn := t } := by
  refine rackRow_set r _ 35 _ rfl fun i hi hne => ?_
  simp only [rackCell, RRack.at]
  by_cases h0 : i = 0
  · simp [h0]
  · by_cases h1 : i < 33
    · simp [h0, h1]
    · by_cases h2 : i = 33
      · simp [h2]
      · by_cases h3 : i = 34
        · simp [h3]
        · exact absurd (show i = 35 by omega) hne
theorem rackCell_set (r : RRack) {k : Nat} (hk : k < 2) : rackCell r (33 + k) = .int .u64 (r.set k : Nat) := by
  match k, hk with
  | 0, _ => rfl
  | 1, _ => rfl
theorem rackCell_at (r : RRack) {k l : Nat} (hk : k < 2) (hl : l < 8) : rackCell r (1 + k * 16 + l * 2) = .int .i64 (r.at k l) ∧ rackCell r (1 + k * 16 + l * 2 + 1) = .int .i64 (r.cap : Nat) := by
  unfold rackCell
  constructor
  · rw [if_neg (by omega), if_pos (by omega), if_pos (by omega)]
    congr 2 <;> omega
  · rw [if_neg (by omega), if_pos (by omega), if_neg (by omega)]
/-- What is so of every rack. -/
structure OkRack (r : RRack) : Prop where
  b0 : 0 ≤ r.base
  b1 : r.base ≤ 5
  cap : Pow2 r.cap
  z0 : r.s0 < 256
  z1 : r.s1 < 256
  turn : r.turn < 2
theorem OkRack.s0 {r : RRack} (h : OkRack r) : r.s0 < 18446744073709551616 := Nat.lt_trans h.z0 (by omega)
theorem OkRack.s1 {r : RRack} (h : OkRack r) : r.s1 < 18446744073709551616 := Nat.lt_trans h.z1 (by omega)
end Bosun
namespace Go.Proofs.YtjdbgohfedjifaaDoor
open Go.RowKit Bosun
/-- What a work does next, as a value. -/
def nextV : RNext → Value
  | .pushing => .func (.func 38) #[] #[]
  | .signing => .func (.func 58) #[] #[]
  | .sweeping => .func (.func 56) #[] #[]
  | .asking => .func (.func 78) #[] #[]
  | .again => .func (.func 96) #[] #[]
  | .choosing => .func (.func 41) #[] #[]
  | .taking => .func (.func 60) #[] #[]
  | .emptying => .func (.func 83) #[] #[]
  | .reading => .func (.func 47) #[] #[]
  | .robbing => .func (.func 68) #[] #[]
  | .minding => .func (.func 89) #[] #[]
  | .worst => .func (.func 48) #[] #[]
  | .popping => .func (.func 71) #[] #[]
def ptrO : Option Nat → Value
  | none => .pointer none
  | some g => .pointer (some ⟨g, 0, none⟩)
/-- A work's cells: its rack's block, its function's value, its op's block. -/
def wkCells (rb : Nat) (gv : Value) (ob : Option Nat) (w : RWork) : Array Value :=
  #[.pointer (some ⟨rb, 0, none⟩), nextV w.next, gv, .int .u64 (w.x : Nat), .int .i64 (w.level : Nat), .int .i64 (w.kind : Nat), ptrO ob, .int .u64 (w.from_ : Nat), .int .u64 (w.swept : Nat), .bool w.full, .bool w.holds, .bool w.there, .bool w.sheds, .int .i64 (w.steps : Nat), .bool w.done, .int .i64 w.err]
def IsWk (W : World) (wb rb : Nat) (gv : Value) (ob : Option Nat) (w : RWork) : Prop := Blk W wb (wkCells rb gv ob w) 81
def IsRk (W : World) (rb : Nat) (r : RRack) : Prop := Blk W rb (rackRow r) 75
theorem IsRk.c0 {W : World} {rb : Nat} {r : RRack} (h : IsRk W rb r) : W.cell? ⟨rb, 0, none⟩ = some (.int .i64 r.base) := by rw [Blk.cell h, rackRow_get r (by omega)]; rfl
theorem IsRk.cset {W : World} {rb : Nat} {r : RRack} (h : IsRk W rb r) {k : Nat} (hk : k < 2) : W.cell? ⟨rb, 33 + k, none⟩ = some (.int .u64 (r.set k : Nat)) := by rw [Blk.cell h, rackRow_get r (by omega), rackCell_set r hk]
theorem IsRk.cturn {W : World} {rb : Nat} {r : RRack} (h : IsRk W rb r) : W.cell? ⟨rb, 35, none⟩ = some (.int .i64 (r.turn : Nat)) := by rw [Blk.cell h, rackRow_get r (by omega)]; rfl
theorem IsRk.cat {W : World} {rb : Nat} {r : RRack} (h : IsRk W rb r) {k l : Nat} (hk : k < 2) (hl : l < 8) : W.cell? ⟨rb, 1 + k * 16 + l * 2, none⟩ = some (.int .i64 (r.at k l)) ∧ W.cell? ⟨rb, 1 + k * 16 + l * 2 + 1, none⟩ = some (.int .i64 (r.cap : Nat)) := by
  obtain ⟨h1, h2⟩ := rackCell_at r hk hl
  constructor
  · rw [Blk.cell h, rackRow_get r (by omega), h1]
  · rw [Blk.cell h, rackRow_get r (by omega), h2]
set_option maxHeartbeats 4000000 in
theorem wend_any (wb rb : Nat) (gv : Value) (ob : Option Nat) (wk : RWork) (e : Int) (W : World) (h : IsWk W wb rb gv ob wk) :
    Calls Tryd.prog 53 #[.pointer (some ⟨wb, 0, none⟩), .int .i64 e] W fun x W' => x = .returned (.tuple #[]) ∧ IsWk W' wb rb gv ob { wk with done := true, err := e } ∧ Chg [wb] W W' := by
  have c14 : W.cell? ⟨wb, 14, none⟩ = some (.bool wk.done) := by rw [Blk.cell h]; rfl
  have c15 : W.cell? ⟨wb, 15, none⟩ = some (.int .i64 wk.err) := by rw [Blk.cell h]; rfl
  have z14 : W.frozen? ⟨wb, 14, none⟩ = false := Blk.frozen h _
  have z15 : W.frozen? ⟨wb, 15, none⟩ = false := Blk.frozen h _
  have H := Lib.hid h
  go_enter Tryd.func53, Tryd.ntmps53
  go_wp2_with fail
  go_end0
  exact ⟨rfl, (Blk.setCell (Blk.setCell H.out 14 _) 15 _), ((Chg.refl _ _).setCell (.inl (by simp)) _).setCell (.inl (by simp)) _⟩
theorem blk_ne {W : World} {g g' : Nat} {cs cs' : Array Value} {t t' : TypeId} (h : Blk W g cs t) (h' : Blk W g' cs' t') (ht : t ≠ t') : g ≠ g' := fun e => by
  subst e; exact ht (h.inj h').2
set_option maxHeartbeats 4000000 in
theorem wdeque_any (wb rb : Nat) (gv : Value) (ob : Option Nat) (wk : RWork) (r : RRack) (W : World) (h : IsWk W wb rb gv ob wk) (hr : IsRk W rb r) (hk : wk.kind < 2) (hl : wk.level < 8) :
    Calls Tryd.prog 39 #[.pointer (some ⟨wb, 0, none⟩)] W fun x W' => x = .returned (.agg #[.int .i64 (r.at wk.kind wk.level), .int .i64 (r.cap : Nat)]) ∧ Chg [] W W' := by
  have l1 := Blk.lt h
  have l2 := Blk.lt hr
  have HW := Lib.hid (fun (W' : World) (C : Chg [] W W') => Blk.chg h C (by simp))
  have HR := Lib.hid (fun (W' : World) (C : Chg [] W W') => Blk.chg hr C (by simp))
  obtain ⟨q1, q2⟩ := hr.cat hk hl
  have HQ := Lib.hid (And.intro q1 q2)
  have hki : (wk.kind : Int) < 2 := by omega
  have hli : (wk.level : Int) < 8 := by omega
  have hk0 : (0 : Int) ≤ (wk.kind : Int) := by omega
  have hl0 : (0 : Int) ≤ (wk.level : Int) := by omega
  go_enter Tryd.func39, Tryd.ntmps39
  have c0 : ∀ W', Chg [] W W' → W'.cell? ⟨wb, 0, none⟩ = some (.pointer (some ⟨rb, 0, none⟩)) := fun W' C => by rw [(HW.out W' C).cell]; rfl
  have c4 : ∀ W', Chg [] W W' → W'.cell? ⟨wb, 4, none⟩ = some (.int .i64 (wk.level : Nat)) := fun W' C => by rw [(HW.out W' C).cell]; rfl
  have c5 : ∀ W', Chg [] W W' → W'.cell? ⟨wb, 5, none⟩ = some (.int .i64 (wk.kind : Nat)) := fun W' C => by rw [(HW.out W' C).cell]; rfl
  have c6 : ∀ W', Chg [] W W' → W'.cell? ⟨rb, 1 + wk.kind * 16 + wk.level * 2, none⟩ = some (.int .i64 (r.at wk.kind wk.level)) ∧ W'.cell? ⟨rb, 1 + wk.kind * 16 + wk.level * 2 + 1, none⟩ = some (.int .i64 (r.cap : Nat)) := fun W' C => IsRk.cat (HR.out W' C) hk hl
  have H0 := Lib.hid c0
  have H4 := Lib.hid c4
  have H5 := Lib.hid c5
  have H6 := Lib.hid c6
  clear c0 c4 c5 c6 q1 q2 h hr
  go_upto_region 1 with (fail)
  obtain ⟨w1, hw1⟩ : ∃ w1, w1 = W.alloc (.cells #[.int .i64 0, .int .i64 0] 70) := ⟨_, rfl⟩
  have B1 : Blk w1 W.heap.size #[.int .i64 0, .int .i64 0] 70 := by rw [hw1]; exact Blk.new W _ _
  have C1 : Chg [] W w1 := by rw [hw1]; exact (Chg.refl _ _).alloc _
  rw [← hw1]
  obtain ⟨D, hD⟩ : ∃ D, D = W.heap.size := ⟨_, rfl⟩
  rw [← hD] at B1 ⊢
  clear hw1
  have d0 := H0.out _ C1
  have d4 := H4.out _ C1
  have d5 := H5.out _ C1
  obtain ⟨d6, d7⟩ := H6.out _ C1
  obtain ⟨k, hkk⟩ : ∃ k, k = wk.kind := ⟨_, rfl⟩
  obtain ⟨l, hll⟩ : ∃ l, l = wk.level := ⟨_, rfl⟩
  rw [← hkk, ← hll] at d6 d7
  rw [← hll] at d4 hli hl0
  rw [← hkk] at d5 hki hk0
  have HKL := Lib.hid (And.intro hkk hll)
  clear hkk hll
  have e0 : w1.cell? ⟨D, 0, none⟩ = some (.int .i64 0) := B1.cell 0
  have e1 : w1.cell? ⟨D, 1, none⟩ = some (.int .i64 0) := B1.cell 1
  have z0 : w1.frozen? ⟨D, 0, none⟩ = false := B1.frozen 0
  have z1 : w1.frozen? ⟨D, 1, none⟩ = false := B1.frozen 1
  have hDr : D ≠ rb := by omega
  have hDw : D ≠ wb := by omega
  have HD := Lib.hid (show W.heap.size ≤ D by rw [hD]; exact Nat.le_refl _)
  clear HQ hD l1 l2
  go_big_region
  have B2 : Blk ((w1.setCell ⟨D, 0, none⟩ (.int .i64 (r.at k l))).setCell ⟨D, 1, none⟩ (.int .i64 (r.cap : Nat))).drew D #[.int .i64 (r.at k l), .int .i64 (r.cap : Nat)] 70 := ((B1.setCell 0 _).setCell 1 _).drew
  have C2 : Chg [] W ((w1.setCell ⟨D, 0, none⟩ (.int .i64 (r.at k l))).setCell ⟨D, 1, none⟩ (.int .i64 (r.cap : Nat))).drew := ((C1.setCell (a := ⟨D, 0, none⟩) (.inr HD.out) _).setCell (a := ⟨D, 1, none⟩) (.inr HD.out) _).drew
  obtain ⟨w2, hw2⟩ : ∃ w2, w2 = ((w1.setCell ⟨D, 0, none⟩ (.int .i64 (r.at k l))).setCell ⟨D, 1, none⟩ (.int .i64 (r.cap : Nat))).drew := ⟨_, rfl⟩
  rw [← hw2] at B2 C2 ⊢
  clear hw2 d0 d4 d5 d6 d7 e0 e1 z0 z1 B1 C1
  go_wp2_with fail
  refine bodyPost_ret (results_row rfl _ _ D 70 #[.int .i64 (r.at k l), .int .i64 (r.cap : Nat)] _ rfl B2 Tryd.underlying70 rfl sizeDq) rfl ⟨by rw [HKL.out.1, HKL.out.2], C2⟩
end Go.Proofs.YtjdbgohfedjifaaDoor
