/- rack, the document's: what lies where; end, At, Best, bad. -/
import Derived.Test.YtjdbgohfedjifaaGreatDoorDqD
import Derived.Test.YtjdbgohfedjifaaGreatDoorRkF
import Derived.Test.YtjdbgohfedjifaaGreatDoorRkAll
import Derived.Test.YtjdbgohfedjifaaGreatDoorSt
import Derived.OwnWalk
namespace Go.Proofs.YtjdbgohfedjifaaGreatDoor
open Go.RowKit Bosun
/-- The document's rack. -/
def sbCells (r : RRack) : Array Value := #[.int .i64 r.base, .int .i64 (r.cap : Nat), .int .u64 (r.s0 : Nat), .int .u64 (r.s1 : Nat), .int .i64 (r.turn : Nat)]
def IsSb (W : World) (sb : Nat) (r : RRack) : Prop := Blk W sb (sbCells r) 54
/-- The document's work. name: 0 Put, 1 Take, 2 Rob, 3 Shed; xq: its word; at_: where it stands. -/
def qwCells (sb name xq : Nat) (bad : Value) (at_ : Nat) (ob : Option Nat) (w : RWork) : Array Value :=
  #[.pointer (some ⟨sb, 0, none⟩), .int .i64 (name : Nat), .int .u64 (xq : Nat), .int .i64 (w.level : Nat), .int .i64 (w.kind : Nat), bad, .int .i64 (at_ : Nat), ptrO ob, .int .u64 (w.from_ : Nat), .int .u64 (w.swept : Nat), .bool w.full, .bool w.holds, .bool (decide (name = 0) && w.there), .int .i64 (w.steps : Nat), .bool w.done, .int .i64 w.err]
def IsQw (W : World) (qb sb name xq : Nat) (bad : Value) (at_ : Nat) (ob : Option Nat) (w : RWork) : Prop := Blk W qb (qwCells sb name xq bad at_ ob w) 43
theorem qend_any (qb sb name xq : Nat) (bad : Value) (at_ : Nat) (ob : Option Nat) (wk : RWork) (e : Int) (W : World) (h : IsQw W qb sb name xq bad at_ ob wk) :
    Calls Tryz.prog 67 #[.pointer (some ⟨qb, 0, none⟩), .int .i64 e] W fun x W' => x = .returned (.tuple #[]) ∧ IsQw W' qb sb name xq bad at_ ob { wk with done := true, err := e } ∧ Chg [qb] W W' := by
  have c14 : W.cell? ⟨qb, 14, none⟩ = some (.bool wk.done) := by rw [Blk.cell h]; rfl
  have c15 : W.cell? ⟨qb, 15, none⟩ = some (.int .i64 wk.err) := by rw [Blk.cell h]; rfl
  have z14 : W.frozen? ⟨qb, 14, none⟩ = false := Blk.frozen h _
  have z15 : W.frozen? ⟨qb, 15, none⟩ = false := Blk.frozen h _
  have H := Lib.hid h
  go_enter Tryz.func67, Tryz.ntmps67
  go_wp2_with fail
  go_end0
  exact ⟨rfl, (Blk.setCell (Blk.setCell H.out 14 _) 15 _), ((Chg.refl _ _).setCell (.inl (by simp)) _).setCell (.inl (by simp)) _⟩
theorem sizeRd : (Tryz.prog.info? 100).map (·.size) = some 2 := by kernel_rfl
set_option maxHeartbeats 4000000 in
theorem qat_any (sb : Nat) (r : RRack) (k l : Nat) (W : World) (h : IsSb W sb r) (ok : OkRack r) (hk : k < 2) (hl : l < 8) :
    Calls Tryz.prog 52 #[.pointer (some ⟨sb, 0, none⟩), .int .i64 (l : Nat), .int .i64 (k : Nat)] W fun e W' => e = .returned (.agg #[.int .i64 (r.at k l), .int .i64 (r.cap : Nat)]) ∧ Chg [] W W' := by
  have hb0 := ok.b0
  have hb1 := ok.b1
  have hc := ok.cap.le
  have c0 : W.cell? ⟨sb, 0, none⟩ = some (.int .i64 r.base) := by rw [Blk.cell h]; rfl
  have c1 : W.cell? ⟨sb, 1, none⟩ = some (.int .i64 (r.cap : Nat)) := by rw [Blk.cell h]; rfl
  have hm : (8 * k + l) * (2 + r.cap) ≤ 15 * 258 := Nat.mul_le_mul (by omega) (by omega)
  have e1 : IntKind.i64.wrap (r.base + 1) = r.base + 1 := by rw [IntKind.wrap_i64]; omega
  have e2 : IntKind.i64.wrap (8 * (k : Int)) = 8 * (k : Int) := by rw [IntKind.wrap_i64]; omega
  have e3 : IntKind.i64.wrap (8 * (k : Int) + (l : Int)) = 8 * (k : Int) + (l : Int) := by rw [IntKind.wrap_i64]; omega
  have e4 : IntKind.i64.wrap (2 + (r.cap : Int)) = 2 + (r.cap : Int) := by rw [IntKind.wrap_i64]; omega
  have hcast : ((((8 * k + l) * (2 + r.cap) : Nat)) : Int) = (8 * (k : Int) + (l : Int)) * (2 + (r.cap : Int)) := by push_cast; rfl
  have e5 : IntKind.i64.wrap ((8 * (k : Int) + (l : Int)) * (2 + (r.cap : Int))) = (8 * (k : Int) + (l : Int)) * (2 + (r.cap : Int)) := by rw [IntKind.wrap_i64]; omega
  have e6 : IntKind.i64.wrap (r.base + 1 + (8 * (k : Int) + (l : Int)) * (2 + (r.cap : Int))) = r.base + 1 + (8 * (k : Int) + (l : Int)) * (2 + (r.cap : Int)) := by rw [IntKind.wrap_i64]; omega
  have HA := Lib.hid (show r.at k l = r.base + 1 + (8 * (k : Int) + (l : Int)) * (2 + (r.cap : Int)) by unfold RRack.at; rw [hcast])
  have HK := Lib.hid (fun (W' : World) (C : Chg [] W W') => show W'.cell? ⟨sb, 0, none⟩ = some (.int .i64 r.base) ∧ W'.cell? ⟨sb, 1, none⟩ = some (.int .i64 (r.cap : Nat)) from ⟨by rw [Blk.cell (Blk.chg h C (by simp))]; rfl, by rw [Blk.cell (Blk.chg h C (by simp))]; rfl⟩)
  clear hm hcast h c0 c1
  go_enter Tryz.func52, Tryz.ntmps52
  go_wp2_with fail
  go_region_held3 (fun w' => w'.cell? ⟨sb, 0, none⟩ = some (.int .i64 r.base) ∧ w'.cell? ⟨sb, 1, none⟩ = some (.int .i64 (r.cap : Nat))) (first | assumption | exact HK.out _ (((Chg.refl _ _).alloc _).drew) | exact HK.out _ ((Chg.refl _ _).alloc _)) (fail)
  go_wp2_with fail
  rw [← HA.out]
  refine bodyPost_ret (results_row rfl _ _ W.heap.size 100 #[.int .i64 (r.at k l), .int .i64 (r.cap : Nat)] _ rfl ?_ Tryz.underlying100 rfl sizeRd) rfl ⟨rfl, ?_⟩
  · exact Blk.new _ _ _
  · exact ((Chg.refl _ _).alloc _).drew
theorem leastTo_hit {s l : Nat} (hl : l < 8) (h : s.testBit l = true) : leastTo s (8 - l) l = l := by
  obtain ⟨n, hn⟩ : ∃ n, 8 - l = n + 1 := ⟨7 - l, by omega⟩
  rw [hn]; unfold leastTo; rw [if_pos h]
theorem leastTo_miss {s l : Nat} (hl : l < 8) (h : s.testBit l = false) : leastTo s (8 - l) l = leastTo s (8 - (l + 1)) (l + 1) := by
  obtain ⟨n, hn⟩ : ∃ n, 8 - l = n + 1 := ⟨7 - l, by omega⟩
  rw [hn, show 8 - (l + 1) = n by omega]; rw [leastTo, if_neg (by rw [h]; simp)]
theorem leastTo_end (s : Nat) : leastTo s (8 - 8) 8 = 8 := by show leastTo s 0 8 = 8; rw [leastTo]
theorem has_natL {s l : Nat} (hl : l < 64) : has s (l : Int) = s.testBit l := by unfold has; simp; omega
set_option maxHeartbeats 4000000 in
theorem qbest_any (sb : Nat) (r : RRack) (W : World) (h : IsSb W sb r) (ok : OkRack r) :
    Calls Tryz.prog 16 #[.pointer (some ⟨sb, 0, none⟩)] W fun e W' => e = .returned (.int .i64 (bestR r : Nat)) ∧ Chg [] W W' := by
  have HH := Lib.hid (fun (W' : World) (C : Chg [] W W') => show W'.cell? ⟨sb, 2, none⟩ = some (.int .u64 (r.s0 : Nat)) ∧ W'.cell? ⟨sb, 3, none⟩ = some (.int .u64 (r.s1 : Nat)) from ⟨by rw [Blk.cell (Blk.chg h C (by simp))]; rfl, by rw [Blk.cell (Blk.chg h C (by simp))]; rfl⟩)
  have HS0 := Lib.hid (fun (l : Nat) (hl : l < 64) w => show Calls Tryz.prog 48 #[.int .u64 (r.s0 : Nat), .int .i64 (l : Nat)] w fun e w' => e = .returned (.bool (r.s0.testBit l)) ∧ Chg [] w w' from by rw [← has_natL hl]; exact has_any r.s0 ok.s0 l w)
  have HS1 := Lib.hid (fun (l : Nat) (hl : l < 64) w => show Calls Tryz.prog 48 #[.int .u64 (r.s1 : Nat), .int .i64 (l : Nat)] w fun e w' => e = .returned (.bool (r.s1.testBit l)) ∧ Chg [] w w' from by rw [← has_natL hl]; exact has_any r.s1 ok.s1 l w)
  obtain ⟨S, hS⟩ : ∃ S, S = r.s0 ||| r.s1 := ⟨_, rfl⟩
  have HST := Lib.hid (fun l => show S.testBit l = (r.s0.testBit l || r.s1.testBit l) by rw [hS, Nat.testBit_or])
  have hB : bestR r = leastTo S (8 - 0) 0 := by rw [hS]; rfl
  obtain ⟨b, hb⟩ : ∃ b, b = bestR r := ⟨_, rfl⟩
  rw [← hb] at hB ⊢
  have HB := Lib.hid hB
  clear h hS hB hb
  go_enter Tryz.func16, Tryz.ntmps16
  go_wp2_with fail
  go_loopw [3] (fun x wr => ∃ l : Nat, l ≤ 8 ∧ x = .int .i64 l ∧ Hid (b = leastTo S (8 - l) l) ∧ Chg [] W wr) (fun x _ => 9 - (intOf x).toNat)
  case atStart => exact ⟨0, by omega, rfl, HB, Chg.refl _ _⟩
  case round =>
    obtain ⟨l, hl, rfl, HL, C⟩ := hrel
    have HC := Lib.hid C
    clear C HB
    by_cases hl8 : l < 8
    · have hl8i : (l : Int) < 8 := by omega
      obtain ⟨c2, c3⟩ := HH.out wr HC.out
      have H0 := Lib.hid (HS0.out l (by omega))
      have H1 := Lib.hid (HS1.out l (by omega))
      have HT := Lib.hid (HST.out l)
      obtain ⟨b0, hb0⟩ : ∃ b0, b0 = r.s0.testBit l := ⟨_, rfl⟩
      obtain ⟨b1, hb1⟩ : ∃ b1, b1 = r.s1.testBit l := ⟨_, rfl⟩
      rw [← hb0] at H0 HT
      rw [← hb1] at H1 HT
      clear hb0 hb1
      cases b0 with
      | true =>
        have HR := Lib.hid (show b = l by rw [HL.out, leastTo_hit hl8 (by rw [HT.out]; rfl)])
        go_wp2_with (go_at_call 48; refine (H0.out _).mono ?_; rintro e w2 ⟨rfl, C2⟩)
        go_ret
        exact ⟨ret_int (by rw [HR.out]), HC.out.then C2 (by simp)⟩
      | false =>
        cases b1 with
        | true =>
          have HR := Lib.hid (show b = l by rw [HL.out, leastTo_hit hl8 (by rw [HT.out]; rfl)])
          go_wp2_with (go_at_call 48; first | (refine (H0.out _).mono ?_; rintro e w2 ⟨rfl, C2⟩; obtain ⟨d2, d3⟩ := HH.out w2 (HC.out.then C2 (by simp)); clear H0) | (refine (H1.out _).mono ?_; rintro e w3 ⟨rfl, C3⟩))
          go_ret
          exact ⟨ret_int (by rw [HR.out]), (HC.out.then C2 (by simp)).then C3 (by simp)⟩
        | false =>
          have HN := Lib.hid (show b = leastTo S (8 - (l + 1)) (l + 1) by rw [HL.out, leastTo_miss hl8 (by rw [HT.out]; rfl)])
          go_wp2_with (go_at_call 48; first | (refine (H0.out _).mono ?_; rintro e w2 ⟨rfl, C2⟩; obtain ⟨d2, d3⟩ := HH.out w2 (HC.out.then C2 (by simp)); clear H0) | (refine (H1.out _).mono ?_; rintro e w3 ⟨rfl, C3⟩))
          go_roundw
          case rel => exact ⟨l + 1, by omega, by go_num, HN, (HC.out.then C2 (by simp)).then C3 (by simp)⟩
          case measure => simp [intOf] <;> omega
    · obtain rfl : l = 8 := by omega
      have HR := Lib.hid (show b = 8 from HL.out.trans (leastTo_end S))
      rw [show ((8 : Nat) : Int) = 8 from rfl]
      go_wp2_with fail
      go_ret
      exact ⟨ret_int (by rw [HR.out]; simp), HC.out⟩
set_option maxHeartbeats 4000000 in
theorem qbad_any (qb sb name xq : Nat) (v : Value) (at_ : Nat) (ob : Option Nat) (wk : RWork) (l : List Nat) (x : Nat) (w : World) (h : IsQw w qb sb name xq v at_ ob wk) (hv : Reads w v (words l)) :
    Calls Tryz.prog 70 #[.pointer (some ⟨qb, 0, none⟩), .int .u64 (x : Nat)] w fun e w' => e = .returned (.bool (decide (x ∈ l))) ∧ w = w' := by
  have c5 : w.cell? ⟨qb, 5, none⟩ = some v := by rw [Blk.cell h]; rfl
  obtain ⟨ao, cap, rfl, hm, hc⟩ := hv
  rw [words_len] at hm c5
  unfold maxLen at hm
  have HC := Lib.hid hc
  clear hc h
  go_enter Tryz.func70, Tryz.ntmps70
  go_wp2_with fail
  go_loopw [5] (fun i wr => ∃ k : Nat, k ≤ l.length ∧ i = .int .i64 k ∧ Hid (x ∉ l.take k) ∧ w = wr) (fun i _ => l.length - (intOf i).toNat)
  case atStart => exact ⟨0, by omega, rfl, Lib.hid (by simp), rfl⟩
  case round =>
    obtain ⟨k, hk, rfl, HN, rfl⟩ := hrel
    by_cases hkl : k < l.length
    · have b1 : (k : Int) < (l.length : Int) := by omega
      have b0 : (0 : Int) ≤ (k : Int) := by omega
      obtain ⟨g, off, rfl, hcell⟩ := HC.out k (.int .u64 (l[k] : Nat)) (by simp [words, hkl])
      have HM := Lib.hid (mem_take_succ (x := x) hkl)
      have HIN := Lib.hid (List.getElem_mem hkl)
      obtain ⟨y, hy⟩ : ∃ y, y = l[k] := ⟨_, rfl⟩
      rw [← hy] at hcell HM HIN
      clear hy
      by_cases hxy : y = x
      · have e1 : ((y : Int) == (x : Int)) = true := by simp [hxy]
        have HD := Lib.hid (show decide (x ∈ l) = true by rw [← hxy]; exact decide_eq_true HIN.out)
        clear hxy
        go_wp2_with fail
        go_ret
        exact ⟨ret_bool HD.out.symm, rfl⟩
      · have e1 : ((y : Int) == (x : Int)) = false := by simp; omega
        have HN2 := Lib.hid (show x ∉ l.take (k + 1) by rw [HM.out]; intro h; rcases h with h | h; exact HN.out h; exact hxy h.symm)
        clear hxy
        go_wp2_with fail
        go_roundw
        case rel => exact ⟨k + 1, by omega, by go_num, HN2, by trivial⟩
        case measure => simp [intOf] <;> omega
    · obtain rfl : k = l.length := by omega
      have HD := Lib.hid (show decide (x ∈ l) = false by have h := HN.out; rw [List.take_length] at h; exact decide_eq_false h)
      go_wp2_with fail
      go_ret
      exact ⟨ret_bool HD.out.symm, rfl⟩
end Go.Proofs.YtjdbgohfedjifaaGreatDoor

/- rack, the document's: Result, Held; the page's Held. -/
namespace Bosun
open Go
/-- What a work holds in its hand. -/
def heldR (w : RWork) : Nat × Bool := if w.done = true ∨ w.there = true then (0, false) else if w.holds = true then (w.swept, true) else (w.x, true)
/-- What is so of every work beside the page's: its name, where it stands. -/
def atQ (w : RWork) : Nat :=
  match w.next with
  | .pushing => 1
  | .sweeping => 2
  | .asking => 3
  | .again => 4
  | .signing => 5
  | .emptying => 5
  | .choosing => 0
  | .taking => 6
  | .reading => 0
  | .robbing => 6
  | .minding => 3
  | .worst => 0
  | .popping => 7
end Bosun
namespace Go.Proofs.YtjdbgohfedjifaaGreatDoor
open Go.RowKit Bosun
set_option maxHeartbeats 8000000 in
theorem qresult_any (W : World) (qb sb name xq : Nat) (bad : Value) (at_ : Nat) (ob : Option Nat) (w : RWork) (h : IsQw W qb sb name xq bad at_ ob w) (hx : w.err = 0 → xq = w.x) :
    Calls Tryz.prog 39 #[.pointer (some ⟨qb, 0, none⟩)] W fun e W' => e = .returned (.tuple #[.int .u64 ((resR w).1 : Nat), .int .i64 (resR w).2.1, .int .i64 (resR w).2.2]) ∧ Chg [] W W' := by
  have c2 : W.cell? ⟨qb, 2, none⟩ = some (.int .u64 (xq : Nat)) := by rw [Blk.cell h]; rfl
  have c3 : W.cell? ⟨qb, 3, none⟩ = some (.int .i64 (w.level : Nat)) := by rw [Blk.cell h]; rfl
  have c14 : W.cell? ⟨qb, 14, none⟩ = some (.bool w.done) := by rw [Blk.cell h]; rfl
  have c15 : W.cell? ⟨qb, 15, none⟩ = some (.int .i64 w.err) := by rw [Blk.cell h]; rfl
  obtain ⟨l, hl⟩ : ∃ l, l = w.level := ⟨_, rfl⟩
  obtain ⟨d, hd⟩ : ∃ d, d = w.done := ⟨_, rfl⟩
  obtain ⟨r, hr⟩ : ∃ r, r = w.err := ⟨_, rfl⟩
  have HR := Lib.hid (show resR w = if d = false then (0, 8, 14) else if r ≠ 0 then (0, 8, r) else (xq, (l : Int), 0) by
    unfold resR; rw [hl, hd, hr]
    split
    · rfl
    · split
      · rfl
      · rename_i h1; rw [hx (by simpa using h1)])
  rw [← hl] at c3
  rw [← hd] at c14
  rw [← hr] at c15
  obtain ⟨z, hz⟩ : ∃ z, z = resR w := ⟨_, rfl⟩
  rw [← hz] at HR ⊢
  clear h hx hl hd hr hz
  go_enter Tryz.func39, Tryz.ntmps39
  cases d
  · go_wp2_with fail
    go_ret3
    rw [HR.out]
    exact ⟨rfl, Chg.refl _ _⟩
  · by_cases h0 : r = 0
    · have e0 : (r != 0) = false := by simp [h0]
      have H0 := Lib.hid h0
      clear h0
      go_wp2_with fail
      go_region_held3 (fun w' => w'.cell? ⟨qb, 2, none⟩ = some (.int .u64 (xq : Nat)) ∧ w'.cell? ⟨qb, 3, none⟩ = some (.int .i64 (l : Nat))) (first | assumption | exact ⟨c2, c3⟩ | fail) (fail)
      go_wp2_with fail
      go_ret3
      rw [HR.out, if_neg (by simp), if_neg (by simp [H0.out])]
      exact ⟨rfl, (Chg.refl _ _).drew⟩
    · have e0 : (r != 0) = true := by simp [h0]
      have H0 := Lib.hid h0
      clear h0
      go_wp2_with fail
      go_region_held3 (fun w' => w'.cell? ⟨qb, 15, none⟩ = some (.int .i64 r)) (first | assumption | exact c15 | fail) (fail)
      go_wp2_with fail
      go_ret3
      rw [HR.out, if_neg (by simp), if_pos H0.out]
      exact ⟨rfl, (Chg.refl _ _).drew⟩
set_option maxHeartbeats 8000000 in
theorem wheld_any (W : World) (wb rb : Nat) (gv : Value) (ob : Option Nat) (w : RWork) (h : IsWk W wb rb gv ob w) :
    Calls Tryz.prog 40 #[.pointer (some ⟨wb, 0, none⟩)] W fun e W' => e = .returned (.tuple #[.int .u64 ((heldR w).1 : Nat), .bool (heldR w).2]) ∧ Chg [] W W' := by
  have c3 : W.cell? ⟨wb, 3, none⟩ = some (.int .u64 (w.x : Nat)) := by rw [Blk.cell h]; rfl
  have c8 : W.cell? ⟨wb, 8, none⟩ = some (.int .u64 (w.swept : Nat)) := by rw [Blk.cell h]; rfl
  have c10 : W.cell? ⟨wb, 10, none⟩ = some (.bool w.holds) := by rw [Blk.cell h]; rfl
  have c11 : W.cell? ⟨wb, 11, none⟩ = some (.bool w.there) := by rw [Blk.cell h]; rfl
  have c14 : W.cell? ⟨wb, 14, none⟩ = some (.bool w.done) := by rw [Blk.cell h]; rfl
  obtain ⟨x, hx⟩ : ∃ x, x = w.x := ⟨_, rfl⟩
  obtain ⟨s, hs⟩ : ∃ s, s = w.swept := ⟨_, rfl⟩
  obtain ⟨b, hb⟩ : ∃ b, b = w.holds := ⟨_, rfl⟩
  obtain ⟨t, ht⟩ : ∃ t, t = w.there := ⟨_, rfl⟩
  obtain ⟨d, hd⟩ : ∃ d, d = w.done := ⟨_, rfl⟩
  have HR := Lib.hid (show heldR w = if d = true ∨ t = true then (0, false) else if b = true then (s, true) else (x, true) by unfold heldR; rw [hx, hs, hb, ht, hd])
  rw [← hx] at c3
  rw [← hs] at c8
  rw [← hb] at c10
  rw [← ht] at c11
  rw [← hd] at c14
  obtain ⟨z, hz⟩ : ∃ z, z = heldR w := ⟨_, rfl⟩
  rw [← hz] at HR ⊢
  clear h hx hs hb ht hd hz
  go_enter Tryz.func40, Tryz.ntmps40
  cases d
  · cases t
    · cases b
      · go_wp2_with fail
        go_ret2
        rw [HR.out]
        exact ⟨rfl, Chg.refl _ _⟩
      · go_wp2_with fail
        go_ret2
        rw [HR.out]
        exact ⟨rfl, Chg.refl _ _⟩
    · go_wp2_with fail
      go_ret2
      rw [HR.out]
      exact ⟨rfl, Chg.refl _ _⟩
  · go_wp2_with fail
    go_ret2
    rw [HR.out]
    exact ⟨rfl, Chg.refl _ _⟩
set_option maxHeartbeats 8000000 in
theorem qheld_any (W : World) (qb sb name xq : Nat) (bad : Value) (at_ : Nat) (ob : Option Nat) (w : RWork) (h : IsQw W qb sb name xq bad at_ ob w) (hn : name ≠ 0 → w.there = true) (ht0 : w.there = true → w.holds = false ∨ name ≠ 0) (hx : w.done = false → xq = w.x) (hn4 : name < 4) :
    Calls Tryz.prog 41 #[.pointer (some ⟨qb, 0, none⟩)] W fun e W' => e = .returned (.tuple #[.int .u64 ((heldR w).1 : Nat), .bool (heldR w).2]) ∧ Chg [] W W' := by
  have c1 : W.cell? ⟨qb, 1, none⟩ = some (.int .i64 (name : Nat)) := by rw [Blk.cell h]; rfl
  have c2 : W.cell? ⟨qb, 2, none⟩ = some (.int .u64 (xq : Nat)) := by rw [Blk.cell h]; rfl
  have c9 : W.cell? ⟨qb, 9, none⟩ = some (.int .u64 (w.swept : Nat)) := by rw [Blk.cell h]; rfl
  have c11 : W.cell? ⟨qb, 11, none⟩ = some (.bool w.holds) := by rw [Blk.cell h]; rfl
  have c12 : W.cell? ⟨qb, 12, none⟩ = some (.bool (decide (name = 0) && w.there)) := by rw [Blk.cell h]; rfl
  have c14 : W.cell? ⟨qb, 14, none⟩ = some (.bool w.done) := by rw [Blk.cell h]; rfl
  by_cases n0 : name = 0
  · subst n0
    have HR := Lib.hid (show heldR w = if w.done = true then (0, false) else if w.holds = true then (w.swept, true) else if w.there = true then (0, false) else (xq, true) by
      unfold heldR
      cases hd : w.done with
      | true => simp
      | false =>
        cases ht : w.there with
        | true =>
          have : w.holds = false := by rcases ht0 ht with h | h; exact h; exact absurd rfl h
          simp [this]
        | false => simp [hx hd])
    obtain ⟨s, hs⟩ : ∃ s, s = w.swept := ⟨_, rfl⟩
    obtain ⟨b, hb⟩ : ∃ b, b = w.holds := ⟨_, rfl⟩
    obtain ⟨t, ht⟩ : ∃ t, t = w.there := ⟨_, rfl⟩
    obtain ⟨d, hd⟩ : ∃ d, d = w.done := ⟨_, rfl⟩
    rw [← hs] at c9 HR
    rw [← hb] at c11 HR
    rw [decide_eq_true rfl, Bool.true_and, ← ht] at c12
    rw [← ht, ← hd] at HR
    rw [← hd] at c14
    obtain ⟨z, hz⟩ : ∃ z, z = heldR w := ⟨_, rfl⟩
    rw [← hz] at HR ⊢
    have c1' : W.cell? ⟨qb, 1, none⟩ = some (.int .i64 0) := c1
    clear h hn ht0 hx hs hb ht hd hz c1
    go_enter Tryz.func41, Tryz.ntmps41
    cases d
    · cases b
      · cases t
        · go_wp2_with fail
          go_ret2
          rw [HR.out]
          exact ⟨rfl, Chg.refl _ _⟩
        · go_wp2_with fail
          go_ret2
          rw [HR.out]
          exact ⟨rfl, Chg.refl _ _⟩
      · go_wp2_with fail
        go_ret2
        rw [HR.out]
        exact ⟨rfl, Chg.refl _ _⟩
    · go_wp2_with fail
      go_ret2
      rw [HR.out]
      exact ⟨rfl, Chg.refl _ _⟩
  · have HR := Lib.hid (show heldR w = (0, false) by unfold heldR; rw [if_pos (.inr (hn n0))])
    obtain ⟨z, hz⟩ : ∃ z, z = heldR w := ⟨_, rfl⟩
    rw [← hz] at HR ⊢
    have e0 : ((name : Int) != 0) = true := by simp [n0]
    clear h hn ht0 hx hz n0
    go_enter Tryz.func41, Tryz.ntmps41
    go_wp2_with fail
    go_ret2
    rw [HR.out]
    exact ⟨rfl, Chg.refl _ _⟩
end Go.Proofs.YtjdbgohfedjifaaGreatDoor
