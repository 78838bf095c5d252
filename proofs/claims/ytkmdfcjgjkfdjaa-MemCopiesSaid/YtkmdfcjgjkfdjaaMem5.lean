/- mem: one act on both memories. -/
import Derived.Test.YtkmdfcjgjkfdjaaMem4
import Derived.Test.YtkmdfcjgjkfdjaaMem2
import Derived.Deep.RegionHeld3
namespace Go.Proofs.Ytkmdfcjgjkfdjaa
open Go.RowKit Bosun

/-- Both memories hold the same words, and were asked as often; they share nothing. -/
structure Both (w : World) (bm bw rm rw : Nat) (W : List Nat) (u : Nat) : Prop where
  m : IsMem w bm bw W u
  r : IsRef w rm rw W u
  d1 : bm ≠ rm
  d2 : bm ≠ rw
  d3 : bw ≠ rm
  d4 : bw ≠ rw
theorem Both.keep {w w1 : World} {bm bw rm rw : Nat} {W : List Nat} {u : Nat} (h : Both w bm bw rm rw W u) (hc : Chg [] w w1) : Both w1 bm bw rm rw W u :=
  ⟨h.m.keep hc, h.r.keep hc, h.d1, h.d2, h.d3, h.d4⟩
/-- What an act leaves. -/
def Acted (w w' : World) (bm bw rm rw : Nat) (W : List Nat) : Prop :=
  ∃ W' u', Both w' bm bw rm rw W' u' ∧ W'.length = W.length ∧ Chg [bm, bw, rm, rw] w w'

theorem Both.acted {w0 w w' : World} {bm bw rm rw : Nat} {W W' : List Nat} {u u' : Nat} (h : Both w0 bm bw rm rw W u) (hm : IsMem w' bm bw W' u') (hr : IsRef w' rm rw W' u') (hl : W'.length = W.length) (hc : Chg [bm, bw, rm, rw] w w') : Acted w w' bm bw rm rw W :=
  ⟨W', u', ⟨hm, hr, h.d1, h.d2, h.d3, h.d4⟩, hl, hc⟩
theorem Both.mem_out {w w1 : World} {bm bw rm rw : Nat} {W : List Nat} {u : Nat} {W' : List Nat} {u' : Nat} (h : Both w bm bw rm rw W u) {w0 : World} (hm : IsMem w0 bm bw W' u') {S : List Nat} (hc : Chg S w0 w1) (hS : ∀ g, g ∈ S → g = rm ∨ g = rw) : IsMem w1 bm bw W' u' :=
  hm.chg hc (fun hg => by rcases hS _ hg with e | e; exact h.d1 e; exact h.d2 e) (fun hg => by rcases hS _ hg with e | e; exact h.d3 e; exact h.d4 e)
theorem Both.ref_out {w w1 : World} {bm bw rm rw : Nat} {W : List Nat} {u : Nat} {W' : List Nat} {u' : Nat} (h : Both w bm bw rm rw W u) {w0 : World} (hr : IsRef w0 rm rw W' u') {S : List Nat} (hc : Chg S w0 w1) (hS : ∀ g, g ∈ S → g = bm ∨ g = bw) : IsRef w1 rm rw W' u' :=
  hr.chg hc (fun hg => by rcases hS _ hg with e | e; exact h.d1 e.symm; exact h.d3 e.symm) (fun hg => by rcases hS _ hg with e | e; exact h.d2 e.symm; exact h.d4 e.symm)

set_option maxHeartbeats 1600000 in
theorem does0 (bm bw rm rw : Nat) (W : List Nat) (u : Nat) (w : World) (h : Both w bm bw rm rw W u) (kind A N : Int) (x old : Nat) (hk0 : 0 ≤ kind) (hk : kind ≤ 255)
    (hA : -9223372036854775808 ≤ A) (hA2 : A ≤ 9223372036854775807) (hN : -9223372036854775808 ≤ N) (hN2 : N ≤ 9223372036854775807) (hx : x < 18446744073709551616) (ho : old < 18446744073709551616) (hk5 : kind % 5 = 0) :
    Calls Try.prog 14 #[.pointer (some ⟨bm, 0, none⟩), .pointer (some ⟨rm, 0, none⟩), .agg #[.int .u8 kind, .int .i64 A, .int .i64 N, .int .u64 x, .int .u64 old]] w fun e w' => e = .returned (.bool true) ∧ Acted w w' bm bw rm rw W := by
  go_enter Try.func14, Try.ntmps14
  go_wp2_with fail
  obtain ⟨w1, hw1⟩ : ∃ w1, w1 = w.alloc (.cells #[.int .u8 kind, .int .i64 A, .int .i64 N, .int .u64 x, .int .u64 old] 39) := ⟨_, rfl⟩
  have C1 : Chg [] w w1 := by rw [hw1]; exact (Chg.refl _ _).alloc _
  have B1 : Blk w1 w.heap.size #[.int .u8 kind, .int .i64 A, .int .i64 N, .int .u64 x, .int .u64 old] 39 := by rw [hw1]; exact Blk.new _ _ _
  have hb := h.keep C1
  rw [← hw1]
  clear hw1
  have n1 : w.heap.size ∉ [bm, bw] := by
    have a1 := h.m.head.lt; have a2 := h.m.row.lt; simp; omega
  have n2 : w.heap.size ∉ [rm, rw] := by
    have a1 := h.r.head.lt; have a2 := h.r.row.lt; simp; omega
  have e1 : w1.cell? ⟨w.heap.size, 1, none⟩ = some (.int .i64 A) := B1.cell 1
  go_region_held3 (fun w' => w'.cell? ⟨w.heap.size, 1, none⟩ = some (.int .i64 A)) (first | assumption | simpa using e1)
    (first
      | (go_at_call 10; refine (load_any bm bw W u _ hb.m.drew A).mono ?_; rintro e w2 ⟨rfl, M2, C2⟩; have B2 := B1.drew.chg C2 (fun hm => n1 (by simp at hm; simp [hm])); have e2 : w2.cell? ⟨w.heap.size, 1, none⟩ = some (.int .i64 A) := B2.cell 1; have R2 := h.ref_out hb.r.drew C2 (by simp))
      | (go_at_call 23; refine (rload_any rm rw W u _ R2 A).mono ?_; rintro e w3 ⟨rfl, R3, C3⟩; have B3 := B2.chg C3 (fun hm => n2 (by simp at hm; simp [hm])); have e3 : w3.cell? ⟨w.heap.size, 1, none⟩ = some (.int .i64 A) := B3.cell 1; have M3 := h.mem_out M2 C3 (by simp)))
  go_wp2
  go_ret
  exact ⟨ret_bool (by simp), hb.acted M3 R3 rfl ((C1.drew.weak.then C2 (fun g hg => .inl (by simp only [List.mem_cons, List.not_mem_nil, or_false] at hg ⊢; omega))).then C3 (fun g hg => .inl (by simp only [List.mem_cons, List.not_mem_nil, or_false] at hg ⊢; omega)))⟩

set_option maxHeartbeats 1600000 in
theorem does2 (bm bw rm rw : Nat) (W : List Nat) (u : Nat) (w : World) (h : Both w bm bw rm rw W u) (kind A N : Int) (x old : Nat) (hk0 : 0 ≤ kind) (hk : kind ≤ 255)
    (hA : -9223372036854775808 ≤ A) (hA2 : A ≤ 9223372036854775807) (hN : -9223372036854775808 ≤ N) (hN2 : N ≤ 9223372036854775807) (hx : x < 18446744073709551616) (ho : old < 18446744073709551616) (hk5 : kind % 5 = 2) :
    Calls Try.prog 14 #[.pointer (some ⟨bm, 0, none⟩), .pointer (some ⟨rm, 0, none⟩), .agg #[.int .u8 kind, .int .i64 A, .int .i64 N, .int .u64 x, .int .u64 old]] w fun e w' => e = .returned (.bool true) ∧ Acted w w' bm bw rm rw W := by
  go_enter Try.func14, Try.ntmps14
  go_wp2_with fail
  obtain ⟨w1, hw1⟩ : ∃ w1, w1 = w.alloc (.cells #[.int .u8 kind, .int .i64 A, .int .i64 N, .int .u64 x, .int .u64 old] 39) := ⟨_, rfl⟩
  have C1 : Chg [] w w1 := by rw [hw1]; exact (Chg.refl _ _).alloc _
  have B1 : Blk w1 w.heap.size #[.int .u8 kind, .int .i64 A, .int .i64 N, .int .u64 x, .int .u64 old] 39 := by rw [hw1]; exact Blk.new _ _ _
  have hb := h.keep C1
  rw [← hw1]
  clear hw1
  have n1 : w.heap.size ∉ [bm, bw] := by
    have a1 := h.m.head.lt; have a2 := h.m.row.lt; simp; omega
  have n2 : w.heap.size ∉ [rm, rw] := by
    have a1 := h.r.head.lt; have a2 := h.r.row.lt; simp; omega
  have e1 : w1.cell? ⟨w.heap.size, 1, none⟩ = some (.int .i64 A) ∧ w1.cell? ⟨w.heap.size, 4, none⟩ = some (.int .u64 old) ∧ w1.cell? ⟨w.heap.size, 3, none⟩ = some (.int .u64 x) := ⟨B1.cell 1, B1.cell 4, B1.cell 3⟩
  have E1 := Lib.hid e1
  obtain ⟨f1, f4, f3⟩ := e1
  go_region_held3 (fun w' => w'.cell? ⟨w.heap.size, 1, none⟩ = some (.int .i64 A) ∧ w'.cell? ⟨w.heap.size, 4, none⟩ = some (.int .u64 old) ∧ w'.cell? ⟨w.heap.size, 3, none⟩ = some (.int .u64 x)) (first | assumption | exact E1.out | exact B1.cell 1)
    (first
      | (go_at_call 8; refine (cas_any bm bw W u _ hb.m.drew A old x hx).mono ?_; rintro e w2 ⟨rfl, M2, C2⟩; have B2 := B1.drew.chg C2 (fun hm => n1 (by simp at hm; simp [hm])); have e2 : w2.cell? ⟨w.heap.size, 1, none⟩ = some (.int .i64 A) ∧ w2.cell? ⟨w.heap.size, 4, none⟩ = some (.int .u64 old) ∧ w2.cell? ⟨w.heap.size, 3, none⟩ = some (.int .u64 x) := ⟨B2.cell 1, B2.cell 4, B2.cell 3⟩; have R2 := h.ref_out hb.r.drew C2 (by simp))
      | (go_at_call 25; refine (rcas_any rm rw W u _ R2 A old x hx).mono ?_; rintro e w3 ⟨rfl, R3, C3⟩; have B3 := B2.chg C3 (fun hm => n2 (by simp at hm; simp [hm])); have e3 : w3.cell? ⟨w.heap.size, 1, none⟩ = some (.int .i64 A) ∧ w3.cell? ⟨w.heap.size, 4, none⟩ = some (.int .u64 old) ∧ w3.cell? ⟨w.heap.size, 3, none⟩ = some (.int .u64 x) := ⟨B3.cell 1, B3.cell 4, B3.cell 3⟩; have M3 := h.mem_out M2 C3 (by simp)))
  go_wp2
  go_ret
  exact ⟨ret_bool (by simp), hb.acted M3 R3 (by split; exact setA_length _ _ _; rfl) ((C1.drew.weak.then C2 (fun g hg => .inl (by simp only [List.mem_cons, List.not_mem_nil, or_false] at hg ⊢; omega))).then C3 (fun g hg => .inl (by simp only [List.mem_cons, List.not_mem_nil, or_false] at hg ⊢; omega)))⟩

set_option maxHeartbeats 1600000 in
theorem does3 (bm bw rm rw : Nat) (W : List Nat) (u : Nat) (w : World) (h : Both w bm bw rm rw W u) (kind A N : Int) (x old : Nat) (hk0 : 0 ≤ kind) (hk : kind ≤ 255)
    (hA : -9223372036854775808 ≤ A) (hA2 : A ≤ 9223372036854775807) (hN : -9223372036854775808 ≤ N) (hN2 : N ≤ 9223372036854775807) (hx : x < 18446744073709551616) (ho : old < 18446744073709551616) (hk5 : kind % 5 = 3) :
    Calls Try.prog 14 #[.pointer (some ⟨bm, 0, none⟩), .pointer (some ⟨rm, 0, none⟩), .agg #[.int .u8 kind, .int .i64 A, .int .i64 N, .int .u64 x, .int .u64 old]] w fun e w' => e = .returned (.bool true) ∧ Acted w w' bm bw rm rw W := by
  go_enter Try.func14, Try.ntmps14
  go_wp2_with fail
  obtain ⟨w1, hw1⟩ : ∃ w1, w1 = w.alloc (.cells #[.int .u8 kind, .int .i64 A, .int .i64 N, .int .u64 x, .int .u64 old] 39) := ⟨_, rfl⟩
  have C1 : Chg [] w w1 := by rw [hw1]; exact (Chg.refl _ _).alloc _
  have B1 : Blk w1 w.heap.size #[.int .u8 kind, .int .i64 A, .int .i64 N, .int .u64 x, .int .u64 old] 39 := by rw [hw1]; exact Blk.new _ _ _
  have hb := h.keep C1
  rw [← hw1]
  clear hw1
  have n1 : w.heap.size ∉ [bm, bw] := by
    have a1 := h.m.head.lt; have a2 := h.m.row.lt; simp; omega
  have n2 : w.heap.size ∉ [rm, rw] := by
    have a1 := h.r.head.lt; have a2 := h.r.row.lt; simp; omega
  have e1 : w1.cell? ⟨w.heap.size, 1, none⟩ = some (.int .i64 A) ∧ w1.cell? ⟨w.heap.size, 3, none⟩ = some (.int .u64 x) := ⟨B1.cell 1, B1.cell 3⟩
  have E1 := Lib.hid e1
  obtain ⟨f1, f3⟩ := e1
  go_region_held3 (fun w' => w'.cell? ⟨w.heap.size, 1, none⟩ = some (.int .i64 A) ∧ w'.cell? ⟨w.heap.size, 3, none⟩ = some (.int .u64 x)) (first | assumption | exact E1.out | exact B1.cell 1)
    (first
      | (go_at_call 9; refine (add_any bm bw W u _ hb.m.drew A x).mono ?_; rintro e w2 ⟨rfl, M2, C2⟩; have B2 := B1.drew.chg C2 (fun hm => n1 (by simp at hm; simp [hm])); have e2 : w2.cell? ⟨w.heap.size, 1, none⟩ = some (.int .i64 A) ∧ w2.cell? ⟨w.heap.size, 3, none⟩ = some (.int .u64 x) := ⟨B2.cell 1, B2.cell 3⟩; have R2 := h.ref_out hb.r.drew C2 (by simp))
      | (go_at_call 26; refine (radd_any rm rw W u _ R2 A x).mono ?_; rintro e w3 ⟨rfl, R3, C3⟩; have B3 := B2.chg C3 (fun hm => n2 (by simp at hm; simp [hm])); have e3 : w3.cell? ⟨w.heap.size, 1, none⟩ = some (.int .i64 A) ∧ w3.cell? ⟨w.heap.size, 3, none⟩ = some (.int .u64 x) := ⟨B3.cell 1, B3.cell 3⟩; have M3 := h.mem_out M2 C3 (by simp)))
  go_wp2
  go_ret
  exact ⟨ret_bool (by simp), hb.acted M3 R3 (setA_length _ _ _) ((C1.drew.weak.then C2 (fun g hg => .inl (by simp only [List.mem_cons, List.not_mem_nil, or_false] at hg ⊢; omega))).then C3 (fun g hg => .inl (by simp only [List.mem_cons, List.not_mem_nil, or_false] at hg ⊢; omega)))⟩

set_option maxHeartbeats 1600000 in
theorem does1 (bm bw rm rw : Nat) (W : List Nat) (u : Nat) (w : World) (h : Both w bm bw rm rw W u) (kind A N : Int) (x old : Nat) (hk0 : 0 ≤ kind) (hk : kind ≤ 255)
    (hA : -9223372036854775808 ≤ A) (hA2 : A ≤ 9223372036854775807) (hN : -9223372036854775808 ≤ N) (hN2 : N ≤ 9223372036854775807) (hx : x < 18446744073709551616) (ho : old < 18446744073709551616) (hk5 : kind % 5 = 1) :
    Calls Try.prog 14 #[.pointer (some ⟨bm, 0, none⟩), .pointer (some ⟨rm, 0, none⟩), .agg #[.int .u8 kind, .int .i64 A, .int .i64 N, .int .u64 x, .int .u64 old]] w fun e w' => e = .returned (.bool true) ∧ Acted w w' bm bw rm rw W := by
  go_enter Try.func14, Try.ntmps14
  go_wp2_with fail
  obtain ⟨w1, hw1⟩ : ∃ w1, w1 = w.alloc (.cells #[.int .u8 kind, .int .i64 A, .int .i64 N, .int .u64 x, .int .u64 old] 39) := ⟨_, rfl⟩
  have C1 : Chg [] w w1 := by rw [hw1]; exact (Chg.refl _ _).alloc _
  have B1 : Blk w1 w.heap.size #[.int .u8 kind, .int .i64 A, .int .i64 N, .int .u64 x, .int .u64 old] 39 := by rw [hw1]; exact Blk.new _ _ _
  have hb := h.keep C1
  rw [← hw1]
  clear hw1
  have n1 : w.heap.size ∉ [bm, bw] := by
    have a1 := h.m.head.lt; have a2 := h.m.row.lt; simp; omega
  have n2 : w.heap.size ∉ [rm, rw] := by
    have a1 := h.r.head.lt; have a2 := h.r.row.lt; simp; omega
  have f1 : w1.cell? ⟨w.heap.size, 1, none⟩ = some (.int .i64 A) := B1.cell 1
  have f3 : w1.cell? ⟨w.heap.size, 3, none⟩ = some (.int .u64 x) := B1.cell 3
  refine (store_any bm bw W u _ hb.m A x hx).mono ?_
  rintro e w2 ⟨rfl, M2, C2⟩
  have B2 := B1.chg C2 n1
  have g1 : w2.cell? ⟨w.heap.size, 1, none⟩ = some (.int .i64 A) := B2.cell 1
  have g3 : w2.cell? ⟨w.heap.size, 3, none⟩ = some (.int .u64 x) := B2.cell 3
  have R2 := h.ref_out hb.r C2 (by simp)
  go_wp2_with fail
  refine (rstore_any rm rw W u _ R2 A x hx).mono ?_
  rintro e w3 ⟨rfl, R3, C3⟩
  have M3 := h.mem_out M2 C3 (by simp)
  go_wp2_with fail
  go_ret
  exact ⟨rfl, hb.acted M3 R3 (setA_length _ _ _) ((C1.weak.then C2 (fun g hg => .inl (by simp only [List.mem_cons, List.not_mem_nil, or_false] at hg ⊢; omega))).then C3 (fun g hg => .inl (by simp only [List.mem_cons, List.not_mem_nil, or_false] at hg ⊢; omega)))⟩

set_option maxHeartbeats 1600000 in
theorem does4 (bm bw rm rw : Nat) (W : List Nat) (u : Nat) (w : World) (h : Both w bm bw rm rw W u) (kind A N : Int) (x old : Nat) (hk0 : 0 ≤ kind) (hk : kind ≤ 255)
    (hA : -9223372036854775808 ≤ A) (hA2 : A ≤ 9223372036854775807) (hN : -9223372036854775808 ≤ N) (hN2 : N ≤ 9223372036854775807) (hx : x < 18446744073709551616) (ho : old < 18446744073709551616) (hk5 : kind % 5 = 4) :
    Calls Try.prog 14 #[.pointer (some ⟨bm, 0, none⟩), .pointer (some ⟨rm, 0, none⟩), .agg #[.int .u8 kind, .int .i64 A, .int .i64 N, .int .u64 x, .int .u64 old]] w fun e w' => e = .returned (.bool true) ∧ Acted w w' bm bw rm rw W := by
  go_enter Try.func14, Try.ntmps14
  go_wp2_with fail
  obtain ⟨w1, hw1⟩ : ∃ w1, w1 = w.alloc (.cells #[.int .u8 kind, .int .i64 A, .int .i64 N, .int .u64 x, .int .u64 old] 39) := ⟨_, rfl⟩
  have C1 : Chg [] w w1 := by rw [hw1]; exact (Chg.refl _ _).alloc _
  have B1 : Blk w1 w.heap.size #[.int .u8 kind, .int .i64 A, .int .i64 N, .int .u64 x, .int .u64 old] 39 := by rw [hw1]; exact Blk.new _ _ _
  have hb := h.keep C1
  rw [← hw1]
  clear hw1
  have n1 : w.heap.size ∉ [bm, bw] := by
    have a1 := h.m.head.lt; have a2 := h.m.row.lt; simp; omega
  have n2 : w.heap.size ∉ [rm, rw] := by
    have a1 := h.r.head.lt; have a2 := h.r.row.lt; simp; omega
  have e1 : w1.cell? ⟨w.heap.size, 1, none⟩ = some (.int .i64 A) ∧ w1.cell? ⟨w.heap.size, 2, none⟩ = some (.int .i64 N) := ⟨B1.cell 1, B1.cell 2⟩
  have E1 := Lib.hid e1
  obtain ⟨f1, f2⟩ := e1
  go_region_held3 (fun w' => w'.cell? ⟨w.heap.size, 1, none⟩ = some (.int .i64 A) ∧ w'.cell? ⟨w.heap.size, 2, none⟩ = some (.int .i64 N)) (first | assumption | exact E1.out)
    (first
      | (go_at_call 17; refine (part_any bm bw W u _ hb.m.drew A N hA hA2 hN hN2).mono ?_; rintro e w2 ⟨v2, rfl, O2, C2⟩; have B2 := B1.drew.chg C2 (by simp); have e2 : w2.cell? ⟨w.heap.size, 1, none⟩ = some (.int .i64 A) ∧ w2.cell? ⟨w.heap.size, 2, none⟩ = some (.int .i64 N) := ⟨B2.cell 1, B2.cell 2⟩; have M2 := hb.m.drew.keep C2; have R2 := hb.r.drew.keep C2)
      | (go_at_call 27; refine (rpart_any rm rw W u _ R2 A N hA hA2 hN hN2).mono ?_; rintro e w3 ⟨v3, rfl, O3, C3⟩; have B3 := B2.chg C3 (by simp); have e3 : w3.cell? ⟨w.heap.size, 1, none⟩ = some (.int .i64 A) ∧ w3.cell? ⟨w.heap.size, 2, none⟩ = some (.int .i64 N) := ⟨B3.cell 1, B3.cell 2⟩; have M3 := M2.keep C3; have R3 := R2.keep C3)
      | (go_at_call 16; refine (msame_any _ _ (partN W A N) (partN W A N) _ (O2.reads.keep C3) O3.reads).mono ?_; rw [decide_eq_true rfl]; rintro e w4 ⟨rfl, C4⟩; have B4 := B3.chg C4 (by simp); have e4 : w4.cell? ⟨w.heap.size, 1, none⟩ = some (.int .i64 A) ∧ w4.cell? ⟨w.heap.size, 2, none⟩ = some (.int .i64 N) := ⟨B4.cell 1, B4.cell 2⟩; have M4 := M3.keep C4; have R4 := R3.keep C4))
  go_wp2
  go_ret
  exact ⟨rfl, hb.acted M4 R4 rfl ((((C1.drew.then C2 (by simp)).then C3 (by simp)).then C4 (by simp)).weak)⟩

theorem does_any (bm bw rm rw : Nat) (W : List Nat) (u : Nat) (w : World) (h : Both w bm bw rm rw W u) (kind A N : Int) (x old : Nat) (hk0 : 0 ≤ kind) (hk : kind ≤ 255)
    (hA : -9223372036854775808 ≤ A) (hA2 : A ≤ 9223372036854775807) (hN : -9223372036854775808 ≤ N) (hN2 : N ≤ 9223372036854775807) (hx : x < 18446744073709551616) (ho : old < 18446744073709551616) :
    Calls Try.prog 14 #[.pointer (some ⟨bm, 0, none⟩), .pointer (some ⟨rm, 0, none⟩), .agg #[.int .u8 kind, .int .i64 A, .int .i64 N, .int .u64 x, .int .u64 old]] w fun e w' => e = .returned (.bool true) ∧ Acted w w' bm bw rm rw W := by
  rcases (show kind % 5 = 0 ∨ kind % 5 = 1 ∨ kind % 5 = 2 ∨ kind % 5 = 3 ∨ kind % 5 = 4 by omega) with e | e | e | e | e
  · exact does0 bm bw rm rw W u w h kind A N x old hk0 hk hA hA2 hN hN2 hx ho e
  · exact does1 bm bw rm rw W u w h kind A N x old hk0 hk hA hA2 hN hN2 hx ho e
  · exact does2 bm bw rm rw W u w h kind A N x old hk0 hk hA hA2 hN hN2 hx ho e
  · exact does3 bm bw rm rw W u w h kind A N x old hk0 hk hA hA2 hN hN2 hx ho e
  · exact does4 bm bw rm rw W u w h kind A N x old hk0 hk hA hA2 hN hN2 hx ho e
end Go.Proofs.Ytkmdfcjgjkfdjaa
