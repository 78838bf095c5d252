/- kin: the law's 'does'. -/
import Derived.Test.YtiidlbicdkmloaaKin6
namespace Go.Proofs.Ytiidlbicdkmloaa
open Go.RowKit Bosun
/-- The program's ends and the page's row, alike; they share nothing. -/
structure KP (w : World) (kb mb rb n : Nat) (al lo : Nat) (c : Int → Option Nat) (S : Nat → K3) : Prop where
  k : IsKin w kb mb n al lo c
  r : IsRow w rb S
  s : SimK al lo c S
  d1 : kb ≠ rb
  d2 : mb ≠ rb
theorem KP.keep {w w1 : World} {kb mb rb n al lo : Nat} {c : Int → Option Nat} {S : Nat → K3} (h : KP w kb mb rb n al lo c S) (hc : Chg [] w w1) : KP w1 kb mb rb n al lo c S :=
  ⟨h.k.chg hc (by simp) (by simp), h.r.chg hc (by simp), h.s, h.d1, h.d2⟩
def Done (kb mb rb n : Nat) (w w' : World) : Prop := ∃ al lo c S, KP w' kb mb rb n al lo c S ∧ Chg [kb, mb, rb] w w'
theorem KP.mono {w : World} {kb mb rb n m al lo : Nat} {c : Int → Option Nat} {S : Nat → K3} (h : KP w kb mb rb n al lo c S) (hm : n ≤ m) : KP w kb mb rb m al lo c S :=
  ⟨⟨h.k.head, by obtain ⟨D, h1, h2⟩ := h.k.codes; exact ⟨D, h1.mono hm, h2⟩, h.k.ne, h.k.al, h.k.lo⟩, h.r, h.s, h.d1, h.d2⟩
set_option maxHeartbeats 1600000 in
theorem does0 (kb mb rb n al lo : Nat) (c : Int → Option Nat) (S : Nat → K3) (w : World) (h : KP w kb mb rb n al lo c S) (kind z : Int) (x : Nat) (l j : Bool) (hk0 : 0 ≤ kind) (hk : kind ≤ 255)
    (h0 : -9223372036854775808 ≤ z) (h1 : z ≤ 9223372036854775807) (hk4 : kind % 4 = 0) :
    Calls Try.prog 7 #[.pointer (some ⟨kb, 0, none⟩), .pointer (some ⟨rb, 0, none⟩), .agg #[.int .u8 kind, .int .i64 z, .int .u64 (x : Nat), .bool l, .bool j]] w fun e w' => e = .returned (.bool true) ∧ Done kb mb rb (n + 1) w w' := by
  obtain ⟨b, al', lo', S', hs, hy, hr⟩ := born_both kb mb rb n al lo c S h.s z h0 h1 l
  have HY := Lib.hid hy
  have HR := Lib.hid hr
  clear hy hr
  go_enter Try.func7, Try.ntmps7
  go_wp2_with fail
  obtain ⟨w1, hw1⟩ : ∃ w1, w1 = w.alloc (.cells #[.int .u8 kind, .int .i64 z, .int .u64 (x : Nat), .bool l, .bool j] 32) := ⟨_, rfl⟩
  have C1 : Chg [] w w1 := by rw [hw1]; exact (Chg.refl _ _).alloc _
  have B1 : Blk w1 w.heap.size #[.int .u8 kind, .int .i64 z, .int .u64 (x : Nat), .bool l, .bool j] 32 := by rw [hw1]; exact Blk.new _ _ _
  have hb := h.keep C1
  rw [← hw1]
  clear hw1
  have a1 := h.k.head.lt
  have a3 := h.r.lt
  have e1 : w1.cell? ⟨w.heap.size, 1, none⟩ = some (.int .i64 z) := B1.cell 1
  have e3 : w1.cell? ⟨w.heap.size, 3, none⟩ = some (.bool l) := B1.cell 3
  go_region_held3 (fun w' => w'.cell? ⟨w.heap.size, 1, none⟩ = some (.int .i64 z) ∧ w'.cell? ⟨w.heap.size, 3, none⟩ = some (.bool l)) (first | assumption | exact ⟨e1, e3⟩)
    (first
      | (go_at_call 14; refine (HY.out _ (hb.k.chg (Chg.refl [] _).drew (by simp) (by simp))).mono ?_; rintro e w2 ⟨rfl, K2, C2⟩; have B2 := B1.drew.chg C2 (by simp; omega); have f2 : w2.cell? ⟨w.heap.size, 1, none⟩ = some (.int .i64 z) ∧ w2.cell? ⟨w.heap.size, 3, none⟩ = some (.bool l) := ⟨B2.cell 1, B2.cell 3⟩; have R2 := hb.r.drew.chg C2 (by simp; exact h.d1.symm))
      | (go_at_call 17; refine (HR.out _ R2).mono ?_; rintro e w3 ⟨rfl, R3, C3⟩; have B3 := B2.chg C3 (by simp; omega); have f3 : w3.cell? ⟨w.heap.size, 1, none⟩ = some (.int .i64 z) ∧ w3.cell? ⟨w.heap.size, 3, none⟩ = some (.bool l) := ⟨B3.cell 1, B3.cell 3⟩; have K3' := K2.chg C3 (by simp; exact h.d1) (by simp; exact h.d2)))
  go_wp2
  go_ret
  exact ⟨ret_bool (by simp), _, _, _, _, KP.mono ⟨K3', R3, hs, h.d1, h.d2⟩ (by omega), (C1.drew.weak.then C2 (fun g hg => .inl (by simp at hg ⊢; omega))).then C3 (fun g hg => .inl (by simp at hg ⊢; omega))⟩
set_option maxHeartbeats 1600000 in
theorem does3 (kb mb rb n al lo : Nat) (c : Int → Option Nat) (S : Nat → K3) (w : World) (h : KP w kb mb rb n al lo c S) (kind z : Int) (x : Nat) (l j : Bool) (hk0 : 0 ≤ kind) (hk : kind ≤ 255)
    (h0 : -9223372036854775808 ≤ z) (h1 : z ≤ 9223372036854775807) (hk4 : kind % 4 = 3) :
    Calls Try.prog 7 #[.pointer (some ⟨kb, 0, none⟩), .pointer (some ⟨rb, 0, none⟩), .agg #[.int .u8 kind, .int .i64 z, .int .u64 (x : Nat), .bool l, .bool j]] w fun e w' => e = .returned (.bool true) ∧ Done kb mb rb (n + 1) w w' := by
  obtain ⟨y, q, c', S', hs, hy, hr⟩ := reap_both kb mb rb n al lo c S h.s z h0 h1
  have HY := Lib.hid hy
  have HR := Lib.hid hr
  clear hy hr
  go_enter Try.func7, Try.ntmps7
  go_wp2_with fail
  obtain ⟨w1, hw1⟩ : ∃ w1, w1 = w.alloc (.cells #[.int .u8 kind, .int .i64 z, .int .u64 (x : Nat), .bool l, .bool j] 32) := ⟨_, rfl⟩
  have C1 : Chg [] w w1 := by rw [hw1]; exact (Chg.refl _ _).alloc _
  have B1 : Blk w1 w.heap.size #[.int .u8 kind, .int .i64 z, .int .u64 (x : Nat), .bool l, .bool j] 32 := by rw [hw1]; exact Blk.new _ _ _
  have hb := h.keep C1
  rw [← hw1]
  clear hw1
  have a1 := h.k.head.lt
  have a2 := h.k.codes.lt
  have a3 := h.r.lt
  refine (HY.out _ hb.k).mono ?_
  rintro e w2 ⟨rfl, K2, C2⟩
  have B2 := B1.chg C2 (by simp; omega)
  have e2 : w2.cell? ⟨w.heap.size, 1, none⟩ = some (.int .i64 z) := B2.cell 1
  have R2 := hb.r.chg C2 (by simp; exact h.d2.symm)
  go_wp2_with fail
  refine (HR.out _ R2).mono ?_
  rintro e w3 ⟨rfl, R3, C3⟩
  have K3' := K2.chg C3 (by simp; exact h.d1) (by simp; exact h.d2)
  go_wp2
  go_ret
  exact ⟨ret_bool (by simp), _, _, _, _, KP.mono ⟨K3', R3, hs, h.d1, h.d2⟩ (by omega), (C1.weak.then C2 (fun g hg => .inl (by simp at hg ⊢; omega))).then C3 (fun g hg => .inl (by simp at hg ⊢; omega))⟩
set_option maxHeartbeats 1600000 in
theorem does1 (kb mb rb n al lo : Nat) (c : Int → Option Nat) (S : Nat → K3) (w : World) (h : KP w kb mb rb n al lo c S) (kind z : Int) (x : Nat) (l j : Bool) (hk0 : 0 ≤ kind) (hk : kind ≤ 255)
    (h0 : -9223372036854775808 ≤ z) (h1 : z ≤ 9223372036854775807) (hx : x < 18446744073709551616) (hn : n < 1000000) (hk4 : (kind % 4 == 0) = false ∧ (kind % 4 == 3) = false) :
    Calls Try.prog 7 #[.pointer (some ⟨kb, 0, none⟩), .pointer (some ⟨rb, 0, none⟩), .agg #[.int .u8 kind, .int .i64 z, .int .u64 (x : Nat), .bool l, .bool j]] w fun e w' => e = .returned (.bool true) ∧ Done kb mb rb (n + 1) w w' := by
  obtain ⟨y, q, al', c', S', hs, hy, hr⟩ := exit_both kb mb rb n al lo c S h.s z h0 h1 x hx j hn
  have HY := Lib.hid hy
  have HR := Lib.hid hr
  obtain ⟨e4, e5⟩ := hk4
  clear hy hr
  go_enter Try.func7, Try.ntmps7
  go_wp2_with fail
  obtain ⟨w1, hw1⟩ : ∃ w1, w1 = w.alloc (.cells #[.int .u8 kind, .int .i64 z, .int .u64 (x : Nat), .bool l, .bool j] 32) := ⟨_, rfl⟩
  have C1 : Chg [] w w1 := by rw [hw1]; exact (Chg.refl _ _).alloc _
  have B1 : Blk w1 w.heap.size #[.int .u8 kind, .int .i64 z, .int .u64 (x : Nat), .bool l, .bool j] 32 := by rw [hw1]; exact Blk.new _ _ _
  have hb := h.keep C1
  rw [← hw1]
  clear hw1
  have a1 := h.k.head.lt
  have a2 := h.k.codes.lt
  have a3 := h.r.lt
  refine (HY.out _ hb.k).mono ?_
  rintro e w2 ⟨rfl, K2, C2⟩
  have B2 := B1.chg C2 (by simp; omega)
  have e2 : w2.cell? ⟨w.heap.size, 1, none⟩ = some (.int .i64 z) := B2.cell 1
  have e22 : w2.cell? ⟨w.heap.size, 2, none⟩ = some (.int .u64 (x : Nat)) := B2.cell 2
  have e24 : w2.cell? ⟨w.heap.size, 4, none⟩ = some (.bool j) := B2.cell 4
  have R2 := hb.r.chg C2 (by simp; exact ⟨h.d1.symm, h.d2.symm⟩)
  go_wp2_with fail
  refine (HR.out _ R2).mono ?_
  rintro e w3 ⟨rfl, R3, C3⟩
  have K3' := K2.chg C3 (by simp; exact h.d1) (by simp; exact h.d2)
  go_wp2
  go_ret
  exact ⟨ret_bool (by simp), _, _, _, _, ⟨K3', R3, hs, h.d1, h.d2⟩, (C1.weak.then C2 (fun g hg => .inl (by simp at hg ⊢; omega))).then C3 (fun g hg => .inl (by simp at hg ⊢; omega))⟩
theorem does_any (kb mb rb n al lo : Nat) (c : Int → Option Nat) (S : Nat → K3) (w : World) (h : KP w kb mb rb n al lo c S) (kind z : Int) (x : Nat) (l j : Bool) (hk0 : 0 ≤ kind) (hk : kind ≤ 255)
    (h0 : -9223372036854775808 ≤ z) (h1 : z ≤ 9223372036854775807) (hx : x < 18446744073709551616) (hn : n < 1000000) :
    Calls Try.prog 7 #[.pointer (some ⟨kb, 0, none⟩), .pointer (some ⟨rb, 0, none⟩), .agg #[.int .u8 kind, .int .i64 z, .int .u64 (x : Nat), .bool l, .bool j]] w fun e w' => e = .returned (.bool true) ∧ Done kb mb rb (n + 1) w w' := by
  by_cases e0 : kind % 4 = 0
  · exact does0 kb mb rb n al lo c S w h kind z x l j hk0 hk h0 h1 e0
  · by_cases e3 : kind % 4 = 3
    · exact does3 kb mb rb n al lo c S w h kind z x l j hk0 hk h0 h1 e3
    · exact does1 kb mb rb n al lo c S w h kind z x l j hk0 hk h0 h1 hx hn ⟨by simpa using e0, by simpa using e3⟩
end Go.Proofs.Ytiidlbicdkmloaa
