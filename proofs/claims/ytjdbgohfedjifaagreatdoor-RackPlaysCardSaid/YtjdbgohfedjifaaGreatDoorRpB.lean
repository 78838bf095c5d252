/- rack: Claimed, Steps, Sets; the document's: Claimed; what lies where. -/
import Derived.Test.YtjdbgohfedjifaaGreatDoorRpA
namespace Bosun
open Go
/-- What a work has claimed. -/
def clmR (w : RWork) (M : List Nat) : Nat × Bool := if w.sheds = true then (match w.op with | none => (0, false) | some o => clmD o M) else (0, false)
end Bosun
namespace Go.Proofs.YtjdbgohfedjifaaGreatDoor
open Go.RowKit Bosun
def ROpAt (W : World) : Option Nat → Option DOp → Prop
  | none, none => True
  | some g, some o => IsROp W g o ∧ OkOp o
  | _, _ => False
/-- A work of the document's, its rack, its memory. oo: its deque's work. -/
structure Qig (W : World) (qb sb nm nw name xq : Nat) (bad : Value) (at_ : Nat) (ob : Option Nat) (oo : Option DOp) (r : RRack) (w : RWork) (M : List Nat) (u : Nat) : Prop where
  wk : IsQw W qb sb name xq bad at_ ob w
  rk : IsSb W sb r
  mem : IsRef W nm nw M u
  op : ROpAt W ob oo
  ok : OkRack r
  kind : w.kind < 2
  level : w.done = false → w.level < 8
  steps : w.steps ≤ 1000000
theorem opclaimed_nil (m : Value) (w : World) : Calls Tryz.prog 64 #[.pointer none, m] w fun e w' => e = .returned (.tuple #[.int .u64 0, .bool false]) ∧ w = w' := by
  go_enter Tryz.func64, Tryz.ntmps64
  go_wp2_with fail
  go_ret2
  exact ⟨rfl, rfl⟩
set_option maxHeartbeats 4000000 in
theorem wclaimed_any (W : World) (wb rb bm bw : Nat) (gv : Value) (ob : Option Nat) (r : RRack) (w : RWork) (M : List Nat) (u : Nat) (h : Rig W wb rb bm bw gv ob r w M u) :
    Calls Tryz.prog 36 #[.pointer (some ⟨wb, 0, none⟩), .pointer (some ⟨bm, 0, none⟩)] W fun e W' => e = .returned (.tuple #[.int .u64 ((clmR w M).1 : Nat), .bool (clmR w M).2]) ∧ Chg [] W W' := by
  have c12 : W.cell? ⟨wb, 12, none⟩ = some (.bool w.sheds) := by rw [Blk.cell h.wk]; rfl
  have c6 : W.cell? ⟨wb, 6, none⟩ = some (ptrO ob) := by rw [Blk.cell h.wk]; rfl
  cases hs : w.sheds with
  | false =>
    have HR := Lib.hid (show clmR w M = (0, false) by unfold clmR; rw [if_neg (by rw [hs]; simp)])
    rw [hs] at c12
    rw [HR.out]
    clear h hs
    go_enter Tryz.func36, Tryz.ntmps36
    go_wp2_with fail
    go_ret2
    exact ⟨rfl, Chg.refl _ _⟩
  | true =>
    rw [hs] at c12
    have hop := h.op
    cases ho : w.op with
    | none =>
      rw [ho] at hop
      obtain rfl : ob = none := by cases ob with | none => rfl | some g => exact hop.elim
      have HR := Lib.hid (show clmR w M = (0, false) by unfold clmR; rw [if_pos hs, ho])
      rw [HR.out]
      have c6' : W.cell? ⟨wb, 6, none⟩ = some (.pointer none) := c6
      clear h hs hop ho c6
      go_enter Tryz.func36, Tryz.ntmps36
      go_wp2_with (go_at_call 64; refine (opclaimed_nil _ _).mono ?_; rintro e w2 ⟨rfl, rfl⟩)
      go_ret2
      exact ⟨rfl, Chg.refl _ _⟩
    | some o =>
      obtain ⟨g, rfl, hio, hok, _⟩ := h.opOf ho
      have HR := Lib.hid (show clmR w M = clmD o M by unfold clmR; rw [if_pos hs, ho])
      have HD := Lib.hid (dclaimed_any g o W hio hok.kind hok.s hok.b0 hok.b1 hok.cap hok.b bm bw M u h.mem)
      rw [HR.out]
      obtain ⟨z, hz⟩ : ∃ z, z = clmD o M := ⟨_, rfl⟩
      rw [← hz] at HD ⊢
      have c6' : W.cell? ⟨wb, 6, none⟩ = some (.pointer (some ⟨g, 0, none⟩)) := c6
      clear h hs hop ho c6 hio hok HR hz
      go_enter Tryz.func36, Tryz.ntmps36
      go_wp2_with (go_at_call 64; refine HD.out.mono ?_; rintro e w2 ⟨rfl, C2⟩)
      go_ret2
      exact ⟨rfl, C2⟩
set_option maxHeartbeats 4000000 in
theorem qclaimed_any (W : World) (qb sb nm nw name xq : Nat) (bad : Value) (at_ : Nat) (ob : Option Nat) (oo : Option DOp) (r : RRack) (w : RWork) (M : List Nat) (u : Nat) (h : Qig W qb sb nm nw name xq bad at_ ob oo r w M u) (hn : name = 3 ↔ w.sheds = true) (hoo : name = 3 → oo = w.op) :
    Calls Tryz.prog 37 #[.pointer (some ⟨qb, 0, none⟩), .pointer (some ⟨nm, 0, none⟩)] W fun e W' => e = .returned (.tuple #[.int .u64 ((clmR w M).1 : Nat), .bool (clmR w M).2]) ∧ Chg [] W W' := by
  have c1 : W.cell? ⟨qb, 1, none⟩ = some (.int .i64 (name : Nat)) := by rw [Blk.cell h.wk]; rfl
  have c7 : W.cell? ⟨qb, 7, none⟩ = some (ptrO ob) := by rw [Blk.cell h.wk]; rfl
  by_cases n3 : name = 3
  · have hs := hn.1 n3
    have ho2 := hoo n3
    subst n3
    have hop := h.op
    have c1' : W.cell? ⟨qb, 1, none⟩ = some (.int .i64 3) := c1
    cases ho : oo with
    | none =>
      rw [ho] at hop ho2
      obtain rfl : ob = none := by cases ob with | none => rfl | some g => exact hop.elim
      have HR := Lib.hid (show clmR w M = (0, false) by unfold clmR; rw [if_pos hs, ← ho2])
      rw [HR.out]
      have c7' : W.cell? ⟨qb, 7, none⟩ = some (.pointer none) := c7
      clear h hs hop ho ho2 c7 c1 hn hoo
      go_enter Tryz.func37, Tryz.ntmps37
      go_wp2_with fail
      go_ret2
      exact ⟨rfl, Chg.refl _ _⟩
    | some o =>
      rw [ho] at hop ho2
      cases ob with
      | none => exact hop.elim
      | some g =>
        obtain ⟨hio, hok⟩ := hop
        have HR := Lib.hid (show clmR w M = clmD o M by unfold clmR; rw [if_pos hs, ← ho2])
        have HD := Lib.hid (rclaimed_any g o W hio hok.kind hok.s hok.b0 hok.b1 hok.cap hok.b nm nw M u h.mem)
        rw [HR.out]
        obtain ⟨z, hz⟩ : ∃ z, z = clmD o M := ⟨_, rfl⟩
        rw [← hz] at HD ⊢
        have c7' : W.cell? ⟨qb, 7, none⟩ = some (.pointer (some ⟨g, 0, none⟩)) := c7
        clear h hs ho ho2 c7 c1 hn hoo hio hok HR hz
        go_enter Tryz.func37, Tryz.ntmps37
        go_wp2_with (go_at_call 65; refine HD.out.mono ?_; rintro e w2 ⟨rfl, C2⟩)
        go_ret2
        exact ⟨rfl, C2⟩
  · have HR := Lib.hid (show clmR w M = (0, false) by unfold clmR; rw [if_neg (fun e => n3 (hn.2 e))])
    rw [HR.out]
    have e0 : ((name : Int) != 3) = true := by simp; omega
    clear h hn hoo n3 HR
    go_enter Tryz.func37, Tryz.ntmps37
    go_wp2_with fail
    go_ret2
    exact ⟨rfl, Chg.refl _ _⟩
theorem wsteps_any (W : World) (wb rb : Nat) (gv : Value) (ob : Option Nat) (w : RWork) (h : IsWk W wb rb gv ob w) :
    Calls Tryz.prog 42 #[.pointer (some ⟨wb, 0, none⟩)] W fun e W' => e = .returned (.int .i64 (w.steps : Nat)) ∧ W = W' := by
  have c13 : W.cell? ⟨wb, 13, none⟩ = some (.int .i64 (w.steps : Nat)) := by rw [Blk.cell h]; rfl
  clear h
  go_enter Tryz.func42, Tryz.ntmps42
  go_wp2_with fail
  go_ret
  exact ⟨rfl, rfl⟩
theorem wsets_any (W : World) (rb : Nat) (r : RRack) (h : IsRk W rb r) :
    Calls Tryz.prog 14 #[.pointer (some ⟨rb, 0, none⟩)] W fun e W' => e = .returned (.tuple #[.int .u64 (r.s0 : Nat), .int .u64 (r.s1 : Nat)]) ∧ Chg [] W W' := by
  have c0 : W.cell? ⟨rb, 33, none⟩ = some (.int .u64 (r.s0 : Nat)) := h.cset (k := 0) (by omega)
  have c1 : W.cell? ⟨rb, 34, none⟩ = some (.int .u64 (r.s1 : Nat)) := h.cset (k := 1) (by omega)
  clear h
  go_enter Tryz.func14, Tryz.ntmps14
  go_wp2_with fail
  go_region_held3 (fun w' => w'.cell? ⟨rb, 33, none⟩ = some (.int .u64 (r.s0 : Nat)) ∧ w'.cell? ⟨rb, 34, none⟩ = some (.int .u64 (r.s1 : Nat))) (first | assumption | exact ⟨c0, c1⟩ | fail) (fail)
  go_wp2_with fail
  go_ret2
  exact ⟨rfl, (Chg.refl _ _).drew⟩
end Go.Proofs.YtjdbgohfedjifaaGreatDoor

/- rack, the document's: New, NewPut; the law's beginRef. -/
namespace Bosun
open Go
/-- The document's name of a worker's next work. -/
def nameQ (k name : Nat) : Nat := if k = 0 ∧ name % 4 = 2 then 1 else if k = 0 ∧ name % 4 = 3 then 3 else if 0 < k then 2 else 0
end Bosun
namespace Go.Proofs.YtjdbgohfedjifaaGreatDoor
open Go.RowKit Bosun
theorem qnew_any (w : World) (base : Int) (b0 : 0 ≤ base) (b1 : base ≤ 5) (c : Int) (h0 : -9223372036854775808 ≤ c) (h1 : c ≤ 9223372036854775807) :
    Calls Tryz.prog 8 #[.int .i64 base, .int .i64 c] w fun e w' => ∃ sb, e = .returned (.pointer (some ⟨sb, 0, none⟩)) ∧ IsSb w' sb (newR base (holdN c)) ∧ Chg [] w w' ∧ w.heap.size ≤ sb := by
  have HL := Lib.hid (fun w => rhold_any c h0 h1 w)
  obtain ⟨n, hn⟩ : ∃ n, n = holdN c := ⟨_, rfl⟩
  rw [← hn] at HL ⊢
  clear hn h0 h1
  go_enter Tryz.func8, Tryz.ntmps8
  go_wp2_with (go_at_call 24; refine (HL.out _).mono ?_; rintro e w2 ⟨rfl, rfl⟩)
  go_ret
  exact ⟨_, rfl, Blk.new _ _ _, (Chg.refl _ _).alloc _, Nat.le_refl _⟩
/-- What a new work of the document's is. -/
def QBegun (W W' : World) (sb nm nw : Nat) (r : RRack) (M : List Nat) (u : Nat) (w0 : RWork) (name : Nat) (bad : Value) (e : Ending) : Prop :=
  ∃ qb, e = .returned (.pointer (some ⟨qb, 0, none⟩)) ∧ Qig W' qb sb nm nw name w0.x bad 0 none none r w0 M u ∧ Chg [] W W' ∧ W.heap.size ≤ qb
set_option maxHeartbeats 4000000 in
theorem qnewput_any (W : World) (sb nm nw : Nat) (r : RRack) (M : List Nat) (u : Nat) (h : IsSb W sb r) (hm : IsRef W nm nw M u) (ok : OkRack r) (x : Nat) (level : Int) (pin : Bool) (ao : Option Addr) (n c : Nat) :
    Calls Tryz.prog 35 #[.pointer (some ⟨sb, 0, none⟩), .int .u64 (x : Nat), .int .i64 level, .bool pin, .slice ao n c] W fun e W' => QBegun W W' sb nm nw r M u (putW r x (holdL level) pin) 0 (.slice ao n c) e := by
  have HH := Lib.hid (And.intro h (And.intro hm ok))
  have HL := Lib.hid (fun w => rhold5_any level w)
  have hl8 := holdL_lt level
  obtain ⟨l, hl⟩ : ∃ l, l = holdL level := ⟨_, rfl⟩
  rw [← hl] at HL hl8 ⊢
  clear h hm ok hl
  go_enter Tryz.func35, Tryz.ntmps35
  cases pin with
  | true =>
    go_wp2_with (go_at_call 63; refine (HL.out _).mono ?_; rintro e w2 ⟨rfl, rfl⟩)
    go_ret
    unfold QBegun
    refine ⟨_, rfl, ⟨?_, Blk.chg HH.out.1 ((Chg.refl [] W).alloc _) (by simp), HH.out.2.1.chg ((Chg.refl [] W).alloc _) (by simp) (by simp), trivial, HH.out.2.2, by show 1 < 2; omega, fun _ => hl8, by show 0 ≤ _; omega⟩, (Chg.refl _ _).alloc _, Nat.le_refl _⟩
    exact Blk.new _ _ _
  | false =>
    go_wp2_with (go_at_call 63; refine (HL.out _).mono ?_; rintro e w2 ⟨rfl, rfl⟩)
    go_ret
    unfold QBegun
    refine ⟨_, rfl, ⟨?_, Blk.chg HH.out.1 ((Chg.refl [] W).alloc _) (by simp), HH.out.2.1.chg ((Chg.refl [] W).alloc _) (by simp) (by simp), trivial, HH.out.2.2, by show 0 < 2; omega, fun _ => hl8, by show 0 ≤ _; omega⟩, (Chg.refl _ _).alloc _, Nat.le_refl _⟩
    exact Blk.new _ _ _
set_option maxRecDepth 8000 in
set_option maxHeartbeats 8000000 in
theorem beginRef_any (W : World) (sb nm nw : Nat) (r : RRack) (M : List Nat) (u : Nat) (h : IsSb W sb r) (hm : IsRef W nm nw M u) (ok : OkRack r) (k : Nat) (_hk : k < 4) (who name : Nat) (_hname : name < 256) (x : Nat) (level : Int) (pin : Bool) (ao : Option Addr) (n c : Nat) (hn : n ≤ c) (hnm : n ≤ maxLen) :
    Calls Tryz.prog 10 #[.pointer (some ⟨sb, 0, none⟩), .int .i64 (k : Nat), .agg #[.int .u8 (who : Nat), .int .u8 (name : Nat), .int .u64 (x : Nat), .int .i64 level, .bool pin, .slice ao n c]] W fun e W' => QBegun W W' sb nm nw r M u (beginW r k name x level pin) (nameQ k name) (if k = 0 ∧ (name % 4 = 2 ∨ name % 4 = 3) then .slice none 0 0 else .slice ao (min n 20) c) e := by
  have HF := Lib.hid (few_any ao n c hn hnm)
  obtain ⟨n20, hn20⟩ : ∃ n20, n20 = min n 20 := ⟨_, rfl⟩
  rw [← hn20] at HF ⊢
  have hm4 : Int.tmod (name : Int) 4 = ((name % 4 : Nat) : Int) := by rw [Int.tmod_eq_emod_of_nonneg (by omega)]; omega
  have HQ := Lib.hid (fun W1 (C : Chg [] W W1) => show IsSb W1 sb r ∧ IsRef W1 nm nw M u ∧ OkRack r from ⟨Blk.chg h C (by simp), hm.chg C (by simp) (by simp), ok⟩)
  clear h hm ok hn20 hn hnm
  have HC := Lib.hid (show Chg [] W (W.alloc (.cells #[.int .u8 (who : Nat), .int .u8 (name : Nat), .int .u64 (x : Nat), .int .i64 level, .bool pin, .slice ao n c] 38)) from (Chg.refl _ _).alloc _)
  have HBX := Lib.hid (Blk.new W #[.int .u8 (who : Nat), .int .u8 (name : Nat), .int .u64 (x : Nat), .int .i64 level, .bool pin, .slice ao n c] 38)
  have HNP := Lib.hid (fun W1 (C : Chg [] W W1) => qnewput_any W1 sb nm nw r M u (HQ.out W1 C).1 (HQ.out W1 C).2.1 (HQ.out W1 C).2.2 x level pin ao n20 c)
  have KIND := Lib.hid (fun (W1 : World) (C : Chg [] W W1) (cs : Array Value) (w0 : RWork) (nq : Nat) (bad : Value) (e1 : cs = qwCells sb nq w0.x bad 0 none w0) (k1 : w0.kind < 2) (l1 : w0.level < 8) (s1 : w0.steps ≤ 1000000) =>
    show QBegun W (W1.alloc (.cells cs 43)) sb nm nw r M u w0 nq bad (.returned (.pointer (some ⟨W1.heap.size, 0, none⟩))) from by
      subst e1
      have q := HQ.out _ (C.alloc (.cells (qwCells sb nq w0.x bad 0 none w0) 43))
      exact ⟨W1.heap.size, rfl, ⟨Blk.new _ _ _, q.1, q.2.1, trivial, q.2.2, k1, fun _ => l1, s1⟩, C.alloc _, C.size⟩)
  go_enter Tryz.func10, Tryz.ntmps10
  by_cases hk0 : k = 0
  · by_cases h2 : name % 4 = 2
    · have HN := Lib.hid (show beginW r k name x level pin = takeW by unfold beginW; rw [if_pos ⟨hk0, h2⟩])
      have HN2 := Lib.hid (show nameQ k name = 1 by unfold nameQ; rw [if_pos ⟨hk0, h2⟩])
      rw [HN.out, HN2.out, if_pos ⟨hk0, .inl h2⟩]
      subst hk0
      go_wp2_with fail
      go_ret
      obtain ⟨qb, e, g1, g2, g3⟩ := KIND.out _ HC.out #[.pointer (some ⟨sb, 0, none⟩), .int .i64 1, .int .u64 0, .int .i64 0, .int .i64 0, .slice none 0 0, .int .i64 0, .pointer none, .int .u64 0, .int .u64 0, .bool false, .bool false, .bool false, .int .i64 0, .bool false, .int .i64 0] takeW 1 (.slice none 0 0) rfl (by decide) (by decide) (by decide)
      cases e
      simp only [World.size_alloc] at g1 g3
      unfold QBegun
      exact ⟨_, rfl, g1, g2, g3⟩
    · by_cases h3 : name % 4 = 3
      · have HN := Lib.hid (show beginW r k name x level pin = shedW by unfold beginW; rw [if_neg (by omega), if_pos ⟨hk0, h3⟩])
        have HN2 := Lib.hid (show nameQ k name = 3 by unfold nameQ; rw [if_neg (by omega), if_pos ⟨hk0, h3⟩])
        rw [HN.out, HN2.out, if_pos ⟨hk0, .inr h3⟩]
        subst hk0
        have e2 : ((((name % 4 : Nat) : Int)) == 2) = false := by simp; omega
        go_wp2_with fail
        go_ret
        obtain ⟨qb, e, g1, g2, g3⟩ := KIND.out _ HC.out #[.pointer (some ⟨sb, 0, none⟩), .int .i64 3, .int .u64 0, .int .i64 0, .int .i64 0, .slice none 0 0, .int .i64 0, .pointer none, .int .u64 0, .int .u64 0, .bool false, .bool false, .bool false, .int .i64 0, .bool false, .int .i64 0] shedW 3 (.slice none 0 0) rfl (by decide) (by decide) (by decide)
        cases e
        simp only [World.size_alloc] at g1 g3
        unfold QBegun
        exact ⟨_, rfl, g1, g2, g3⟩
      · have HN := Lib.hid (show beginW r k name x level pin = putW r x (holdL level) pin by unfold beginW; rw [if_neg (by omega), if_neg (by omega), if_neg (by omega)])
        have HN2 := Lib.hid (show nameQ k name = 0 by unfold nameQ; rw [if_neg (by omega), if_neg (by omega), if_neg (by omega)])
        rw [HN.out, HN2.out, if_neg (by omega)]
        subst hk0
        have e2 : ((((name % 4 : Nat) : Int)) == 2) = false := by simp; omega
        have e3 : ((((name % 4 : Nat) : Int)) == 3) = false := by simp; omega
        clear h2 h3
        go_wp2_with fail
        have HK := Lib.hid (fun (W1 : World) (C : Chg [] (W.alloc (.cells #[.int .u8 (who : Nat), .int .u8 (name : Nat), .int .u64 (x : Nat), .int .i64 level, .bool pin, .slice ao n c] 38)) W1) =>
          show W1.cell? ⟨W.heap.size, 2, none⟩ = some (.int .u64 (x : Nat)) ∧ W1.cell? ⟨W.heap.size, 3, none⟩ = some (.int .i64 level) ∧ W1.cell? ⟨W.heap.size, 4, none⟩ = some (.bool pin) ∧ W1.cell? ⟨W.heap.size, 5, none⟩ = some (.slice ao n c) from by
            have hb := Blk.chg HBX.out C (by simp)
            exact ⟨hb.cell 2, hb.cell 3, hb.cell 4, hb.cell 5⟩)
        go_region_held3 (fun w' => w'.cell? ⟨W.heap.size, 2, none⟩ = some (.int .u64 (x : Nat)) ∧ w'.cell? ⟨W.heap.size, 3, none⟩ = some (.int .i64 level) ∧ w'.cell? ⟨W.heap.size, 4, none⟩ = some (.bool pin) ∧ w'.cell? ⟨W.heap.size, 5, none⟩ = some (.slice ao n c)) (first | assumption | exact HK.out _ (Chg.refl _ _) | exact HK.out _ (Chg.refl _ _).drew | fail)
          (first
            | (go_at_call 28; refine (HF.out _).mono ?_; rintro e w1 ⟨rfl, rfl⟩)
            | (go_at_call 35; refine (HNP.out _ (HC.out.drew)).mono ?_; rintro e w3 hq; unfold QBegun at hq; obtain ⟨qb, rfl, G3, C3, q3⟩ := hq; have k3 := HK.out w3 C3.undrew; have HG := Lib.hid (And.intro G3 (And.intro C3.undrew q3)); clear G3 C3 q3)
            | fail)
        go_wp2_with fail
        go_ret
        unfold QBegun
        exact ⟨qb, rfl, HG.out.1, HC.out.then HG.out.2.1 (by simp), by have := HG.out.2.2; have := HC.out.size; simp at *; omega⟩
  · have HN := Lib.hid (show beginW r k name x level pin = robW by unfold beginW; rw [if_neg (by omega), if_neg (by omega), if_pos (by omega)])
    have HN2 := Lib.hid (show nameQ k name = 2 by unfold nameQ; rw [if_neg (by omega), if_neg (by omega), if_pos (by omega)])
    rw [HN.out, HN2.out, if_neg (by omega)]
    have e0 : ((k : Int) == 0) = false := by simp; omega
    have e1 : (0 : Int) < (k : Int) := by omega
    go_wp2_with (go_at_call 28; refine (HF.out _).mono ?_; rintro e w1 ⟨rfl, rfl⟩)
    go_ret
    obtain ⟨qb, e, g1, g2, g3⟩ := KIND.out _ HC.out #[.pointer (some ⟨sb, 0, none⟩), .int .i64 2, .int .u64 0, .int .i64 0, .int .i64 0, .slice ao n20 c, .int .i64 0, .pointer none, .int .u64 0, .int .u64 0, .bool false, .bool false, .bool false, .int .i64 0, .bool false, .int .i64 0] robW 2 (.slice ao n20 c) rfl (by decide) (by decide) (by decide)
    cases e
    simp only [World.size_alloc] at g1 g3
    unfold QBegun
    exact ⟨_, rfl, g1, g2, g3⟩
end Go.Proofs.YtjdbgohfedjifaaGreatDoor
