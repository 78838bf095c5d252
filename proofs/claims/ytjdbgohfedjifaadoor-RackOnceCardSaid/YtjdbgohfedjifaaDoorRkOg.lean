/- rack: RackOnce: goes, done, the acts. -/
import Derived.Test.YtjdbgohfedjifaaDoorRkOw
import Derived.Test.YtjdbgohfedjifaaDoorBs
namespace Go.Proofs.YtjdbgohfedjifaaDoor
open Go.RowKit Bosun
theorem rkdone_any (W : World) (wb rb : Nat) (gv : Value) (ob : Option Nat) (w : RWork) (h : IsWk W wb rb gv ob w) (hN : NE w) :
    Calls Tryd.prog 21 #[.pointer (some ⟨wb, 0, none⟩)] W fun e W' => e = .returned (.bool w.done) ∧ Chg [] W W' := by
  have HR := wresult_any W wb rb gv ob w h
  have HE := res14 hN
  obtain ⟨⟨a, b, c⟩, hq⟩ : ∃ q, q = resR w := ⟨_, rfl⟩
  rw [← hq] at HR HE
  have hd : w.done = !decide (c = 14) := by
    cases hd : w.done with
    | false => have q : c = 14 := HE.2 hd
               simp [q]
    | true => have q : ¬ c = 14 := fun q => by have := HE.1 q; rw [hd] at this; cases this
              simp [q]
  rw [hd]
  have HR := Lib.hid HR
  clear h hN hd HE hq
  go_enter Tryd.func21, Tryd.ntmps21
  by_cases hc : c = 14
  · subst hc
    go_wp2_with (go_at_call 24; refine HR.out.mono ?_; rintro e w2 ⟨rfl, C2⟩)
    go_ret
    exact ⟨by first | rfl | simp, C2⟩
  · have h1 : (c == 14) = false := by simp [hc]
    have h2 : (c != 14) = true := by simp [hc]
    go_wp2_with (go_at_call 24; refine HR.out.mono ?_; rintro e w2 ⟨rfl, C2⟩)
    go_ret
    exact ⟨by simp [hc], C2⟩
set_option maxHeartbeats 4000000 in
theorem goes_any (W : World) (sb : Nat) (sg : Nat → Nat) (nx x : Nat) (e : Int) (put : Bool) (hB : Blk W sb (stS sg) 3) (hn : nx ≤ 300) (hT : Tells sg nx x e put) :
    Calls Tryd.prog 25 #[.slice (some ⟨sb, 0, none⟩) 300 300, .int .u64 (nx : Nat), .int .u64 (x : Nat), .int .i64 e, .bool put] W fun e' W' => e' = .returned (.bool true) ∧ Chg [sb] W W' ∧ Blk W' sb (stS (goesF sg x e put)) 3 := by
  have HB := Lib.hid hB
  by_cases q : e = 14 ∨ (put = true ∧ e = 0) ∨ (put = false ∧ e ≠ 0)
  · have eg : goesF sg x e put = sg := by unfold goesF; rw [if_pos q]
    rw [eg]
    clear hT eg hB
    go_enter Tryd.func25, Tryd.ntmps25
    by_cases q1 : e = 14
    · subst q1
      clear q
      go_wp2_with fail
      go_ret
      exact ⟨rfl, Chg.refl _ _, HB.out⟩
    · have e1 : (e == 14) = false := by simp [q1]
      cases put with
      | true =>
        obtain rfl : e = 0 := by simp [q1] at q; exact q
        clear q q1
        go_wp2_with fail
        go_ret
        exact ⟨rfl, Chg.refl _ _, HB.out⟩
      | false =>
        have e2 : (e != 0) = true := by simp [q1] at q; simp [q]
        have e3 : (e == 0) = false := by simp [q1] at q; simp [q]
        clear q q1
        go_wp2_with fail
        go_ret
        exact ⟨rfl, Chg.refl _ _, HB.out⟩
  · obtain ⟨t1, t2, t3⟩ := hT q
    have eg : goesF sg x e put = updS sg x (if put = true then 0 else 2) := by unfold goesF; rw [if_neg q]
    rw [eg]
    have c0 : W.cell? ⟨sb, x, none⟩ = some (.int .i64 1) := by rw [Blk.cell hB, stS_get _ (by omega), t1]; rfl
    have z0 : W.frozen? ⟨sb, x, none⟩ = false := Blk.frozen hB _
    have q1 : (e == 14) = false := by simp at q; simp [q.1]
    have y0 : ((x : Int) == 0) = false := by simp; omega
    have y1 : ¬ ((nx : Int) ≤ (x : Int)) := by omega
    have y2 : (x : Int) < 300 := by omega
    have y3 : (0 : Int) ≤ (x : Int) := by omega
    have C1 : Chg [sb] W (W.setCell ⟨sb, x, none⟩ (.int .i64 2)) := (Chg.refl _ _).setCell (.inl (by simp)) _
    have B1 : Blk (W.setCell ⟨sb, x, none⟩ (.int .i64 2)) sb (stS (updS sg x 2)) 3 := by rw [← stS_set]; exact hB.setCell x _
    have C2 : Chg [sb] W ((W.setCell ⟨sb, x, none⟩ (.int .i64 2)).setCell ⟨sb, x, none⟩ (.int .i64 0)) := C1.setCell (.inl (by simp)) _
    have B2 : Blk ((W.setCell ⟨sb, x, none⟩ (.int .i64 2)).setCell ⟨sb, x, none⟩ (.int .i64 0)) sb (stS (updS sg x 0)) 3 := by
      have e : updS sg x 0 = updS (updS sg x 2) x 0 := by funext y; unfold updS; split <;> rfl
      rw [e, ← stS_set]; exact B1.setCell x _
    have z1 : (W.setCell ⟨sb, x, none⟩ (.int .i64 2)).frozen? ⟨sb, x, none⟩ = false := Blk.frozen B1 _
    have HX := Lib.hid (And.intro C1 (And.intro B1 (And.intro C2 B2)))
    clear hT t1 t2 t3 eg C1 B1 C2 B2 hB hn
    go_enter Tryd.func25, Tryd.ntmps25
    cases put with
    | true =>
      have e3 : (e == 0) = false := by simp at q; simp [q]
      clear q
      go_wp2_with fail
      go_ret
      exact ⟨rfl, HX.out.2.2.1, HX.out.2.2.2⟩
    | false =>
      obtain rfl : e = 0 := by simp at q; exact q.2
      clear q
      go_wp2_with fail
      go_ret
      exact ⟨rfl, HX.out.1, HX.out.2.1⟩
/-- The cells of a bosunlaw18.Act. -/
def ActRow (W : World) (r : List Value) : Prop := ∃ (who : Nat) (name : Nat) (x : Nat) (lvl : Int) (pin : Bool) (ao : Option Addr) (n c : Nat) (bad : List Nat), who < 256 ∧ name < 256 ∧ x < 18446744073709551616 ∧ -9223372036854775808 ≤ lvl ∧ lvl ≤ 9223372036854775807 ∧ n ≤ c ∧ n ≤ maxLen ∧ (∀ z ∈ bad, z < 18446744073709551616) ∧ Reads W (.slice ao n c) (words bad) ∧
  r = [.int .u8 (who : Nat), .int .u8 (name : Nat), .int .u64 (x : Nat), .int .i64 lvl, .bool pin, .slice ao n c]
set_option maxRecDepth 100000 in
theorem ActRow_of {H : Type} {enc : TypeId × Value → H} {W : World} (fuel : Nat) (cs : List Value) (y : DataW H × List MemPlace) (h : DataW.trod enc Tryd.prog W 0 (fun _ => true) true fuel 52 cs = some y) : ActRow W cs ∧ cs.length = 6 := by
  obtain ⟨ys, m, _, _, hl, hl2, hf⟩ := Go.DataW.trod_struct Tryd.underlying52 h
  have hc_uint8 : Tryd.prog.cellsOf 5 = 1 := by kernel_rfl
  have hc_uint64 : Tryd.prog.cellsOf 30 = 1 := by kernel_rfl
  have hc_int : Tryd.prog.cellsOf 3 = 1 := by kernel_rfl
  have hc_bool : Tryd.prog.cellsOf 4 = 1 := by kernel_rfl
  have hc_sl : Tryd.prog.cellsOf 42 = 1 := by kernel_rfl
  have hcl : cs.length = 6 := by rw [hl]; kernel_rfl
  refine ⟨?_, hcl⟩
  clear h hl
  match cs, hcl with
  | [c0, c1, c2, c3, c4, c5], _ =>
    match ys, hl2 with
    | [y0, y1, y2, y3, y4, y5], _ =>
      have h0 := hf 0 _ rfl
      have h1 := hf 1 _ rfl
      have h2 := hf 2 _ rfl
      have h3 := hf 3 _ rfl
      have h4 := hf 4 _ rfl
      have h5 := hf 5 _ rfl
      clear hf
      simp [hc_uint8, hc_uint64, hc_int, hc_bool, hc_sl] at h0 h1 h2 h3 h4 h5
      obtain ⟨z0, e0, _, s0⟩ := Go.DataW.trod_int Tryd.underlying5 h0
      obtain ⟨m0, rfl, b0⟩ := nat_u8 s0
      obtain rfl : c0 = .int .u8 (m0 : Nat) := by simpa using e0
      obtain ⟨z1, e1, _, s1⟩ := Go.DataW.trod_int Tryd.underlying5 h1
      obtain ⟨m1, rfl, b1⟩ := nat_u8 s1
      obtain rfl : c1 = .int .u8 (m1 : Nat) := by simpa using e1
      obtain ⟨z2, e2, _, s2⟩ := Go.DataW.trod_int Tryd.underlying30 h2
      obtain ⟨m2, rfl, b2⟩ := nat_u64 s2
      obtain rfl : c2 = .int .u64 (m2 : Nat) := by simpa using e2
      obtain ⟨z3, e3, _, s3⟩ := Go.DataW.trod_int Tryd.underlying3 h3
      have b3 := bounds_i64 s3
      obtain rfl : c3 = .int .i64 z3 := by simpa using e3
      obtain ⟨m4, e4, _⟩ := Go.DataW.trod_bool Tryd.underlying4 h4
      obtain rfl : c4 = .bool m4 := by simpa using e4
      obtain ⟨ao, n, c, rfl, hnc, hnm⟩ : ∃ ao n c, c5 = .slice ao n c ∧ n ≤ c ∧ n ≤ maxLen := by
        rcases Go.DataW.trod_slice Tryd.underlying42 h5 with ⟨e5, _⟩ | ⟨a, n, c, _, _, _, _, e5, _, _, hl, hm, _⟩
        · exact ⟨none, 0, 0, by simpa using e5, Nat.le_refl _, Nat.zero_le _⟩
        · exact ⟨some a, n, c, by simpa using e5, hl, by omega⟩
      obtain ⟨bad, hb, hrd⟩ := open_words (d := y5.1) (p := y5.2) Tryd.underlying42 Tryd.underlying30 (by kernel_rfl) ⟨_, h5⟩
      exact ⟨m0, m1, m2, z3, m4, ao, n, c, bad, b0, b1, b2, b3.1, b3.2, hnc, hnm, hb, hrd, rfl⟩
end Go.Proofs.YtjdbgohfedjifaaDoor
