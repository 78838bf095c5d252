/- rack: the walk of RackBest. -/
import Derived.Test.YtjdbgohfedjifaaDoorRkZ
import Derived.BigQuiet
namespace Go.Proofs.YtjdbgohfedjifaaDoor
open Go.RowKit Bosun
theorem infoBool1 : (Tryd.prog.info? 4).map (fun i => (i.zero, i.size, i.bytes)) = some (some (.bool false), 1, 1) := by kernel_rfl
theorem infoInt1 : (Tryd.prog.info? 3).map (fun i => (i.zero, i.size, i.bytes)) = some (some (.int .i64 0), 1, 8) := by kernel_rfl
theorem msr_start (base : Int) (n : Nat) : msr (newR base n) (fun _ _ => []) = 0 := by
  have : ∀ c, cel (newR base n) (fun _ _ => []) c = 0 := fun c => by
    unfold cel newR RRack.set
    dsimp only
    simp
  unfold msr
  simp only [sumTo, this]
theorem rb_start (M : List Nat) (hM : M = List.replicate 1057 0) : RB (newR 0 64) M (fun _ _ => []) 0 := by
  refine ⟨rfl, by decide, fun k l hk hl => ⟨0, ?_, by simp⟩, fun k l _ _ h => absurd rfl h, by rw [msr_start]; omega⟩
  have hz : ∀ a : Int, getA M a = 0 := fun a => by
    rw [hM]; unfold getA
    split
    · simp only [List.getD, List.getElem?_replicate]; split <;> rfl
    · rfl
  have := bas_end (cap := 64) hk hl
  exact ⟨hz _, by rw [hz]; rfl, fun j hj => absurd hj (by simp), by show 0 ≤ 64; omega, by rw [hM, List.length_replicate]; show bas 64 k l + 2 + 64 ≤ 1057; omega, by simp, by show 0 < 64; omega, by show 64 ≤ 256; omega⟩
theorem reps (n : Nat) : ((List.replicate n false).map Value.bool).toArray = Array.replicate n (Value.bool false) := by simp
theorem ckeep {w w1 : World} {a : Addr} {v : Value} (C : Chg [] w w1) (h : w.cell? a = some v) : w1.cell? a = some v :=
  (World.cell?_of_block (w := w) (C.block _ (World.block_lt_of_cell? w _ h) (by simp))).trans h
theorem Rest.drew {w0 w : World} {rb bm bw : Nat} {r : RRack} {M : List Nat} {u : Nat} (h : Rest w0 w rb bm bw r M u) : Rest w0 w.drew rb bm bw r M u :=
  ⟨h.rk, h.mem.drew, h.ok, h.tab, h.chg.drew, h.l1, h.l2, h.l3⟩
theorem rput_int {w0 W : World} {rb bm bw : Nat} {r : RRack} {M : List Nat} {u : Nat} (x : Nat) (hx : x < 18446744073709551616) (level : Int) (pin : Bool) (R : Rest w0 W rb bm bw r M u) :
    Calls Tryd.prog 11 #[.pointer (some ⟨rb, 0, none⟩), .int .u64 x, .int .i64 level, .bool pin, .nilFunc] W fun e W' => ∃ wb g, e = .returned (.pointer (some ⟨wb, 0, none⟩)) ∧ Rig W' wb rb bm bw (.func (.func 50) #[] #[]) (some g) r (putW r x (holdL level) pin) M u ∧ Chg [] W W' ∧ W.heap.size ≤ wb ∧ W.heap.size ≤ g :=
  rput_any W rb bm bw r M u R.rk R.mem R.ok x hx level pin .nilFunc _ _ sure_nil
theorem hold64 : holdN 64 = 64 := by kernel_rfl
theorem SB.drewN {w0 w : World} {rb bm bw gb : Nat} {v5 v6 : Value} {r : RRack} {M : List Nat} {u p : Nat} {lv : List Nat} {pn gone : List Bool} {Q : Nat → Nat → List Nat} (h : SB w0 w rb bm bw gb v5 v6 r M u p lv pn gone Q) (n : Nat) : SB w0 (w.drewN n) rb bm bw gb v5 v6 r M u p lv pn gone Q :=
  ⟨⟨h.rest.rk, h.rest.mem.chg ((Chg.refl [] _).drewN n) (by simp) (by simp), h.rest.ok, h.rest.tab, h.rest.chg.drewN n, h.rest.l1, h.rest.l2, h.rest.l3⟩, h.rB, h.cap, h.lg, h.lv.keep ((Chg.refl [] _).drewN n)⟩
set_option maxRecDepth 100000 in
set_option maxHeartbeats 16000000 in
theorem rackBest_walk (w : World) (hT : TabW w) (v : Value) (rows : List (List Value)) (hr : ∀ r ∈ rows, PutRow r) (hv : ReadsS w v 3 rows) :
    Calls Tryd.prog 3 #[v] w fun e w' => e = .returned (.bool true) ∧ Chg [] w w' := by
  obtain ⟨ao, cpp, rfl, hm, hcell⟩ := hv
  unfold maxLen at hm
  have HCELL := Lib.hid hcell
  have HR := Lib.hid hr
  have HT := Lib.hid hT
  clear hcell hr hT
  obtain ⟨M0, hM0⟩ : ∃ M0, M0 = List.replicate 1057 0 := ⟨_, rfl⟩
  have HNEW := Lib.hid (fun w => new_any (1 + 16 * (2 + (64 : Nat) : Int)) 1057 (by omega) w)
  rw [← hM0] at HNEW
  have HRB := Lib.hid (rb_start M0 hM0)
  clear hM0
  go_enter Tryd.func3, Tryd.ntmps3
  go_wp2_with fail
  refine (refwords_any 64 (by omega) (by omega) _).mono ?_
  rw [hold64]
  rintro e w1 ⟨rfl, rfl⟩
  go_wp2_with fail
  refine (HNEW.out w).mono ?_
  rintro e W1 ⟨bm, bw, rfl, M1, C1, l2, l3⟩
  have HX1 := Lib.hid (And.intro M1 (And.intro C1 (And.intro l2 l3)))
  clear M1 C1 l2 l3
  go_wp2_with fail
  refine (rnew_any W1 0 (by omega) (by omega) 64 (by omega) (by omega)).mono ?_
  rw [hold64]
  rintro e W2 ⟨rb, rfl, R2, K2, C2, l1⟩
  have R2' : Rest w W2 rb bm bw (newR 0 64) M0 0 := by
    have := HX1.out.2.1.size
    exact ⟨R2, HX1.out.1.chg C2 (by simp) (by simp), K2, (HT.out.keep HX1.out.2.1).keep C2, HX1.out.2.1.then C2 (by simp), by omega, HX1.out.2.2.1, HX1.out.2.2.2⟩
  have HR2 := Lib.hid R2'
  clear R2' R2 K2 C2 l1 HX1
  obtain ⟨n, hn⟩ : ∃ n : Nat, n = min rows.length 60 := ⟨_, rfl⟩
  have hni : (n : Int) = if (60 : Int) < ((rows.length : Nat) : Int) then 60 else ((rows.length : Nat) : Int) := by split <;> omega
  have HNI := Lib.hid hni
  have HN := Lib.hid (show n ≤ rows.length ∧ n ≤ 60 by omega)
  clear hn hni
  go_wp2_with (first
    | (refine wpList_make1 rfl (.const (.int .i64 70)) (.const (.int .i64 70)) 29 rfl 4 (.bool false) 1 Tryd.underlying29 infoBool1 rfl .i64 .i64 70 rfl rfl (by omega) (by omega) ?_; intro w8 A8 C8 z8)
    | (refine wpList_min rfl (.tmp 24) _ _ _ rfl .i64 (rows.length : Nat) 60 (n : Int) rfl rfl HNI.out ?_))
  have HLV : LV w w8 W2.heap.size (.slice none 0 0) (.slice none 0 0) [] [] (List.replicate 70 false) := by
    have := HR2.out.chg.size
    exact ⟨Own.nil _ _ _, Own.nil _ _ _, by rw [reps]; exact A8, this, by intro h; cases h⟩
  have HSB := Lib.hid (show SB w w8 rb bm bw W2.heap.size (.slice none 0 0) (.slice none 0 0) (newR 0 64) M0 0 0 [] [] (List.replicate 70 false) (fun _ _ => []) from
    ⟨⟨Blk.chg HR2.out.rk C8 (by simp), HR2.out.mem.chg C8 (by simp) (by simp), HR2.out.ok, HR2.out.tab.keep C8, HR2.out.chg.then C8 (by simp), HR2.out.l1, HR2.out.l2, HR2.out.l3⟩, HRB.out, rfl, LG.start, HLV⟩)
  obtain ⟨gb, hgb⟩ : ∃ gb, gb = W2.heap.size := ⟨_, rfl⟩
  rw [← hgb] at HSB ⊢
  clear hgb HLV A8 C8 z8
  have hn60 := HN.out.2
  go_loopw [5, 6, 9] (fun x5 x6 x9 wr => ∃ (i p : Nat) (r : RRack) (M : List Nat) (u : Nat) (lv : List Nat) (pn gone : List Bool) (Q : Nat → Nat → List Nat), i ≤ n + 1 ∧ x9 = .int .i64 i ∧ p = min i n ∧ SB w wr rb bm bw gb x5 x6 r M u p lv pn gone Q ∧ (i = n + 1 → bestR r = 8 ∧ ∀ k l, k < 2 → l < 8 → Q k l = [])) (fun _ _ x9 _ => 62 - (intOf x9).toNat)
  case atStart => exact ⟨0, 0, _, _, _, _, _, _, _, by omega, rfl, by omega, HSB.out, fun h => by omega⟩
  case round =>
    obtain ⟨i, p, r, M, u, lv, pn, gone, Q, hi, rfl, hp, S, hend⟩ := hrel
    by_cases hin : i ≤ n
    · by_cases hlt : i < n
      · have hil : i < rows.length := by have := HN.out; omega
        obtain ⟨row, hrow⟩ : ∃ row, rows[i]? = some row := ⟨rows[i], List.getElem?_eq_getElem hil⟩
        obtain ⟨lvl, pin, tk, t1, t2, t3, t4, rfl⟩ := HR.out row (List.mem_of_getElem? hrow)
        obtain ⟨g, off, rfl, hc⟩ : ∃ g off, ao = some ⟨g, off, none⟩ ∧ ∀ W', Chg [] w W' → W'.cell? ⟨g, off + i * 3, none⟩ = some (.int .i64 lvl) ∧ W'.cell? ⟨g, off + i * 3 + 1, none⟩ = some (.bool pin) ∧ W'.cell? ⟨g, off + i * 3 + 2, none⟩ = some (.int .u8 tk) := by
          obtain ⟨g, off, h1, h2⟩ := HCELL.out i _ hrow
          refine ⟨g, off, h1, fun W' C => ⟨?_, ?_, ?_⟩⟩
          · exact ckeep C (h2 0 _ rfl)
          · exact ckeep C (h2 1 _ rfl)
          · exact ckeep C (h2 2 _ rfl)
        have HC := Lib.hid hc
        obtain rfl : p = i := by omega
        have hw1 : IntKind.i64.wrap ((p : Int) + 1) = (p : Int) + 1 := by rw [IntKind.wrap_i64]; omega
        have hw2 : IntKind.u64.wrap ((p : Int) + 1) = ((p + 1 : Nat) : Int) := by rw [IntKind.wrap_u64]; omega
        have hlt' : (p : Int) < (rows.length : Nat) := by have := HN.out; omega
        have h0i : (0 : Int) ≤ (p : Int) := by omega
        have hlti : (p : Int) < (n : Int) := by omega
        have hlei : (p : Int) ≤ (n : Int) := by omega
        have HS := Lib.hid S
        clear S hend hc hrow
        obtain ⟨k1, k2, k3⟩ := HC.out _ HS.out.rest.chg
        have hkp : kOf pin < 2 := by unfold kOf; split <;> omega
        have hl8 := holdL_lt lvl
        have HPUT := Lib.hid (show Calls Tryd.prog 11 #[.pointer (some ⟨rb, 0, none⟩), .int .u64 ((p : Int) + 1), .int .i64 lvl, .bool pin, .nilFunc] wr.drew _ from rput_int (p + 1) (by omega) lvl pin HS.out.rest.drew)
        clear hi hin hp hlt hil
        obtain ⟨n5, hn5, hRun⟩ := rb_put HS.out.rB gT u (p + 1) hkp hl8 (by rw [HS.out.cap]; omega) (by rw [HS.out.cap]; omega)
        have HRUN := Lib.hid (And.intro hn5 (show Run gT n5 (r, putW r (p + 1) (holdL lvl) pin, M, u) _ from hRun))
        have HRR := Lib.hid (fun (s : RS) (hs : RB s.1 s.2.2.1 (updQ Q (kOf pin) (holdL lvl) (Q (kOf pin) (holdL lvl) ++ [p + 1])) (p + 1)) => hs)
        clear hn5 hRun
        go_wp2_with fail
        go_region_held3 (fun w' => w'.cell? ⟨g, off + p * 3, none⟩ = some (.int .i64 lvl) ∧ w'.cell? ⟨g, off + p * 3 + 1, none⟩ = some (.bool pin)) (first | assumption | exact ⟨k1, k2⟩ | exact ⟨k1', k2'⟩ | exact ⟨k1'', k2''⟩ | fail)
          (first
            | (go_at_call 11; refine HPUT.out.mono ?_; rintro e w2 ⟨wb, gg, rfl, G2, C2, q1, q2⟩; obtain ⟨k1', k2', k3'⟩ := HC.out w2 (HS.out.rest.chg.drew.then C2 (by simp)); have HALL := Lib.hid (whole_run HS.out.rest.drew C2 q1 (by simp; exact q2) G2 rfl n5 (by have := HRUN.out.1; omega) HRUN.out.2 (fun s h => h.2.1)); clear G2 C2 q1 q2)
            | (go_at_call 10; refine HALL.out.mono ?_; rintro e w3 ⟨s, ⟨hs1, hs2, hs3, hs4⟩, rfl, R3, C3⟩; obtain ⟨k1'', k2'', k3''⟩ := HC.out w3 R3.chg; rw [hs3])
            | fail)
        have LV3 : LV w w3 gb u5 u6 lv pn gone := (HS.out.lv.keep (Chg.refl _ _).drew).work HS.out.rest.drew C3
        have LL := Lib.hid (And.intro HS.out.lg.ll (And.intro HS.out.lg.lp HS.out.lg.p60))
        have HX3 := Lib.hid (And.intro LV3 (And.intro R3 (And.intro hs4 (And.intro hs1 hs2))))
        clear LV3 R3 C3 hs1 hs2 hs3 hs4 k1 k2 k3 k1' k2' k3' HPUT HRUN HALL
        go_wp2_with (first
          | (go_at_call 12; refine (rhold5_any lvl _).mono ?_; rintro e w4 ⟨rfl, rfl⟩)
          | (refine wpList_app1_at rfl (.tmp 67) (.tmp 69) 28 rfl w.heap.size 3 (.int .i64 0) 8 Tryd.underlying28 infoInt1 rfl _ _ rfl (HX3.out.1.o5.alloc _) w3.heap.size 1 (.int .i64 (holdL lvl : Nat)) rfl ((Blk.new w3 #[.int .i64 (holdL lvl : Nat)] 3).cell 0) rfl (by rw [nats_len, LL.out.1]; unfold maxLen; omega) (by rw [nats_len, LL.out.1]; omega) (by have := HX3.out.2.1.chg.size; simp; omega) ?_; intro v5' w4 O5 C5 _
             have LV4 := HX3.out.1.app5 ((Chg.refl _ _).alloc _) O5 C5
             have R4 := HX3.out.2.1.grown HT.out HX3.out.1.o5 (by decide) (by decide) (by decide) ((Chg.refl _ _).alloc _) C5
             obtain ⟨k1, k2, k3⟩ := HC.out w4 R4.chg
             have HX4 := Lib.hid (And.intro LV4 R4)
             clear LV4 R4 O5 C5)
          | (refine wpList_app1_at rfl (.tmp 71) (.tmp 77) 29 rfl w.heap.size 4 (.bool false) 1 Tryd.underlying29 infoBool1 rfl _ _ rfl (HX4.out.1.o6.alloc _) w4.heap.size 1 (.bool pin) rfl ((Blk.new w4 #[.bool pin] 4).cell 0) rfl (by rw [List.length_map, LL.out.2.1]; unfold maxLen; omega) (by rw [List.length_map, LL.out.2.1]; omega) (by have := HX4.out.2.chg.size; simp; omega) ?_; intro v6' w5 O6 C6 hb6
             have LV5 := HX4.out.1.app6 ((Chg.refl _ _).alloc _) O6 C6 hb6
             have R5 := HX4.out.2.grown HT.out HX4.out.1.o6 (by decide) (by decide) (by decide) ((Chg.refl _ _).alloc _) C6
             obtain ⟨m1, m2, m3⟩ := HC.out w5 R5.chg
             have HX5 := Lib.hid (And.intro LV5 R5)
             clear LV5 R5 O6 C6 hb6))
        have SB5 : SB w w5 rb bm bw gb v5' v6' s.1 s.2.2.1 s.2.2.2 (p + 1) (lv ++ [holdL lvl]) (pn ++ [pin]) gone (updQ Q (kOf pin) (holdL lvl) (Q (kOf pin) (holdL lvl) ++ [p + 1])) :=
          ⟨HX5.out.2, HX3.out.2.2.1, by rw [HX3.out.2.2.2.1, (put_rest _ _ _).2.1]; exact HS.out.cap, HS.out.lg.put (by omega) hl8 pin, HX5.out.1⟩
        have HSB5 := Lib.hid SB5
        obtain ⟨F, hF⟩ : ∃ F : Prop, (F ↔ p = n) := ⟨_, Iff.rfl⟩
        have HF := Lib.hid hF
        clear hF
        clear SB5 k1 k2 k3 m1 m2 m3 HX3 HX4 HX5 HRR
        obtain ⟨lv', hlv'⟩ : ∃ lv', lv' = lv ++ [holdL lvl] := ⟨_, rfl⟩
        obtain ⟨pn', hpn'⟩ : ∃ pn', pn' = pn ++ [pin] := ⟨_, rfl⟩
        obtain ⟨P, hP⟩ : ∃ P, P = p + 1 := ⟨_, rfl⟩
        have HPP := Lib.hid (show P = p + 1 ∧ P ≤ 60 by omega)
        rw [← hlv', ← hpn', ← hP] at HSB5
        clear hlv' hpn' hP
        go_loopw [10] (fun x10 wt => ∃ (q : Nat) (r : RRack) (M : List Nat) (u : Nat) (gone : List Bool) (Q : Nat → Nat → List Nat), q < 401 ∧ x10 = .int .i64 q ∧ SB w wt rb bm bw gb v5' v6' r M u P lv' pn' gone Q ∧ (F → msr r Q < q)) (fun x10 _ => (intOf x10).toNat)
        case atStart => exact ⟨(tk % 4).toNat, _, _, _, _, _, by omega, by go_num, HSB5.out, fun h => absurd (HF.out.1 h) (by omega)⟩
        case round =>
          obtain ⟨q, r, M, u, gone, Q, hq, rfl, S, hm'⟩ := hrel
          have HM := Lib.hid hm'
          clear hm'
          by_cases hq0 : 0 < q
          · have hq0i : (0 : Int) < (q : Int) := by omega
            have HS := Lib.hid S
            clear S
            have HTK := Lib.hid (fun (W' : World) (R' : Rest w W' rb bm bw r M u) => rtake_any W' rb bm bw r M u R'.rk R'.mem R'.ok)
            rcases rb_take HS.out.rB gT u with ⟨b8, hempty, hRun⟩ | ⟨bl, hkk, hbest, x, L, hQ, hRun⟩ | ⟨bl, n4, hn4, hRun⟩
            · have HRN := Lib.hid (And.intro b8 (And.intro hempty hRun))
              clear b8 hempty hRun
              go_wp2_with (first
                | (go_at_call 13; refine (HTK.out _ HS.out.rest).mono ?_; rintro e w2 ⟨wb, rfl, G2, C2, q1⟩; have HALL := Lib.hid (whole_run HS.out.rest C2 q1 (by simp) G2 rfl 1 (by decide) HRN.out.2.2 (fun s h => h.2.1)); clear G2 C2 q1)
                | (go_at_call 10; refine HALL.out.mono ?_; rintro e w3 ⟨s, ⟨hs1, hs2, hs3, hs4⟩, rfl, R3, C3⟩; rw [hs3]; have HX := Lib.hid (And.intro hs1 (And.intro hs4 (And.intro R3 C3))); clear hs1 hs2 hs3 hs4 R3 C3))
              go_roundw
              case rel => exact ⟨p + 1, P, s.1, s.2.2.1, s.2.2.2, lv', pn', gone, Q, by omega, by go_num, by have := HPP.out; omega, ⟨HX.out.2.2.1, by rw [HX.out.1, HX.out.2.1]; exact HS.out.rB, by rw [HX.out.1]; exact HS.out.cap, HS.out.lg, HS.out.lv.work HS.out.rest HX.out.2.2.2⟩, fun _ => ⟨by rw [HX.out.1]; exact HRN.out.1, HRN.out.2.1⟩⟩
              case measure => simp [intOf] <;> omega
            · obtain ⟨x1, x2, x3, x4, x5⟩ := HS.out.lg.first hkk bl hQ
              obtain ⟨g5, c5, g6, c6, e5, e6⟩ := HS.out.lv.open5 (by rw [HS.out.lg.ll]; omega) (by rw [HS.out.lg.lp]; omega)
              rw [HS.out.lg.ll] at e5
              rw [HS.out.lg.lp] at e6
              subst e5
              subst e6
              have HFAIR := Lib.hid (fun j hj hg => HS.out.lg.fair hkk bl hQ hbest (j := j) hj hg)
              have HTAKE := Lib.hid (HS.out.lg.take hkk bl hQ)
              have HRN := Lib.hid hRun
              obtain ⟨b, hb⟩ : ∃ b, b = bestR r := ⟨_, rfl⟩
              rw [← hb] at x3 HFAIR HTAKE HRN
              obtain ⟨kq, hkq⟩ : ∃ kq, kq = chK r b := ⟨_, rfl⟩
              rw [← hkq] at HTAKE HRN
              have HP60 := HPP.out.2
              have HXX := Lib.hid (And.intro x3 (And.intro x4 x5))
              have y0 : ((x : Int) == 0) = false := by simp; omega
              have y1 : ¬ ((P : Int) < (x : Int)) := by omega
              have y2 : (x : Int) < 70 := by omega
              have y3 : (0 : Int) ≤ (x : Int) := by omega
              have y4 : IntKind.u64.wrap ((x : Int) - 1) = ((x - 1 : Nat) : Int) := by rw [IntKind.wrap_u64]; omega
              have y5 : ((x - 1 : Nat) : Int) < (P : Int) := by omega
              have y6 : (0 : Int) ≤ ((x - 1 : Nat) : Int) := by omega
              clear x3 x4 x5 hRun hbest hQ bl hkk hb hkq
              go_wp2_with (first
                | (go_at_call 13; refine (HTK.out _ HS.out.rest).mono ?_; rintro e w2 ⟨wb, rfl, G2, C2, q1⟩; have HALL := Lib.hid (whole_run HS.out.rest C2 q1 (by simp) G2 rfl 5 (by decide) HRN.out (fun s h => h.1)); clear G2 C2 q1)
                | (go_at_call 10; refine HALL.out.mono ?_; rintro e w3 ⟨s, ⟨hs1, hs2, hs3, hs4, hs5⟩, rfl, R3, C3⟩; rw [hs2]
                   have LV3 := HS.out.lv.work HS.out.rest C3
                   have d1 : w3.cell? ⟨g5, x - 1, none⟩ = some (.int .i64 (b : Nat)) := by rw [← HXX.out.1]; exact LV3.cells.1 _ (by rw [HS.out.lg.ll]; omega)
                   have d2 : w3.cell? ⟨gb, x, none⟩ = some (.bool false) := by rw [← HXX.out.2.2]; exact LV3.cells.2.2 _ (by rw [HS.out.lg.lg]; omega)
                   have d3 : w3.frozen? ⟨gb, x, none⟩ = false := Blk.frozen LV3.gn _
                   have HX := Lib.hid (And.intro hs3 (And.intro hs4 (And.intro hs5 (And.intro R3 LV3)))); clear hs1 hs2 hs3 hs4 hs5 R3 C3 LV3))
              have R4 : Rest w (w3.setCell ⟨gb, x, none⟩ (.bool true)) rb bm bw s.1 s.2.2.1 s.2.2.2 := HX.out.2.2.2.1.mark HT.out HX.out.2.2.2.2 x _
              have LV4 := HX.out.2.2.2.2.mark x
              have SB4 := Lib.hid (show SB w (w3.setCell ⟨gb, x, none⟩ (.bool true)) rb bm bw gb _ _ s.1 s.2.2.1 s.2.2.2 P lv' pn' (gone.set x true) (updQ Q kq b L) from ⟨R4, HX.out.1, by rw [HX.out.2.1]; exact HS.out.cap, HTAKE.out, LV4⟩)
              have HMS := Lib.hid HX.out.2.2.1
              clear R4 LV4 HX HTAKE d1 d2 d3 HALL HTK HRN
              obtain ⟨gone', hgone'⟩ : ∃ gone', gone' = gone.set x true := ⟨_, rfl⟩
              rw [← hgone'] at SB4 HFAIR
              clear hgone'
              obtain ⟨w4, hw4⟩ : ∃ w4, w4 = w3.setCell ⟨gb, x, none⟩ (.bool true) := ⟨_, rfl⟩
              rw [← hw4] at SB4 ⊢
              clear hw4
              go_loopw [17] (fun x17 wj => ∃ j : Nat, j ≤ P ∧ x17 = .int .i64 j ∧ SB w wj rb bm bw gb (.slice (some ⟨g5, 0, none⟩) P c5) (.slice (some ⟨g6, 0, none⟩) P c6) s.1 s.2.2.1 s.2.2.2 P lv' pn' gone' (updQ Q kq b L)) (fun x17 _ => 61 - (intOf x17).toNat)
              case atStart => exact ⟨0, by omega, rfl, SB4.out⟩
              case round =>
                obtain ⟨j, hj, rfl, SJ⟩ := hrel
                by_cases hjP : j < P
                · have HSJ := Lib.hid SJ
                  have LVJ := SJ.lv
                  have hjl : j < lv'.length := by rw [SJ.lg.ll]; exact hjP
                  have hjp : j < pn'.length := by rw [SJ.lg.lp]; exact hjP
                  have hxp : x - 1 < pn'.length := by rw [SJ.lg.lp]; omega
                  have hjg : j + 1 < gone'.length := by rw [SJ.lg.lg]; omega
                  have a0 := LVJ.cells.2.2 (j + 1) hjg
                  have a1 := LVJ.cells.1 j hjl
                  have a2 := LVJ.cells.2.1 j hjp
                  have a3 := LVJ.cells.2.1 (x - 1) hxp
                  have hf := HFAIR.out j hjP
                  clear SJ LVJ hjl hjp hxp hjg
                  obtain ⟨gj, hgj⟩ : ∃ gj, gj = gone'.getD (j + 1) false := ⟨_, rfl⟩
                  obtain ⟨lj, hlj⟩ : ∃ lj, lj = lv'.getD j 0 := ⟨_, rfl⟩
                  obtain ⟨pj, hpj⟩ : ∃ pj, pj = pn'.getD j false := ⟨_, rfl⟩
                  obtain ⟨px, hpx⟩ : ∃ px, px = pn'.getD (x - 1) false := ⟨_, rfl⟩
                  rw [← hgj] at a0 hf
                  rw [← hlj] at a1 hf
                  rw [← hpj] at a2 hf
                  rw [← hpx] at a3 hf
                  clear hgj hlj hpj hpx
                  have t0 : (0 : Int) ≤ (j : Int) := by omega
                  have t1 : (j : Int) < (P : Int) := by omega
                  have t2 : IntKind.i64.wrap ((j : Int) + 1) = ((j + 1 : Nat) : Int) := by rw [IntKind.wrap_i64]; omega
                  have t3 : ((j + 1 : Nat) : Int) < 70 := by omega
                  have t4 : (0 : Int) ≤ ((j + 1 : Nat) : Int) := by omega
                  have t5 : IntKind.i64.wrap (x : Int) = (x : Int) := by rw [IntKind.wrap_i64]; omega
                  have t6 : IntKind.i64.wrap ((x : Int) - 1) = ((x - 1 : Nat) : Int) := by rw [IntKind.wrap_i64]; omega
                  cases gj
                  · obtain ⟨f1, f2⟩ := hf rfl
                    have s1 : decide ((lj : Int) < (b : Int)) = false := decide_eq_false (by omega)
                    have s1n : decide (lj < b) = false := decide_eq_false (by omega)
                    by_cases q1 : lj = b
                    · have s2 : ((lj : Int) == (b : Int)) = true := by simp [q1]
                      have s2n : (lj == b) = true := by simp [q1]
                      by_cases q2 : pj = px
                      · have s3 : (pj == px) = true := by simp [q2]
                        have s4 : decide ((j : Int) < ((x - 1 : Nat) : Int)) = false := decide_eq_false (fun hh => f2 ⟨q1, q2, by omega⟩)
                        have s4n : decide (j < x - 1) = false := decide_eq_false (fun hh => f2 ⟨q1, q2, by omega⟩)
                        clear hf f1 f2 q1 q2
                        go_wp2_with fail
                        go_quiet (fail)
                        go_wp2_with fail
                        go_roundw
                        case rel => exact ⟨j + 1, by omega, by go_num, HSJ.out.drewN _⟩
                        case measure => simp [intOf] <;> omega
                      · have s3 : (pj == px) = false := by simp [q2]
                        clear hf f1 f2 q1 q2
                        go_wp2_with fail
                        go_quiet (fail)
                        go_wp2_with fail
                        go_roundw
                        case rel => exact ⟨j + 1, by omega, by go_num, HSJ.out.drewN _⟩
                        case measure => simp [intOf] <;> omega
                    · have s2 : ((lj : Int) == (b : Int)) = false := by simp; omega
                      have s2n : (lj == b) = false := by simp; omega
                      clear hf f1 f2 q1
                      go_wp2_with fail
                      go_quiet (fail)
                      go_wp2_with fail
                      go_roundw
                      case rel => exact ⟨j + 1, by omega, by go_num, HSJ.out.drewN _⟩
                      case measure => simp [intOf] <;> omega
                  · clear hf
                    go_wp2_with fail
                    go_quiet (fail)
                    go_wp2_with fail
                    go_roundw
                    case rel => exact ⟨j + 1, by omega, by go_num, HSJ.out.drewN _⟩
                    case measure => simp [intOf] <;> omega
                · obtain rfl : j = P := by omega
                  have HSJ := Lib.hid SJ
                  clear SJ
                  go_wp2_with fail
                  go_roundw
                  case rel => exact ⟨q - 1, s.1, s.2.2.1, s.2.2.2, gone', updQ Q kq b L, by omega, by go_num, HSJ.out, fun h => by have := HM.out h; have := HMS.out; omega⟩
                  case measure => simp [intOf] <;> omega
            · have HRN := Lib.hid (And.intro hn4 hRun)
              clear hn4 hRun
              go_wp2_with (first
                | (go_at_call 13; refine (HTK.out _ HS.out.rest).mono ?_; rintro e w2 ⟨wb, rfl, G2, C2, q1⟩; have HALL := Lib.hid (whole_run HS.out.rest C2 q1 (by simp) G2 rfl n4 (by have := HRN.out.1; omega) HRN.out.2 (fun s h => h.1)); clear G2 C2 q1)
                | (go_at_call 10; refine HALL.out.mono ?_; rintro e w3 ⟨s, ⟨hs1, hs2, hs3, hs4, hs5⟩, rfl, R3, C3⟩; rw [hs2]; have HX := Lib.hid (And.intro hs3 (And.intro hs4 (And.intro hs5 (And.intro R3 C3)))); clear hs1 hs2 hs3 hs4 hs5 R3 C3))
              go_roundw
              case rel => exact ⟨q - 1, s.1, s.2.2.1, s.2.2.2, gone, Q, by omega, by go_num, ⟨HX.out.2.2.2.1, HX.out.1, by rw [HX.out.2.1]; exact HS.out.cap, HS.out.lg, HS.out.lv.work HS.out.rest HX.out.2.2.2.2⟩, fun h => by have := HM.out h; have := HX.out.2.2.1; omega⟩
              case measure => simp [intOf] <;> omega
          · obtain rfl : q = 0 := by omega
            have HS := Lib.hid S
            clear S
            go_wp2_with fail
            go_roundw
            case rel => exact ⟨p + 1, P, r, M, u, lv', pn', gone, Q, by omega, by go_num, by have := HPP.out; omega, HS.out, fun h => absurd (HM.out (HF.out.2 (by first | trivial | omega))) (by omega)⟩
            case measure => simp [intOf] <;> omega
      · obtain rfl : p = i := by omega
        obtain rfl : p = n := by omega
        have HSB5 := Lib.hid S
        have HPP := Lib.hid (show p = p ∧ p ≤ 60 by have := HN.out; omega)
        obtain ⟨F, hF⟩ : ∃ F : Prop, (F ↔ p = p) := ⟨_, Iff.rfl⟩
        have HF := Lib.hid hF
        clear hF S hend hi hin hp hlt
        go_wp2_with fail
        go_loopw [10] (fun x10 wt => ∃ (q : Nat) (r : RRack) (M : List Nat) (u : Nat) (gone : List Bool) (Q : Nat → Nat → List Nat), q < 401 ∧ x10 = .int .i64 q ∧ SB w wt rb bm bw gb u5 u6 r M u p lv pn gone Q ∧ (F → msr r Q < q)) (fun x10 _ => (intOf x10).toNat)
        case atStart => exact ⟨400, _, _, _, _, _, by omega, rfl, HSB5.out, fun _ => by have := HSB5.out.rB.m; have := HPP.out; omega⟩
        case round =>
          obtain ⟨q, r, M, u, gone, Q, hq, rfl, S, hm'⟩ := hrel
          have HM := Lib.hid hm'
          clear hm'
          by_cases hq0 : 0 < q
          · have hq0i : (0 : Int) < (q : Int) := by omega
            have HS := Lib.hid S
            clear S
            have HTK := Lib.hid (fun (W' : World) (R' : Rest w W' rb bm bw r M u) => rtake_any W' rb bm bw r M u R'.rk R'.mem R'.ok)
            rcases rb_take HS.out.rB gT u with ⟨b8, hempty, hRun⟩ | ⟨bl, hkk, hbest, x, L, hQ, hRun⟩ | ⟨bl, n4, hn4, hRun⟩
            · have HRN := Lib.hid (And.intro b8 (And.intro hempty hRun))
              clear b8 hempty hRun
              go_wp2_with (first
                | (go_at_call 13; refine (HTK.out _ HS.out.rest).mono ?_; rintro e w2 ⟨wb, rfl, G2, C2, q1⟩; have HALL := Lib.hid (whole_run HS.out.rest C2 q1 (by simp) G2 rfl 1 (by decide) HRN.out.2.2 (fun s h => h.2.1)); clear G2 C2 q1)
                | (go_at_call 10; refine HALL.out.mono ?_; rintro e w3 ⟨s, ⟨hs1, hs2, hs3, hs4⟩, rfl, R3, C3⟩; rw [hs3]; have HX := Lib.hid (And.intro hs1 (And.intro hs4 (And.intro R3 C3))); clear hs1 hs2 hs3 hs4 R3 C3))
              go_roundw
              case rel => exact ⟨p + 1, p, s.1, s.2.2.1, s.2.2.2, lv, pn, gone, Q, by omega, by go_num, by have := HPP.out; omega, ⟨HX.out.2.2.1, by rw [HX.out.1, HX.out.2.1]; exact HS.out.rB, by rw [HX.out.1]; exact HS.out.cap, HS.out.lg, HS.out.lv.work HS.out.rest HX.out.2.2.2⟩, fun _ => ⟨by rw [HX.out.1]; exact HRN.out.1, HRN.out.2.1⟩⟩
              case measure => simp [intOf] <;> omega
            · obtain ⟨x1, x2, x3, x4, x5⟩ := HS.out.lg.first hkk bl hQ
              obtain ⟨g5, c5, g6, c6, e5, e6⟩ := HS.out.lv.open5 (by rw [HS.out.lg.ll]; omega) (by rw [HS.out.lg.lp]; omega)
              rw [HS.out.lg.ll] at e5
              rw [HS.out.lg.lp] at e6
              subst e5
              subst e6
              have HFAIR := Lib.hid (fun j hj hg => HS.out.lg.fair hkk bl hQ hbest (j := j) hj hg)
              have HTAKE := Lib.hid (HS.out.lg.take hkk bl hQ)
              have HRN := Lib.hid hRun
              obtain ⟨b, hb⟩ : ∃ b, b = bestR r := ⟨_, rfl⟩
              rw [← hb] at x3 HFAIR HTAKE HRN
              obtain ⟨kq, hkq⟩ : ∃ kq, kq = chK r b := ⟨_, rfl⟩
              rw [← hkq] at HTAKE HRN
              have HP60 := HPP.out.2
              have HXX := Lib.hid (And.intro x3 (And.intro x4 x5))
              have y0 : ((x : Int) == 0) = false := by simp; omega
              have y1 : ¬ ((p : Int) < (x : Int)) := by omega
              have y2 : (x : Int) < 70 := by omega
              have y3 : (0 : Int) ≤ (x : Int) := by omega
              have y4 : IntKind.u64.wrap ((x : Int) - 1) = ((x - 1 : Nat) : Int) := by rw [IntKind.wrap_u64]; omega
              have y5 : ((x - 1 : Nat) : Int) < (p : Int) := by omega
              have y6 : (0 : Int) ≤ ((x - 1 : Nat) : Int) := by omega
              clear x3 x4 x5 hRun hbest hQ bl hkk hb hkq
              go_wp2_with (first
                | (go_at_call 13; refine (HTK.out _ HS.out.rest).mono ?_; rintro e w2 ⟨wb, rfl, G2, C2, q1⟩; have HALL := Lib.hid (whole_run HS.out.rest C2 q1 (by simp) G2 rfl 5 (by decide) HRN.out (fun s h => h.1)); clear G2 C2 q1)
                | (go_at_call 10; refine HALL.out.mono ?_; rintro e w3 ⟨s, ⟨hs1, hs2, hs3, hs4, hs5⟩, rfl, R3, C3⟩; rw [hs2]
                   have LV3 := HS.out.lv.work HS.out.rest C3
                   have d1 : w3.cell? ⟨g5, x - 1, none⟩ = some (.int .i64 (b : Nat)) := by rw [← HXX.out.1]; exact LV3.cells.1 _ (by rw [HS.out.lg.ll]; omega)
                   have d2 : w3.cell? ⟨gb, x, none⟩ = some (.bool false) := by rw [← HXX.out.2.2]; exact LV3.cells.2.2 _ (by rw [HS.out.lg.lg]; omega)
                   have d3 : w3.frozen? ⟨gb, x, none⟩ = false := Blk.frozen LV3.gn _
                   have HX := Lib.hid (And.intro hs3 (And.intro hs4 (And.intro hs5 (And.intro R3 LV3)))); clear hs1 hs2 hs3 hs4 hs5 R3 C3 LV3))
              have R4 : Rest w (w3.setCell ⟨gb, x, none⟩ (.bool true)) rb bm bw s.1 s.2.2.1 s.2.2.2 := HX.out.2.2.2.1.mark HT.out HX.out.2.2.2.2 x _
              have LV4 := HX.out.2.2.2.2.mark x
              have SB4 := Lib.hid (show SB w (w3.setCell ⟨gb, x, none⟩ (.bool true)) rb bm bw gb _ _ s.1 s.2.2.1 s.2.2.2 p lv pn (gone.set x true) (updQ Q kq b L) from ⟨R4, HX.out.1, by rw [HX.out.2.1]; exact HS.out.cap, HTAKE.out, LV4⟩)
              have HMS := Lib.hid HX.out.2.2.1
              clear R4 LV4 HX HTAKE d1 d2 d3 HALL HTK HRN
              obtain ⟨gone', hgone'⟩ : ∃ gone', gone' = gone.set x true := ⟨_, rfl⟩
              rw [← hgone'] at SB4 HFAIR
              clear hgone'
              obtain ⟨w4, hw4⟩ : ∃ w4, w4 = w3.setCell ⟨gb, x, none⟩ (.bool true) := ⟨_, rfl⟩
              rw [← hw4] at SB4 ⊢
              clear hw4
              go_loopw [17] (fun x17 wj => ∃ j : Nat, j ≤ p ∧ x17 = .int .i64 j ∧ SB w wj rb bm bw gb (.slice (some ⟨g5, 0, none⟩) p c5) (.slice (some ⟨g6, 0, none⟩) p c6) s.1 s.2.2.1 s.2.2.2 p lv pn gone' (updQ Q kq b L)) (fun x17 _ => 61 - (intOf x17).toNat)
              case atStart => exact ⟨0, by omega, rfl, SB4.out⟩
              case round =>
                obtain ⟨j, hj, rfl, SJ⟩ := hrel
                by_cases hjP : j < p
                · have HSJ := Lib.hid SJ
                  have LVJ := SJ.lv
                  have hjl : j < lv.length := by rw [SJ.lg.ll]; exact hjP
                  have hjp : j < pn.length := by rw [SJ.lg.lp]; exact hjP
                  have hxp : x - 1 < pn.length := by rw [SJ.lg.lp]; omega
                  have hjg : j + 1 < gone'.length := by rw [SJ.lg.lg]; omega
                  have a0 := LVJ.cells.2.2 (j + 1) hjg
                  have a1 := LVJ.cells.1 j hjl
                  have a2 := LVJ.cells.2.1 j hjp
                  have a3 := LVJ.cells.2.1 (x - 1) hxp
                  have hf := HFAIR.out j hjP
                  clear SJ LVJ hjl hjp hxp hjg
                  obtain ⟨gj, hgj⟩ : ∃ gj, gj = gone'.getD (j + 1) false := ⟨_, rfl⟩
                  obtain ⟨lj, hlj⟩ : ∃ lj, lj = lv.getD j 0 := ⟨_, rfl⟩
                  obtain ⟨pj, hpj⟩ : ∃ pj, pj = pn.getD j false := ⟨_, rfl⟩
                  obtain ⟨px, hpx⟩ : ∃ px, px = pn.getD (x - 1) false := ⟨_, rfl⟩
                  rw [← hgj] at a0 hf
                  rw [← hlj] at a1 hf
                  rw [← hpj] at a2 hf
                  rw [← hpx] at a3 hf
                  clear hgj hlj hpj hpx
                  have t0 : (0 : Int) ≤ (j : Int) := by omega
                  have t1 : (j : Int) < (p : Int) := by omega
                  have t2 : IntKind.i64.wrap ((j : Int) + 1) = ((j + 1 : Nat) : Int) := by rw [IntKind.wrap_i64]; omega
                  have t3 : ((j + 1 : Nat) : Int) < 70 := by omega
                  have t4 : (0 : Int) ≤ ((j + 1 : Nat) : Int) := by omega
                  have t5 : IntKind.i64.wrap (x : Int) = (x : Int) := by rw [IntKind.wrap_i64]; omega
                  have t6 : IntKind.i64.wrap ((x : Int) - 1) = ((x - 1 : Nat) : Int) := by rw [IntKind.wrap_i64]; omega
                  cases gj
                  · obtain ⟨f1, f2⟩ := hf rfl
                    have s1 : decide ((lj : Int) < (b : Int)) = false := decide_eq_false (by omega)
                    have s1n : decide (lj < b) = false := decide_eq_false (by omega)
                    by_cases q1 : lj = b
                    · have s2 : ((lj : Int) == (b : Int)) = true := by simp [q1]
                      have s2n : (lj == b) = true := by simp [q1]
                      by_cases q2 : pj = px
                      · have s3 : (pj == px) = true := by simp [q2]
                        have s4 : decide ((j : Int) < ((x - 1 : Nat) : Int)) = false := decide_eq_false (fun hh => f2 ⟨q1, q2, by omega⟩)
                        have s4n : decide (j < x - 1) = false := decide_eq_false (fun hh => f2 ⟨q1, q2, by omega⟩)
                        clear hf f1 f2 q1 q2
                        go_wp2_with fail
                        go_quiet (fail)
                        go_wp2_with fail
                        go_roundw
                        case rel => exact ⟨j + 1, by omega, by go_num, HSJ.out.drewN _⟩
                        case measure => simp [intOf] <;> omega
                      · have s3 : (pj == px) = false := by simp [q2]
                        clear hf f1 f2 q1 q2
                        go_wp2_with fail
                        go_quiet (fail)
                        go_wp2_with fail
                        go_roundw
                        case rel => exact ⟨j + 1, by omega, by go_num, HSJ.out.drewN _⟩
                        case measure => simp [intOf] <;> omega
                    · have s2 : ((lj : Int) == (b : Int)) = false := by simp; omega
                      have s2n : (lj == b) = false := by simp; omega
                      clear hf f1 f2 q1
                      go_wp2_with fail
                      go_quiet (fail)
                      go_wp2_with fail
                      go_roundw
                      case rel => exact ⟨j + 1, by omega, by go_num, HSJ.out.drewN _⟩
                      case measure => simp [intOf] <;> omega
                  · clear hf
                    go_wp2_with fail
                    go_quiet (fail)
                    go_wp2_with fail
                    go_roundw
                    case rel => exact ⟨j + 1, by omega, by go_num, HSJ.out.drewN _⟩
                    case measure => simp [intOf] <;> omega
                · obtain rfl : j = p := by omega
                  have HSJ := Lib.hid SJ
                  clear SJ
                  go_wp2_with fail
                  go_roundw
                  case rel => exact ⟨q - 1, s.1, s.2.2.1, s.2.2.2, gone', updQ Q kq b L, by omega, by go_num, HSJ.out, fun h => by have := HM.out h; have := HMS.out; omega⟩
                  case measure => simp [intOf] <;> omega
            · have HRN := Lib.hid (And.intro hn4 hRun)
              clear hn4 hRun
              go_wp2_with (first
                | (go_at_call 13; refine (HTK.out _ HS.out.rest).mono ?_; rintro e w2 ⟨wb, rfl, G2, C2, q1⟩; have HALL := Lib.hid (whole_run HS.out.rest C2 q1 (by simp) G2 rfl n4 (by have := HRN.out.1; omega) HRN.out.2 (fun s h => h.1)); clear G2 C2 q1)
                | (go_at_call 10; refine HALL.out.mono ?_; rintro e w3 ⟨s, ⟨hs1, hs2, hs3, hs4, hs5⟩, rfl, R3, C3⟩; rw [hs2]; have HX := Lib.hid (And.intro hs3 (And.intro hs4 (And.intro hs5 (And.intro R3 C3)))); clear hs1 hs2 hs3 hs4 hs5 R3 C3))
              go_roundw
              case rel => exact ⟨q - 1, s.1, s.2.2.1, s.2.2.2, gone, Q, by omega, by go_num, ⟨HX.out.2.2.2.1, HX.out.1, by rw [HX.out.2.1]; exact HS.out.cap, HS.out.lg, HS.out.lv.work HS.out.rest HX.out.2.2.2.2⟩, fun h => by have := HM.out h; have := HX.out.2.2.1; omega⟩
              case measure => simp [intOf] <;> omega
          · obtain rfl : q = 0 := by omega
            have HS := Lib.hid S
            clear S
            go_wp2_with fail
            go_roundw
            case rel => exact ⟨p + 1, p, r, M, u, lv, pn, gone, Q, by omega, by go_num, by have := HPP.out; omega, HS.out, fun h => absurd (HM.out (HF.out.2 (by first | trivial | omega))) (by omega)⟩
            case measure => simp [intOf] <;> omega
    · obtain rfl : i = n + 1 := by omega
      obtain rfl : n = p := by omega
      obtain ⟨b8, hempty⟩ := hend rfl
      have HALLG := Lib.hid (fun j (hj : j < n) => S.lg.all hempty hj)
      have HB := Lib.hid (fun (W' : World) (R' : Rest w W' rb bm bw r M u) => best_any rb r W' R'.rk R'.ok R'.tab)
      rw [b8] at HB
      have HS := Lib.hid S
      clear S hend hempty b8 hp hin hi
      go_wp2_with fail
      go_loopw [18] (fun x18 wt => ∃ j : Nat, j ≤ n ∧ x18 = .int .i64 j ∧ SB w wt rb bm bw gb u5 u6 r M u n lv pn gone Q) (fun x18 _ => 61 - (intOf x18).toNat)
      case atStart => exact ⟨0, by omega, rfl, HS.out⟩
      case round =>
        obtain ⟨j, hj, rfl, SJ⟩ := hrel
        by_cases hjn : j < n
        · have hjg : j + 1 < gone.length := by rw [SJ.lg.lg]; omega
          have a0 : wr.cell? ⟨gb, j + 1, none⟩ = some (.bool true) := by rw [Blk.cell SJ.lv.gn]; have h := HALLG.out j hjn; simp [List.getD, hjg] at h ⊢; exact h
          have t1 : (j : Int) < (n : Int) := by omega
          have t2 : IntKind.i64.wrap ((j : Int) + 1) = ((j + 1 : Nat) : Int) := by rw [IntKind.wrap_i64]; omega
          have t3 : ((j + 1 : Nat) : Int) < 70 := by omega
          have t4 : (0 : Int) ≤ ((j + 1 : Nat) : Int) := by omega
          have HSJ := Lib.hid SJ
          clear SJ hjg
          go_wp2_with fail
          go_roundw
          case rel => exact ⟨j + 1, by omega, by go_num, HSJ.out⟩
          case measure => simp [intOf] <;> omega
        · obtain rfl : j = n := by omega
          have HSJ := Lib.hid SJ
          clear SJ
          go_wp2_with (first
            | (go_at_call 14; refine (HB.out _ HSJ.out.rest).mono ?_; rintro e w2 ⟨rfl, C2⟩)
            | (go_at_call 15; refine (awake_any _ (HSJ.out.rest.tab.keep C2)).mono ?_; rintro e w3 ⟨rfl, C3⟩))
          go_ret
          exact ⟨rfl, (HSJ.out.rest.chg.then C2 (by simp)).then C3 (by simp)⟩
end Go.Proofs.YtjdbgohfedjifaaDoor
