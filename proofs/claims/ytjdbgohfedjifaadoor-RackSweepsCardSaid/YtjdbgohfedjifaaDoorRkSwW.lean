/- rack: the walk of RackSweeps. -/
import Derived.Test.YtjdbgohfedjifaaDoorRkSw3
import Derived.Test.YtjdbgohfedjifaaDoorBs
import Derived.BigQuiet
namespace Bosun
open Go
theorem range'_snoc (n : Nat) : List.range' 1 (n + 1) = List.range' 1 n ++ [n + 1] := by
  rw [List.range'_concat]; simp; omega
end Bosun
namespace Go.Proofs.YtjdbgohfedjifaaDoor
open Go.RowKit Bosun
theorem infoU1 : (Tryd.prog.info? 30).map (fun i => (i.zero, i.size, i.bytes)) = some (some (.int .u64 0), 1, 8) := by kernel_rfl
theorem hold8 : holdN 8 = 8 := by kernel_rfl
theorem own_neT {w : World} {b : Nat} {e t : TypeId} {v : Value} {xs : List Value} {g : Nat} {cs : Array Value} (h : Own w b e v xs) (hg : Blk w g cs t) (ht : e ≠ t) : v.ownBlock ≠ some g := by
  rcases h.2 with ⟨rfl, _⟩ | ⟨g', cap, cur, rfl, _, h3, _⟩
  · intro h; cases h
  · intro h
    obtain rfl : g' = g := by simpa [Value.ownBlock] using h
    exact ht (Blk.inj (w := w) h3 hg).2
theorem rb_start8 (M : List Nat) (hM : M = List.replicate 161 0) : RB (newR 0 8) M (fun _ _ => []) 0 := by
  have h0 : ∀ c, cel (newR 0 8) (fun _ _ => []) c = 0 := fun c => by
    unfold cel newR RRack.set
    dsimp only
    simp
  refine ⟨rfl, by decide, fun k l hk hl => ⟨0, ?_, by simp⟩, fun k l _ _ h => absurd rfl h, by unfold msr; simp only [sumTo, h0]; omega⟩
  have hz : ∀ a : Int, getA M a = 0 := fun a => by
    rw [hM]; unfold getA
    split
    · simp only [List.getD, List.getElem?_replicate]; split <;> rfl
    · rfl
  have := bas_end (cap := 8) hk hl
  exact ⟨hz _, by rw [hz]; rfl, fun j hj => absurd hj (by simp), by show 0 ≤ 8; omega, by rw [hM, List.length_replicate]; show bas 8 k l + 2 + 8 ≤ 161; omega, by simp, by show 0 < 8; omega, by show 8 ≤ 256; omega⟩
/-- What holds between two statements of the law. -/
structure SWS (w0 w : World) (rb bm bw cb : Nat) (v v10 : Value) (r : RRack) (M : List Nat) (u k l i : Nat) (good : Nat → Bool) : Prop where
  rest : Rest w0 w rb bm bw r M u
  rB : RB r M (updQ (fun _ _ => []) k l (List.range' 1 i)) i
  cap : r.cap = 8
  box : Blk w cb #[v] 42
  cbl : w0.heap.size ≤ cb
  own : Own w w0.heap.size 30 v10 (words ((List.range' 1 i).filter good))
  ne : v10.ownBlock ≠ some bw
section
variable {w0 w w' : World} {rb bm bw cb : Nat} {v v10 : Value} {r : RRack} {M : List Nat} {u k l i : Nat} {good : Nat → Bool}
theorem SWS.ownWork (h : SWS w0 w rb bm bw cb v v10 r M u k l i good) (C : Chg [rb, bm, bw] w w') : Own w' w0.heap.size 30 v10 (words ((List.range' 1 i).filter good)) ∧ Blk w' cb #[v] 42 := by
  have h1 := h.rest.rk
  have h2 := h.rest.mem.head
  have h3 := h.rest.mem.row
  refine ⟨h.own.chg C fun g hg => ?_, h.box.chg C ?_⟩
  · simp at hg
    rcases hg with rfl | rfl | rfl
    · exact own_neT h.own h1 (by decide)
    · exact own_neT h.own h2 (by decide)
    · exact h.ne
  · simp
    exact ⟨blk_ne h.box h1 (by decide), blk_ne h.box h2 (by decide), blk_ne h.box h3 (by decide)⟩
end
theorem allR_of {r : RRack} {M M' : List Nat} {Q : Nat → Nat → List Nat} {N k l t' : Nat} {L : List Nat} (h : RB r M Q N) (hQ : ∀ k' l', k' < 2 → l' < 8 → ¬ (k' = k ∧ l' = l) → Q k' l' = []) (hk : k < 2) (hl : l < 8) (hE : Else M M' r.base (bas r.cap k l) r.cap) (hS : SQ M' (bas r.cap k l) r.cap t' L) : allR r M' = L := by
  unfold allR
  rw [allTo16_one (c0 := 8 * k + l) (L := L) (fun c hc hne => ?_) ?_ 16 (Nat.le_refl _), if_pos (by omega)]
  · rw [show (8 * k + l) / 8 = k by omega, show (8 * k + l) % 8 = l by omega, bas_at h.base]
    exact allD_sq hS
  · have e : ¬ (c / 8 = k ∧ c % 8 = l) := by omega
    obtain ⟨t, hq, _⟩ := h.q (c / 8) (c % 8) (by omega) (by omega)
    rw [hQ _ _ (by omega) (by omega) e] at hq
    have hp := bas_pos r.cap (c / 8) (c % 8)
    have hq2 := hq.away hE (by rw [h.base]; omega) (by rcases bas_apart (cap := r.cap) hl (show c % 8 < 8 by omega) e with c1 | c1; right; exact c1; left; exact c1)
    rw [bas_at h.base]
    exact allD_sq hq2
theorem bin_fn (a : Option Addr) (w : World) : (binOp .eql 45 (.func (.func 18) #[] #[.pointer a]) .nilFunc).run Tryd.prog w = .ok (.bool false) w := by kernel_rfl
set_option maxRecDepth 8000 in
theorem sure_fn (a : Option Addr) (w : World) : Calls Tryd.prog 37 #[.func (.func 18) #[] #[.pointer a]] w fun e w' => e = .returned (.func (.func 18) #[] #[.pointer a]) ∧ w = w' := by
  go_enter Tryd.func37, Tryd.ntmps37
  go_wp2_with fail
  rw [bin_fn]
  go_wp2_with fail
  go_ret
  exact ⟨rfl, rfl⟩
set_option maxRecDepth 100000 in
set_option maxHeartbeats 16000000 in
theorem rackSweeps_walk (w : World) (hT : TabW w) (lvl : Int) (_hl0 : -9223372036854775808 ≤ lvl) (_hl1 : lvl ≤ 9223372036854775807) (pin : Bool) (ao : Option Addr) (n c : Nat) (hnc : n ≤ c) (D : List Nat) (hv : Reads w (.slice ao n c) (words D)) :
    Calls Tryd.prog 4 #[.int .i64 lvl, .bool pin, .slice ao n c] w fun e w' => e = .returned (.bool true) ∧ Chg [] w w' := by
  obtain ⟨hnD, hnm, hrd⟩ := few_reads hv
  obtain ⟨L, hL⟩ : ∃ L, L = D.take 20 := ⟨_, rfl⟩
  rw [← hL] at hrd
  have HFEW := Lib.hid (few_any ao n c hnc hnm)
  obtain ⟨n20, hn20⟩ : ∃ n20, n20 = min n 20 := ⟨_, rfl⟩
  rw [← hn20] at hrd HFEW
  clear hn20
  have HRD := Lib.hid hrd
  have HT := Lib.hid hT
  clear hT hv hL hrd hnD hnm hnc
  obtain ⟨good, hgood⟩ : ∃ good : Nat → Bool, good = fun x => !decide (x ∈ L) := ⟨_, rfl⟩
  have HGOOD := Lib.hid hgood
  obtain ⟨M0, hM0⟩ : ∃ M0, M0 = List.replicate 161 0 := ⟨_, rfl⟩
  have HNEW := Lib.hid (fun w => new_any (1 + 16 * (2 + (8 : Nat) : Int)) 161 (by omega) w)
  rw [← hM0] at HNEW
  have HRB := Lib.hid (rb_start8 M0 hM0)
  clear hM0 hgood
  go_enter Tryd.func4, Tryd.ntmps4
  go_wp2_with fail
  refine (refwords_any 8 (by omega) (by omega) _).mono ?_
  rw [hold8]
  rintro e w1 ⟨rfl, rfl⟩
  go_wp2_with fail
  refine (HNEW.out w).mono ?_
  rintro e W1 ⟨bm, bw, rfl, M1, C1, l2, l3⟩
  have HX1 := Lib.hid (And.intro M1 (And.intro C1 (And.intro l2 l3)))
  clear M1 C1 l2 l3
  go_wp2_with fail
  refine (rnew_any W1 0 (by omega) (by omega) 8 (by omega) (by omega)).mono ?_
  rw [hold8]
  rintro e W2 ⟨rb, rfl, R2, K2, C2, l1⟩
  have R2' : Rest w W2 rb bm bw (newR 0 8) M0 0 := by
    have := HX1.out.2.1.size
    exact ⟨R2, HX1.out.1.chg C2 (by simp) (by simp), K2, (HT.out.keep HX1.out.2.1).keep C2, HX1.out.2.1.then C2 (by simp), by omega, HX1.out.2.2.1, HX1.out.2.2.2⟩
  have HR2 := Lib.hid R2'
  clear R2' R2 K2 C2 l1 HX1
  go_wp2_with (first
    | (go_at_call 16; refine (HFEW.out _).mono ?_; rintro e w2 ⟨rfl, rfl⟩)
    | fail)
  obtain ⟨k, hk⟩ : ∃ k, k = kOf pin := ⟨_, rfl⟩
  obtain ⟨l, hl⟩ : ∃ l, l = holdL lvl := ⟨_, rfl⟩
  have HKL := Lib.hid (show k = kOf pin ∧ l = holdL lvl ∧ k < 2 ∧ l < 8 from ⟨hk, hl, by rw [hk]; unfold kOf; split <;> omega, by rw [hl]; exact holdL_lt lvl⟩)
  clear hk hl
  have HSW := Lib.hid (show SWS w (W2.alloc (.cells #[.slice ao n20 c] 42)) rb bm bw W2.heap.size (.slice ao n20 c) (.slice none 0 0) (newR 0 8) M0 0 k l 0 good from
    ⟨⟨Blk.alloc HR2.out.rk _, HR2.out.mem.chg ((Chg.refl [] _).alloc _) (by simp) (by simp), HR2.out.ok, HR2.out.tab.keep ((Chg.refl [] _).alloc _), HR2.out.chg.alloc _, HR2.out.l1, HR2.out.l2, HR2.out.l3⟩,
      by rw [show updQ (fun _ _ => []) k l (List.range' 1 0) = fun _ _ => [] from by funext a b; unfold updQ; split <;> rfl]; exact HRB.out, rfl, Blk.new _ _ _, HR2.out.chg.size, by simpa [words] using Own.nil _ _ _, by intro h; cases h⟩)
  obtain ⟨cb, hcb⟩ : ∃ cb, cb = W2.heap.size := ⟨_, rfl⟩
  obtain ⟨w3, hw3⟩ : ∃ w3, w3 = W2.alloc (.cells #[.slice ao n20 c] 42) := ⟨_, rfl⟩
  rw [← hcb, ← hw3] at HSW
  rw [← hcb, ← hw3]
  clear hcb hw3 HR2 HRB HNEW HFEW
  go_loopw [10, 11] (fun x10 x11 wr => ∃ (j : Nat) (r : RRack) (M : List Nat) (u : Nat), 1 ≤ j ∧ j ≤ 9 ∧ x11 = .int .u64 (j : Nat) ∧ SWS w wr rb bm bw cb (.slice ao n20 c) x10 r M u k l (j - 1) good) (fun _ x11 _ => 9 - (intOf x11).toNat)
  case atStart => exact ⟨1, _, _, _, by omega, by omega, rfl, HSW.out⟩
  case round =>
    obtain ⟨j, r, M, u, hj1, hj9, rfl, S⟩ := hrel
    by_cases hj8 : j ≤ 8
    · have hj8i : (j : Int) ≤ 8 := by omega
      have hw1 : IntKind.u64.wrap ((j : Int) + 1) = ((j + 1 : Nat) : Int) := by rw [IntKind.wrap_u64]; omega
      have HS := Lib.hid S
      clear S
      have HPUT := Lib.hid (rput_any wr rb bm bw r M u HS.out.rest.rk HS.out.rest.mem HS.out.rest.ok j (by omega) lvl pin .nilFunc _ _ sure_nil)
      rw [← HKL.out.2.1] at HPUT
      obtain ⟨n5, hn5, hRun⟩ := rb_put HS.out.rB gT u j HKL.out.2.2.1 HKL.out.2.2.2 (by rw [HS.out.cap]; omega) (by rw [HS.out.cap]; omega)
      rw [updQ_same, show updQ (updQ (fun _ _ => []) k l (List.range' 1 (j - 1))) k l (List.range' 1 (j - 1) ++ [j]) = updQ (fun _ _ => []) k l (List.range' 1 j) from by
        funext a b; unfold updQ; split
        · have := range'_snoc (j - 1); rw [show j - 1 + 1 = j by omega] at this; exact this.symm
        · rfl, show j - 1 + 1 = j by omega] at hRun
      have HRUN := Lib.hid (And.intro hn5 (show Run gT n5 (r, putW r j l pin, M, u) _ from by unfold putW; rw [show (if pin = true then 1 else 0) = k from HKL.out.1.symm]; exact hRun))
      clear hn5 hRun
      have hfil : (List.range' 1 j).filter good = (List.range' 1 (j - 1)).filter good ++ (if decide (j ∈ L) = true then [] else [j]) := by
        have := range'_snoc (j - 1)
        rw [show j - 1 + 1 = j by omega] at this
        rw [this, List.filter_append, HGOOD.out]
        by_cases hm : j ∈ L <;> simp [hm]
      have HFIL := Lib.hid hfil
      have HIN := Lib.hid (fun (W' : World) (C : Chg [] w W') => in_any (.slice ao n20 c) L j W' (HRD.out.keep C))
      obtain ⟨b, hb⟩ : ∃ b, b = decide (j ∈ L) := ⟨_, rfl⟩
      rw [← hb] at HFIL HIN
      have HLEN := Lib.hid (show ((List.range' 1 (j - 1)).filter good).length ≤ 8 by have := List.length_filter_le good (List.range' 1 (j - 1)); simp at this; omega)
      clear hb hfil hj1 hj9
      have FINI : ∀ (W4 : World) (s : RS) (v' : Value), s.1 = r.put k (put (r.set k) l true) → RB s.1 s.2.2.1 (updQ (fun _ _ => []) k l (List.range' 1 j)) j → Rest w W4 rb bm bw s.1 s.2.2.1 s.2.2.2 → Blk W4 cb #[.slice ao n20 c] 42 → Own W4 w.heap.size 30 v' (words ((List.range' 1 j).filter good)) → v'.ownBlock ≠ some bw → SWS w W4 rb bm bw cb (.slice ao n20 c) v' s.1 s.2.2.1 s.2.2.2 k l (j + 1 - 1) good := by
        intro W4 s v' h1 h2 h3 h4 h5 h6
        rw [Nat.add_sub_cancel]
        exact ⟨h3, h2, by rw [h1, (put_rest _ _ _).2.1]; exact HS.out.cap, h4, HS.out.cbl, h5, h6⟩
      have HFINI := Lib.hid FINI
      clear FINI
      cases b with
      | true =>
        go_wp2_with (first
          | (go_at_call 11; refine HPUT.out.mono ?_; rintro e w4 ⟨wb, gg, rfl, G2, C2, q1, q2⟩; have HALL := Lib.hid (whole_run HS.out.rest C2 q1 (by simp; exact q2) G2 rfl n5 (by have := HRUN.out.1; omega) HRUN.out.2 (fun s h => h.2.1)); clear G2 C2 q1 q2)
          | (go_at_call 10; refine HALL.out.mono ?_; rintro e w5 ⟨s, ⟨hs1, hs2, hs3, hs4⟩, rfl, R5, C5⟩; obtain ⟨O5, B5⟩ := HS.out.ownWork C5; have k9 : w5.cell? ⟨cb, 0, none⟩ = some (.slice ao n20 c) := B5.cell 0; rw [hs3]; have HX := Lib.hid (And.intro hs1 (And.intro hs4 (And.intro R5 (And.intro B5 O5)))); clear hs1 hs2 hs3 hs4 R5 C5 B5 O5)
          | (go_at_call 17; refine (HIN.out _ HX.out.2.2.1.chg).mono ?_; rintro e w6 ⟨rfl, rfl⟩)
          | fail)
        go_roundw
        case rel => exact ⟨j + 1, s.1, s.2.2.1, s.2.2.2, by omega, by omega, by go_num, HFINI.out _ s _ HX.out.1 HX.out.2.1 HX.out.2.2.1 HX.out.2.2.2.1 (by rw [HFIL.out]; simpa using HX.out.2.2.2.2) HS.out.ne⟩
        case measure => simp [intOf] <;> omega
      | false =>
        go_wp2_with (first
          | (go_at_call 11; refine HPUT.out.mono ?_; rintro e w4 ⟨wb, gg, rfl, G2, C2, q1, q2⟩; have HALL := Lib.hid (whole_run HS.out.rest C2 q1 (by simp; exact q2) G2 rfl n5 (by have := HRUN.out.1; omega) HRUN.out.2 (fun s h => h.2.1)); clear G2 C2 q1 q2)
          | (go_at_call 10; refine HALL.out.mono ?_; rintro e w5 ⟨s, ⟨hs1, hs2, hs3, hs4⟩, rfl, R5, C5⟩; obtain ⟨O5, B5⟩ := HS.out.ownWork C5; have k9 : w5.cell? ⟨cb, 0, none⟩ = some (.slice ao n20 c) := B5.cell 0; rw [hs3]; have HX := Lib.hid (And.intro hs1 (And.intro hs4 (And.intro R5 (And.intro B5 O5)))); clear hs1 hs2 hs3 hs4 R5 C5 B5 O5)
          | (go_at_call 17; refine (HIN.out _ HX.out.2.2.1.chg).mono ?_; rintro e w6 ⟨rfl, rfl⟩)
          | (refine wpList_app1_at rfl (.tmp 45) (.tmp 47) 42 rfl w.heap.size 30 (.int .u64 0) 8 Tryd.underlying42 infoU1 rfl _ _ rfl (HX.out.2.2.2.2.alloc _) w5.heap.size 1 (.int .u64 (j : Nat)) rfl ((Blk.new w5 #[.int .u64 (j : Nat)] 30).cell 0) rfl (by rw [words_len]; have := HLEN.out; unfold maxLen; omega) (by rw [words_len]; have := HLEN.out; omega) (by have := HX.out.2.2.1.chg.size; simp; omega) ?_; intro v' w7 O7 C7 e7)
          | fail)
        have C57 : Chg u10.ownBlock.toList w5 w7 := ((Chg.refl [] w5).alloc _).weak.then C7 (fun g hg => .inl hg)
        have hw0 := HX.out.2.2.1.pos HT.out
        have R7 : Rest w w7 rb bm bw s.1 s.2.2.1 s.2.2.2 := HX.out.2.2.1.off C57 (fun g hg => by
          have h1 := (HX.out.2.2.2.2.block g hg).1
          refine ⟨h1, ?_, ?_, ?_⟩
          · rintro rfl; exact own_neT HX.out.2.2.2.2 HX.out.2.2.1.rk (by decide) (by simpa using hg)
          · rintro rfl; exact own_neT HX.out.2.2.2.2 HX.out.2.2.1.mem.head (by decide) (by simpa using hg)
          · rintro rfl; exact HS.out.ne (by simpa using hg)) (fun h0 => by have := (HX.out.2.2.2.2.block 0 h0).1; omega)
        have B7 : Blk w7 cb #[.slice ao n20 c] 42 := HX.out.2.2.2.1.chg C57 (fun hg => own_neT HX.out.2.2.2.2 HX.out.2.2.2.1 (by decide) (by simpa using hg))
        have hlt := Blk.lt HX.out.2.2.1.mem.row
        have N7 : v'.ownBlock ≠ some bw := by
          rcases e7 with e | e
          · rw [e]; exact HS.out.ne
          · rw [e]; intro hx; simp at hx; omega
        have HY := Lib.hid (HFINI.out _ s _ HX.out.1 HX.out.2.1 R7 B7 (by rw [HFIL.out]; simpa [words] using O7) N7)
        clear C57 R7 B7 N7 e7 O7 C7 hlt hw0
        go_roundw
        case rel => exact ⟨j + 1, s.1, s.2.2.1, s.2.2.2, by omega, by omega, by go_num, HY.out⟩
        case measure => simp [intOf] <;> omega
    · obtain rfl : j = 9 := by omega
      have HS := Lib.hid S
      clear S
      rw [show ((9 : Nat) : Int) = 9 from rfl]
      have HPUT := Lib.hid (rput_any wr rb bm bw r M u HS.out.rest.rk HS.out.rest.mem HS.out.rest.ok 9 (by omega) lvl pin (.func (.func 18) #[] #[.pointer (some ⟨cb, 0, none⟩)]) _ _ (fun w => sure_fn (some ⟨cb, 0, none⟩) w))
      rw [← HKL.out.2.1, show ((9 : Nat) : Int) = 9 from rfl] at HPUT
      obtain ⟨t, hq, ht⟩ := HS.out.rB.q k l HKL.out.2.2.1 HKL.out.2.2.2
      rw [updQ_same] at hq ht
      have hbit := HS.out.rB.s k l HKL.out.2.2.1 HKL.out.2.2.2 (by rw [updQ_same]; simp)
      have hsl : r.set k < 18446744073709551616 := by unfold RRack.set; split; exact HS.out.rest.ok.s0; exact HS.out.rest.ok.s1
      obtain ⟨m, hm, hRun⟩ := put_full good (x := 9) (k := k) (l := l) u (bas_at HS.out.rB.base k l) hq (by simp; exact HS.out.cap.symm) (by simp; simp at ht; omega) (by omega) (fun y hy => by simp at hy; omega) hbit hsl (by have := HKL.out.2.2.2; omega) HKL.out.2.2.1
      have HRUN := Lib.hid (And.intro hm (show RunF good m (r, putW r 9 l pin, M, u) _ from by unfold putW; rw [show (if pin = true then 1 else 0) = k from HKL.out.1.symm, bas_at HS.out.rB.base k l]; exact hRun))
      clear hm hRun hbit hsl hq ht
      have HGF := Lib.hid (fun (W' : World) (wb : Nat) (S : List Nat) (W4 : World) (C1 : Chg [] wr W4) (hwb : wr.heap.size ≤ wb) (hcb : wb ≠ cb) (B : Blk W' cb #[.slice ao n20 c] 42) (C : Chg S W4 W') (hS : ∀ g ∈ S, w.heap.size ≤ g) =>
        show GoodF W' wb (.func (.func 18) #[] #[.pointer (some ⟨cb, 0, none⟩)]) good from by
          rw [HGOOD.out]
          exact goodF_sw B (Ne.symm hcb) (fun W1 CC => HRD.out.keep (((HS.out.rest.chg.then C1 (by simp)).then C (fun g hg => .inr (hS g hg))).then CC (fun g hg => .inr (by simp at hg; subst hg; have := HS.out.rest.chg.size; omega)))))
      have hlen8 := List.length_filter_le good (List.range' 1 8)
      rw [List.length_range'] at hlen8
      have HQ0 := Lib.hid (fun k' l' (_ : k' < 2) (_ : l' < 8) (h : ¬ (k' = k ∧ l' = l)) => show updQ (fun _ _ => []) k l (List.range' 1 (9 - 1)) k' l' = [] from updQ_other _ _ h)
      obtain ⟨F, hF⟩ : ∃ F, F = (List.range' 1 8).filter good := ⟨_, rfl⟩
      rw [show (9 : Nat) - 1 = 8 from rfl] at HS HQ0
      have HOW := Lib.hid (fun (W' : World) (C : Chg [rb, bm, bw] wr W') => HS.out.ownWork C)
      rw [← hF] at HRUN hlen8 HOW
      have HFF := Lib.hid hF
      have HFB := Lib.hid (show ∀ z ∈ F, z < 18446744073709551616 by rw [hF]; intro z hz; have := (List.mem_filter.1 hz).1; simp at this; omega)
      clear hF
      have hcb2 : cb < wr.heap.size := Blk.lt HS.out.box
      have HCB := Lib.hid hcb2
      clear hcb2
      have HPOST := Lib.hid (fun (s : RS) (L : List Nat) (t' : Nat) (h1 : s.1 = r) (hE : Else M s.2.2.1 r.base (bas r.cap k l) r.cap) (hS : SQ s.2.2.1 (bas r.cap k l) r.cap t' L) => show allR s.1 s.2.2.1 = L from by
        rw [h1]; exact allR_of HS.out.rB HQ0.out HKL.out.2.2.1 HKL.out.2.2.2 hE hS)
      obtain ⟨ao2, cp2, hv10, _, _⟩ := HS.out.own.reads
      have hv10' : u10 = .slice ao2 F.length cp2 := by rw [hv10, words_len, ← HFF.out]
      clear hv10
      subst hv10'
      have HGG := Lib.hid (fun (w4 : World) (wb gg : Nat) (C4 : Chg [] wr w4) (q1 : wr.heap.size ≤ wb) (q2 : wr.heap.size ≤ gg) (G4 : Rig w4 wb rb bm bw (.func (.func 18) #[] #[.pointer (some ⟨cb, 0, none⟩)]) (some gg) r (putW r 9 l pin) M u) (W' : World) (C : Chg (wb :: rb :: bm :: bw :: (some gg).toList) w4 W') =>
        HGF.out W' wb _ w4 C4 q1 (by have := HCB.out; omega) ((HS.out.box.chg C4 (by simp)).chg C (by
          have hb := HS.out.box.chg C4 (by simp)
          simp only [List.mem_cons, not_or, Option.toList_some, List.not_mem_nil, not_false_iff, and_true]
          exact ⟨by have := HCB.out; omega, blk_ne hb G4.rk (by decide), blk_ne hb G4.mem.head (by decide), blk_ne hb G4.mem.row (by decide), by have := HCB.out; omega⟩)) C (by
          have h0 := HS.out.rest.chg.size
          intro g hg
          simp only [List.mem_cons, Option.toList_some, List.not_mem_nil, or_false] at hg
          rcases hg with rfl | rfl | rfl | rfl | rfl
          · omega
          · exact HS.out.rest.l1
          · exact HS.out.rest.l2
          · exact HS.out.rest.l3
          · omega))
      have HWB := Lib.hid (fun (W' : World) (R' : Rest w W' rb bm bw r M u) => R'.tab)
      by_cases hq : F.length < 8
      · have HQ := Lib.hid hq
        have e8 : ((F.length : Int) == 8) = false := by simp; omega
        have HF8 := Lib.hid hlen8
        clear hq hlen8
        go_wp2_with (first
          | (go_at_call 11; refine HPUT.out.mono ?_; rintro e w4 ⟨wb, gg, rfl, G4, C4, q1, q2⟩; have HALL := Lib.hid (whole_runF HS.out.rest C4 q1 (by simp; exact q2) G4 rfl m (by have := HRUN.out.1; omega) HRUN.out.2 (fun s h => by obtain ⟨_, _, h, _⟩ := h; exact h) (HGG.out w4 wb gg C4 q1 q2 G4)); clear G4 C4 q1 q2)
          | (go_at_call 10; refine HALL.out.mono ?_; rintro e w5 ⟨s, ⟨t', hs1, hs2, hE, ha, _⟩, rfl, R5, C5⟩; obtain ⟨hr, hS⟩ := ha (by rw [HS.out.cap]; exact HQ.out); obtain ⟨O5, B5⟩ := HOW.out w5 C5; have hall := HPOST.out s _ t' hs1 hE hS; rw [hr]; have HX := Lib.hid (And.intro hall (And.intro R5 O5)); clear hs1 hs2 hE ha hr hS hall R5 C5 B5 O5)
          | (refine wpList_app1_at rfl (.tmp 84) (.tmp 85) 42 rfl w.heap.size 30 (.int .u64 0) 8 Tryd.underlying42 infoU1 rfl _ _ rfl (HX.out.2.2.alloc _) w5.heap.size 1 (.int .u64 (9 : Nat)) rfl ((Blk.new w5 #[.int .u64 (9 : Nat)] 30).cell 0) rfl (by rw [words_len]; have := HF8.out; unfold maxLen; omega) (by rw [words_len]; have := HF8.out; omega) (by have := HX.out.2.1.chg.size; simp; omega) ?_; intro v' w7 O7 C7 e7)
          | fail)
        have C57 : Chg (Value.slice ao2 F.length cp2).ownBlock.toList w5 w7 := ((Chg.refl [] w5).alloc _).weak.then C7 (fun g hg => .inl hg)
        have hw0 := HX.out.2.1.pos HT.out
        have R7 : Rest w w7 rb bm bw s.1 s.2.2.1 s.2.2.2 := HX.out.2.1.off C57 (fun g hg => by
          have h1 := (HX.out.2.2.block g hg).1
          refine ⟨h1, ?_, ?_, ?_⟩
          · rintro rfl; exact own_neT HX.out.2.2 HX.out.2.1.rk (by decide) (by simpa using hg)
          · rintro rfl; exact own_neT HX.out.2.2 HX.out.2.1.mem.head (by decide) (by simpa using hg)
          · rintro rfl; exact HS.out.ne (by simpa using hg)) (fun h0 => by have := (HX.out.2.2.block 0 h0).1; omega)
        have HR7 := Lib.hid R7
        have HO7 := Lib.hid (show Own w7 w.heap.size 30 v' (words (F ++ [9])) from by simpa [words] using O7)
        have HAX := Lib.hid HX.out.1
        clear C57 R7 hw0 e7 O7 C7 HX HPUT HRUN HGF HGG HPOST
        have HRA := Lib.hid (rackall_any w7 rb bm bw s.1 s.2.2.1 s.2.2.2 HR7.out.rk HR7.out.mem HR7.out.ok)
        rw [HAX.out] at HRA
        have HHOLD := Lib.hid (fun w => rhold5_any lvl w)
        rw [← HKL.out.2.1] at HHOLD
        have e9 : ((9 : Nat) : Int) = 9 := rfl
        have hll : ((l : Int) == (l : Int)) = true := by simp
        go_wp2_with (first
          | (go_at_call 12; refine (HHOLD.out _).mono ?_; rintro e w8 ⟨rfl, rfl⟩)
          | (go_at_call 20; refine HRA.out.mono ?_; rintro e w9 ⟨va, rfl, O9, C9⟩; have HSAME := Lib.hid (msame_any va v' (F ++ [9]) (F ++ [9]) w9 O9.reads (HO7.out.keep C9).reads); rw [decide_eq_true rfl] at HSAME; have HC9 := Lib.hid C9; clear O9 C9)
          | (go_at_call 19; refine HSAME.out.mono ?_; rintro e w10 ⟨rfl, C10⟩)
          | (go_at_call 15; refine (awake_any _ ((HR7.out.tab.keep HC9.out).keep C10)).mono ?_; rintro e w11 ⟨rfl, C11⟩)
          | fail)
        go_ret
        exact ⟨rfl, ((HR7.out.chg.then HC9.out (by simp)).then C10 (by simp)).then C11 (by simp)⟩
      · have HQ := Lib.hid hq
        have e8 : ((F.length : Int) == 8) = true := by simp; omega
        clear hq hlen8
        go_wp2_with (first
          | (go_at_call 11; refine HPUT.out.mono ?_; rintro e w4 ⟨wb, gg, rfl, G4, C4, q1, q2⟩; have HALL := Lib.hid (whole_runF HS.out.rest C4 q1 (by simp; exact q2) G4 rfl m (by have := HRUN.out.1; omega) HRUN.out.2 (fun s h => by obtain ⟨_, _, h, _⟩ := h; exact h) (HGG.out w4 wb gg C4 q1 q2 G4)); clear G4 C4 q1 q2)
          | (go_at_call 10; refine HALL.out.mono ?_; rintro e w5 ⟨s, ⟨t', hs1, hs2, hE, _, ha⟩, rfl, R5, C5⟩; obtain ⟨hr, hS⟩ := ha (by rw [HS.out.cap]; exact HQ.out); obtain ⟨O5, B5⟩ := HOW.out w5 C5; have hall := HPOST.out s _ t' hs1 hE hS; rw [hr]; have HRA := Lib.hid (rackall_any w5 rb bm bw s.1 s.2.2.1 s.2.2.2 R5.rk R5.mem R5.ok); rw [hall] at HRA; have HX := Lib.hid (And.intro R5 O5); clear hs1 hs2 hE ha hr hS hall R5 C5 B5 O5)
          | (go_at_call 20; refine HRA.out.mono ?_; rintro e w9 ⟨va, rfl, O9, C9⟩; have HSAME := Lib.hid (msame_any va _ F F w9 O9.reads (HX.out.2.keep C9).reads); rw [decide_eq_true rfl] at HSAME; have HC9 := Lib.hid C9; clear O9 C9)
          | (go_at_call 19; refine HSAME.out.mono ?_; rintro e w10 ⟨rfl, C10⟩)
          | (go_at_call 15; refine (awake_any _ ((HX.out.1.tab.keep HC9.out).keep C10)).mono ?_; rintro e w11 ⟨rfl, C11⟩)
          | fail)
        go_ret
        exact ⟨rfl, ((HX.out.1.chg.then HC9.out (by simp)).then C10 (by simp)).then C11 (by simp)⟩
end Go.Proofs.YtjdbgohfedjifaaDoor
