/- rack: the walk of RackOnce. -/
import Derived.Test.YtjdbgohfedjifaaDoorRkOg
import Derived.Test.YtjdbgohfedjifaaDoorRkW
import Derived.Deep.DeepCutAuto
import Derived.Deep.RegionWith
import Derived.BigQuiet
namespace Go.Proofs.YtjdbgohfedjifaaDoor
open Go.RowKit Bosun
theorem infoWk : (Tryd.prog.info? 34).map (fun i => (i.zero, i.size, i.bytes)) = some (some (.pointer none), 1, 8) := by kernel_rfl
theorem infoInt3 : (Tryd.prog.info? 3).map (fun i => (i.zero, i.size, i.bytes)) = some (some (.int .i64 0), 1, 8) := by kernel_rfl
theorem cell_keep0 {w w' : World} {a : Addr} {v : Value} (h : Chg [] w w') (ha : w.cell? a = some v) : w'.cell? a = some v := by
  rw [World.cell?_of_block (w := w) (h.block a.block (World.block_lt_of_cell? w _ ha) (by simp)), ha]
theorem LO.begins {cap : Nat} {r : RRack} {M : List Nat} {ws : Nat → Option RWork} {sg : Nat → Nat} {nx : Nat} {pt : Bool} {i : Nat} (h : LO cap r M ws sg nx pt i) {k : Nat} (_hk : k < 4) (hf : k = 0 → Free0 ws) (hi : i < 1000) (name : Nat) (lvl : Int) (pin : Bool) :
    LO cap r M (updW ws k (beginW r k name nx lvl pin)) (if (decide (k = 0) && (if k = 0 then decide (name % 4 < 2) else pt)) = true then updS sg nx 1 else sg) (if (decide (k = 0) && (if k = 0 then decide (name % 4 < 2) else pt)) = true then nx + 1 else nx) (if k = 0 then decide (name % 4 < 2) else pt) (i + 1) := by
  by_cases k0 : k = 0
  · subst k0
    rw [if_pos rfl]
    by_cases h2 : name % 4 = 2
    · have e : beginW r 0 name nx lvl pin = takeW := by unfold beginW; rw [if_pos ⟨rfl, h2⟩]
      have e2 : decide (name % 4 < 2) = false := decide_eq_false (by omega)
      rw [e, e2]
      exact h.begin_take (hf rfl)
    · by_cases h3 : name % 4 = 3
      · have e : beginW r 0 name nx lvl pin = shedW := by unfold beginW; rw [if_neg (by omega), if_pos ⟨rfl, h3⟩]
        have e2 : decide (name % 4 < 2) = false := decide_eq_false (by omega)
        rw [e, e2]
        exact h.begin_shed (hf rfl)
      · have e : beginW r 0 name nx lvl pin = putW r nx (holdL lvl) pin := by unfold beginW; rw [if_neg (by omega), if_neg (by omega), if_neg (by omega)]
        have e2 : decide (name % 4 < 2) = true := decide_eq_true (by omega)
        rw [e, e2]
        exact h.begin_put (hf rfl) pin (holdL_lt lvl) hi
  · have e : beginW r k name nx lvl pin = robW := by unfold beginW; rw [if_neg (by omega), if_neg (by omega), if_pos (by omega)]
    rw [e, if_neg k0, decide_eq_false k0]
    exact h.begin_rob (by omega)
theorem beginW_ne (r : RRack) (k name x : Nat) (lvl : Int) (pin : Bool) : NE (beginW r k name x lvl pin) ∧ (beginW r k name x lvl pin).steps = 0 := by
  unfold beginW
  have N0 : (0 : Int) ≠ 14 := by decide
  split
  · exact ⟨⟨N0, fun o h => by cases h⟩, rfl⟩
  · split
    · exact ⟨⟨N0, fun o h => by cases h⟩, rfl⟩
    · split
      · exact ⟨⟨N0, fun o h => by cases h⟩, rfl⟩
      · exact ⟨⟨N0, fun o h => by cases h; exact N0⟩, rfl⟩
theorem LO.stepsU {cap : Nat} {r : RRack} {M : List Nat} {ws : Nat → Option RWork} {sg : Nat → Nat} {nx : Nat} {pt : Bool} {i : Nat} (h : LO cap r M ws sg nx pt i) (hi : i < 1000) {k : Nat} (hk : k < 4) {w : RWork} (hw : ws k = some w) (hd : w.done = false) (u : Nat) (q : Bool) (hq : q = (decide (k = 0) && pt)) (S : RRack × RWork × List Nat × Nat) (hS : S = stepR gT r w M u) :
    LO cap S.1 S.2.2.1 (updW ws k S.2.1) (goesF sg (if q = true then nx - 1 else (resR S.2.1).1) (resR S.2.1).2.2 q) nx pt (i + 1) ∧ Tells sg nx (if q = true then nx - 1 else (resR S.2.1).1) (resR S.2.1).2.2 q := by
  subst hS
  by_cases k0 : k = 0
  · subst k0
    obtain rfl : q = pt := by rw [hq]; rfl
    obtain ⟨l1, l2, _⟩ := LO.owner h (by omega) hw hd gT (fun _ => rfl) u
    exact ⟨l1, l2⟩
  · obtain rfl : q = false := by rw [hq, decide_eq_false k0]; rfl
    obtain ⟨e, l1, l2⟩ := LO.thief h hi (by omega) hk hw hd gT (fun _ => rfl) u
    rw [e]
    refine ⟨l1, fun hn => l2 ?_⟩
    apply Classical.byContradiction
    intro h0
    exact hn (.inr (.inr ⟨rfl, h0⟩))
theorem LO.fitsU {cap : Nat} {r : RRack} {M : List Nat} {ws : Nat → Option RWork} {sg : Nat → Nat} {nx : Nat} {pt : Bool} {i : Nat} (h : LO cap r M ws sg nx pt i) {k : Nat} (hk : k < 4) {w : RWork} (hw : ws k = some w) (hd : w.done = false) : Fit w ∧ (Asks w → k = 0 → pt = true) := by
  by_cases k0 : k = 0
  · subst k0
    obtain ⟨a, b⟩ := LO.fit0 h hw hd
    exact ⟨a, fun ha _ => b ha⟩
  · exact ⟨LO.fitJ h (by omega) hk hw hd, fun _ e => absurd e k0⟩
/-- What is left, when the law looks at it. -/
structure Fin1 (w0 W : World) (rb bm bw sb : Nat) (r : RRack) (M : List Nat) (u : Nat) (sg : Nat → Nat) (nx : Nat) : Prop where
  rest : Rest w0 W rb bm bw r M u
  st : Blk W sb (stS sg) 3
  ls : w0.heap.size ≤ sb
  nd : (allTo16 r M 16).Nodup
  mem : ∀ y, y ∈ allTo16 r M 16 ↔ sg y = 1
  rng : ∀ y, sg y = 1 → 1 ≤ y ∧ y < nx
  n3 : nx ≤ 300
theorem own_ne3 {w : World} {b : Nat} {e t : TypeId} {v : Value} {xs : List Value} {g : Nat} {cs : Array Value} (h : Bosun.Own w b e v xs) (hg : Blk w g cs t) (ht : e ≠ t) : v.ownBlock ≠ some g := by
  rcases h.2 with ⟨rfl, _⟩ | ⟨g', cap, cur, rfl, _, h3, _⟩
  · intro h; cases h
  · intro h
    obtain rfl : g' = g := by simpa [Value.ownBlock] using h
    exact ht (Blk.inj (w := w) h3 hg).2
/-- What the law looks at, a word after the other. -/
structure Fin2 (w0 W : World) (rb bm bw sb : Nat) (r : RRack) (M : List Nat) (u : Nat) (sg : Nat → Nat) (v : Value) (L : List Nat) (lo : Nat) : Prop where
  rest : Rest w0 W rb bm bw r M u
  st : Blk W sb (stS sg) 3
  ls : w0.heap.size ≤ sb
  own : Bosun.Own W lo 30 v (words L)
theorem Fin2.mark {w0 W : World} {rb bm bw sb : Nat} {r : RRack} {M : List Nat} {u : Nat} {sg : Nat → Nat} {v : Value} {L : List Nat} {lo : Nat} (h : Fin2 w0 W rb bm bw sb r M u sg v L lo) (hT : TabW w0) (y : Nat) : Fin2 w0 (W.setCell ⟨sb, y, none⟩ (.int .i64 3)) rb bm bw sb r M u (updS sg y 3) v L lo := by
  have h0 : 0 < w0.heap.size := World.block_lt_of_cell? _ _ (hT 0 (by decide))
  have C : Chg [sb] W (W.setCell ⟨sb, y, none⟩ (.int .i64 3)) := (Chg.refl _ _).setCell (.inl (by simp)) _
  have ls := h.ls
  have a1 : sb ≠ rb := blk_ne h.st h.rest.rk (by decide)
  have a2 : sb ≠ bm := blk_ne h.st h.rest.mem.head (by decide)
  have a3 : sb ≠ bw := blk_ne h.st h.rest.mem.row (by decide)
  refine ⟨h.rest.away C (fun g hg => by simp at hg; subst hg; exact ⟨ls, a1, a2, a3⟩) (by simp; omega), ?_, h.ls, h.own.chg C (fun g hg => by simp at hg; subst hg; exact own_ne3 h.own h.st (by decide))⟩
  have := h.st.setCell y (.int .i64 (3 : Nat))
  rw [stS_set] at this
  exact this
theorem mark_free {sg : Nat → Nat} {L : List Nat} (hm : ∀ y, y ∈ L ↔ sg y = 1) (y : Nat) : markL sg L y ≠ 1 := by
  rw [markL_get]
  split
  · omega
  · rename_i h; exact fun e => h ((hm y).2 e)
theorem mark_next {sg : Nat → Nat} {L : List Nat} (hn : L.Nodup) {j : Nat} (hj : j < L.length) (hs : sg L[j] = 1) : markL sg (L.take j) L[j] = 1 ∧ updS (markL sg (L.take j)) L[j] 3 = markL sg (L.take (j + 1)) := by
  refine ⟨?_, ?_⟩
  · rw [markL_get, if_neg, hs]
    intro hm
    obtain ⟨i, hi, e⟩ := List.getElem_of_mem hm
    rw [List.getElem_take] at e
    rw [List.length_take] at hi
    have := (List.getElem_inj (h₀ := by omega) (h₁ := hj) hn).1 e
    omega
  · rw [List.take_succ_eq_append_getElem hj, markL_app]
set_option maxRecDepth 100000 in
set_option maxHeartbeats 16000000 in
theorem rackOnce_walk (w : World) (hT : TabW w) (cp : Int) (h0 : -9223372036854775808 ≤ cp) (h1 : cp ≤ 9223372036854775807) (v : Value) (rows : List (List Value)) (hr : ∀ r ∈ rows, ActRow w r) (hv : ReadsS w v 6 rows) :
    Calls Tryd.prog 5 #[.int .i64 cp, v] w fun e w' => e = .returned (.bool true) ∧ Chg [] w w' := by
  obtain ⟨ao, cpp, rfl, hm, hcell⟩ := hv
  unfold maxLen at hm
  have HCELL := Lib.hid hcell
  have HR := Lib.hid hr
  have HT := Lib.hid hT
  clear hcell hr hT
  go_enter Tryd.func5, Tryd.ntmps5
  go_upto_if 25 with (fail)
  go_cut [0] (fun s wx => ∃ c : Int, -9223372036854775808 ≤ c ∧ c ≤ 4 ∧ s = .int .i64 c ∧ w = wx)
  case first =>
    as_aux_lemma =>
    by_cases hc : 4 < cp
    · go_wp2_with fail
      go_meet
      exact ⟨1 + cp % 4, by omega, by omega, rfl, rfl⟩
    · go_wp2_with fail
      go_meet
      exact ⟨cp, h0, by omega, rfl, rfl⟩
  case rest =>
  obtain ⟨c, hc0, hc1, rfl, hwx⟩ := hcut
  subst hwx
  clear h0 h1
  have hp2 := holdN_pow2 c
  have HNEWR := Lib.hid (fun W => rknew_any W 0 (by omega) (by omega) c hc0 (by omega))
  have HRW := Lib.hid (fun W => refwords_any c hc0 (by omega) W)
  obtain ⟨cap, hcap⟩ : ∃ cap, cap = holdN c := ⟨_, rfl⟩
  rw [← hcap] at hp2 HNEWR HRW
  have hle := hp2.le
  have HNEW := Lib.hid (fun W => new_any (1 + 16 * (2 + (cap : Nat) : Int)) (1 + 16 * (2 + cap)) (by omega) W)
  have HSTART := Lib.hid (LO.start hp2)
  obtain ⟨M0, hM0⟩ : ∃ M0, M0 = List.replicate (1 + 16 * (2 + cap)) 0 := ⟨_, rfl⟩
  rw [← hM0] at HNEW HSTART
  clear hM0 hcap hp2 hc0 hc1
  go_wp2_with fail
  refine (HRW.out _).mono ?_
  rintro e w1 ⟨rfl, rfl⟩
  go_wp2_with fail
  refine (HNEW.out w).mono ?_
  rintro e W1 ⟨bm, bw, rfl, M1, C1, l2, l3⟩
  have HX1 := Lib.hid (And.intro M1 (And.intro C1 (And.intro l2 l3)))
  clear M1 C1 l2 l3
  go_wp2_with fail
  refine (HNEWR.out W1).mono ?_
  rintro e W2 ⟨rb, rfl, R2, K2, C2, l1⟩
  have R2' : Rest w W2 rb bm bw (newR 0 cap) M0 0 := by
    have := HX1.out.2.1.size
    exact ⟨R2, HX1.out.1.chg C2 (by simp) (by simp), K2, (HT.out.keep HX1.out.2.1).keep C2, HX1.out.2.1.then C2 (by simp), by omega, HX1.out.2.2.1, HX1.out.2.2.2⟩
  have HR2 := Lib.hid R2'
  clear R2' R2 K2 C2 l1 HX1
  go_wp2_with (first
    | (refine wpList_make1 rfl (.const (.int .i64 4)) (.const (.int .i64 4)) 50 rfl 34 (.pointer none) 8 Tryd.underlying50 infoWk rfl .i64 .i64 4 rfl rfl (by omega) (by omega) ?_; intro w8 A8 C8 z8)
    | (refine wpList_make1 rfl (.const (.int .i64 300)) (.const (.int .i64 300)) 28 rfl 3 (.int .i64 0) 8 Tryd.underlying28 infoInt3 rfl .i64 .i64 300 rfl rfl (by omega) (by omega) ?_; intro w9 B9 C9 z9)
    | fail)
  have P9 : WO w w9 rb bm bw W2.heap.size (W2.heap.size + 1) ⟨0, cap, 0, 0, 0⟩ M0 0 (fun _ => none) (fun _ => ⟨0, .nilFunc, none⟩) (fun _ => 0) false 0 := by
    have hsz := HR2.out.chg.size
    have R8 : Rest w w8 rb bm bw (newR 0 cap) M0 0 := HR2.out.away C8 (by simp) (by simp)
    have R9 : Rest w w9 rb bm bw (newR 0 cap) M0 0 := R8.away C9 (by simp) (by simp)
    refine ⟨R9, ?_, ?_, by omega, by omega, fun j _ w h => (by cases h), fun j k _ _ _ h => absurd rfl h, fun j _ w h => (by cases h)⟩
    · rw [← ptrB_none]; exact A8.chg C9 (by simp)
    · rw [← stS_zero, ← z8]; exact B9
  have HP9 := Lib.hid P9
  obtain ⟨ab, hab⟩ : ∃ ab, ab = W2.heap.size := ⟨_, rfl⟩
  obtain ⟨sb, hsb⟩ : ∃ sb, sb = W2.heap.size + 1 := ⟨_, rfl⟩
  rw [← hsb, ← hab] at HP9
  rw [← hsb, ← hab]
  clear P9 hab hsb A8 C8 z8 B9 C9 z9 HR2 HNEW HNEWR HRW
  go_loopw [9, 10, 11] (fun x9 x10 x11 wr => ∃ (i : Nat) (r : RRack) (M : List Nat) (u : Nat) (ws : Nat → Option RWork) (B : Nat → WB) (sg : Nat → Nat) (nx : Nat) (pt : Bool), i ≤ rows.length ∧ i ≤ 140 ∧ x11 = .int .i64 i ∧ x9 = .int .u64 (nx : Nat) ∧ x10 = .bool pt ∧ WO w wr rb bm bw ab sb r M u ws B sg pt i ∧ LO cap r M ws sg nx pt i) (fun _ _ x11 _ => 140 - (intOf x11).toNat)
  case atStart => exact ⟨0, _, _, _, _, _, _, 1, false, by omega, by omega, rfl, rfl, rfl, HP9.out, HSTART.out⟩
  case round =>
    obtain ⟨i, r, M, u, ws, B, sg, nx, pt, hi, hi2, rfl, rfl, rfl, hWO, hLO⟩ := hrel
    have HW := Lib.hid hWO
    have HL := Lib.hid hLO
    have hnx := hLO.ni
    have hn1 := hLO.n1
    clear hWO hLO HP9 HSTART
    go_upto_region 10 with (fail)
    obtain ⟨q, hq⟩ : ∃ q, q = decide (i < rows.length ∧ i < 140) := ⟨_, rfl⟩
    go_cut [43] (fun s wx => s = .bool q ∧ wr = wx)
    case first =>
      as_aux_lemma =>
      rcases (show (i < rows.length ∧ i < 140) ∨ (i < rows.length ∧ ¬ i < 140) ∨ ¬ i < rows.length by omega) with ⟨a1, a2⟩ | ⟨a1, a2⟩ | a1
      · obtain rfl : q = true := by rw [hq]; exact decide_eq_true ⟨a1, a2⟩
        have d2 : decide ((i : Int) < 140) = true := decide_eq_true (by omega)
        clear hq
        go_wp2_with fail
        go_meet
        exact ⟨by first | rfl | rw [d2], rfl⟩
      · obtain rfl : q = false := by rw [hq]; exact decide_eq_false (by omega)
        have d2 : decide ((i : Int) < 140) = false := by simp; omega
        clear hq
        go_wp2_with fail
        go_meet
        exact ⟨rfl, rfl⟩
      · obtain rfl : q = false := by rw [hq]; exact decide_eq_false (by omega)
        have d2 : decide ((i : Int) < (rows.length : Int)) = false := by simp; omega
        clear hq
        go_wp2_with fail
        go_meet
        exact ⟨rfl, rfl⟩
    case rest =>
    obtain ⟨rfl, hwx⟩ := hcut
    subst hwx
    by_cases hkl : i < rows.length ∧ i < 140
    · obtain rfl : q = true := by rw [hq]; exact decide_eq_true hkl
      obtain ⟨hkl, hi140⟩ := hkl
      clear hq
      obtain ⟨g, off, rfl, hc⟩ := HCELL.out i _ (List.getElem?_eq_getElem hkl)
      obtain ⟨who, name, x, lvl, pin, bo, bn, bc, bad, b1, b2, b3, b4, b5, b6, b7, b8, b9, hrow⟩ := HR.out _ (List.getElem_mem hkl)
      rw [hrow] at hc
      have hgw : g < w.heap.size := World.block_lt_of_cell? w _ (hc 0 _ rfl)
      have hfr : ∀ (j : Nat) y, ([.int .u8 (who : Nat), .int .u8 (name : Nat), .int .u64 (x : Nat), .int .i64 lvl, .bool pin, .slice bo bn bc] : List Value)[j]? = some y → ∀ w5, Chg [] w w5 → w5.cell? ⟨g, off + i * 6 + j, none⟩ = some y := fun j y hy w5 h5 => by
        rw [World.cell?_of_block (w := w) (h5.block g hgw (by simp)), hc j _ hy]
      have HF := Lib.hid (fun w5 h5 => And.intro (hfr 0 _ rfl w5 h5) (And.intro (hfr 1 _ rfl w5 h5) (And.intro (hfr 2 _ rfl w5 h5) (And.intro (hfr 3 _ rfl w5 h5) (And.intro (hfr 4 _ rfl w5 h5) (hfr 5 _ rfl w5 h5))))))
      simp only [Nat.add_zero] at HF
      obtain ⟨k, ek, hk⟩ : ∃ k : Nat, who % 4 = k ∧ k < 4 := ⟨who % 4, rfl, by omega⟩
      have ek1 : (who : Int) % 4 = (k : Int) := by omega
      have ek2 : Int.tmod (who : Int) 4 = (k : Int) := by rw [Int.tmod_eq_emod_of_nonneg (by omega)]; omega
      clear hfr hc hrow b9 b8 ek
      have f0 : wr.cell? ⟨g, off + i * 6, none⟩ = some (.int .u8 (who : Nat)) := (HF.out wr HW.out.rest.chg).1
      go_upto_region 13 with (fail)
      have ca : wr.cell? ⟨ab, k, none⟩ = some (.pointer (if (ws k).isSome then some ⟨(B k).wb, 0, none⟩ else none)) := by rw [HW.out.arr.cell, ptrB_get _ _ hk]
      have hk4 : (k : Int) < 4 := by omega
      go_cut [64] (fun s wx => ∃ fr : Bool, s = .bool fr ∧ (fr = true → ∀ w', ws k = some w' → w'.done = true) ∧ (fr = false → ∃ w', ws k = some w' ∧ w'.done = false) ∧ Hid (WO w wx rb bm bw ab sb r M u ws B sg pt i))
      case first =>
        as_aux_lemma =>
        cases hA : ws k with
        | none =>
          rw [hA] at ca
          simp only [Option.isSome_none, Bool.false_eq_true, if_false] at ca
          go_wp2_with fail
          go_meet
          exact ⟨true, rfl, (fun _ w' h => by first | cases h | (rw [hA] at h; cases h)), (fun h => by cases h), HW⟩
        | some w1 =>
          rw [hA] at ca
          simp only [Option.isSome_some, if_true] at ca
          have HDN := Lib.hid (rkdone_any wr (B k).wb rb (B k).gv (B k).ob w1 (HW.out.wk k hk w1 hA).wk (HW.out.hd k hk w1 hA).1)
          have HA := Lib.hid hA
          clear hA
          go_wp2_with (go_at_call 21; refine HDN.out.mono ?_; rintro e w2 ⟨rfl, C2⟩)
          go_meet
          exact ⟨w1.done, by trivial, (fun h w' h2 => by rw [HA.out] at h2; cases h2; exact h), (fun h => ⟨w1, HA.out, h⟩), Lib.hid (HW.out.keep C2)⟩
      case rest =>
      obtain ⟨fr, rfl, hfr1, hfr2, HW2⟩ := hcut
      clear HW ca f0
      cases fr with
      | true =>
        have HFR := Lib.hid (hfr1 rfl)
        clear hfr1 hfr2
        have HCL := Lib.hid (HF.out wc HW2.out.rest.chg)
        obtain ⟨f0, f1, f2, f3, f4, f5⟩ := HCL.out
        have hl8 := holdL_lt lvl
        have hnx64 : nx < 18446744073709551616 := by omega
        go_upto_region 17 with (fail)
        obtain ⟨pt', hpt⟩ : ∃ pt', pt' = (if k = 0 then decide (name % 4 < 2) else pt) := ⟨_, rfl⟩
        obtain ⟨q2, hq2⟩ : ∃ q2, q2 = (decide (k = 0) && pt') := ⟨_, rfl⟩
        obtain ⟨nx', hnx'⟩ : ∃ nx', nx' = (if q2 = true then nx + 1 else nx) := ⟨_, rfl⟩
        obtain ⟨sg', hsg'⟩ : ∃ sg', sg' = (if q2 = true then updS sg nx 1 else sg) := ⟨_, rfl⟩
        have HLO := Lib.hid (show LO cap r M (updW ws k (beginW r k name nx lvl pin)) sg' nx' pt' (i + 1) from by rw [hsg', hnx', hq2, hpt]; exact LO.begins HL.out hk (fun e w h => HFR.out w (by rw [e]; exact h)) (by omega) name lvl pin)
        have HNB := Lib.hid (beginW_ne r k name nx lvl pin)
        have WA : WO w (wc.alloc (.cells #[.int .u8 (who : Nat), .int .u8 (name : Nat), .int .u64 (nx : Nat), .int .i64 lvl, .bool pin, .slice none 0 0] 52)) rb bm bw ab sb r M u ws B sg pt i := HW2.out.keep ((Chg.refl _ _).alloc _)
        have BA := Blk.new wc #[.int .u8 (who : Nat), .int .u8 (name : Nat), .int .u64 (nx : Nat), .int .i64 lvl, .bool pin, .slice none 0 0] 52
        obtain ⟨cb, hcb⟩ : ∃ cb, cb = wc.heap.size := ⟨_, rfl⟩
        obtain ⟨wA, hwA⟩ : ∃ wA, wA = wc.alloc (.cells #[.int .u8 (who : Nat), .int .u8 (name : Nat), .int .u64 (nx : Nat), .int .i64 lvl, .bool pin, .slice none 0 0] 52) := ⟨_, rfl⟩
        rw [← hwA, ← hcb] at BA
        rw [← hwA] at WA
        rw [← hwA, ← hcb]
        have HWA := Lib.hid WA
        have HBA := Lib.hid BA
        clear f0 f1 f2 f3 f4 f5 HCL HW2 hwA hcb WA BA
        go_upto_if 73 with (fail)
        go_cut [10] (fun s wx => s = .bool pt' ∧ wA = wx)
        case first =>
          as_aux_lemma =>
          by_cases hk0 : k = 0
          · have dk : ((k : Int) == 0) = true := by rw [hk0]; rfl
            rw [if_pos hk0] at hpt
            have c1 : wA.cell? ⟨cb, 1, none⟩ = some (.int .u8 (name : Nat)) := HBA.out.cell 1
            have HPT := Lib.hid hpt
            have e1 : decide ((name : Int) % 4 < 2) = pt' := by rw [hpt]; exact decide_eq_decide.2 (by omega)
            clear hpt
            go_wp2_with fail
            go_meet
            exact ⟨by first | rfl | trivial | simp, rfl⟩
          · have dk : ((k : Int) == 0) = false := by simp; omega
            rw [if_neg hk0] at hpt
            subst hpt
            go_wp2_with fail
            go_meet
            exact ⟨rfl, rfl⟩
        case rest =>
        obtain ⟨rfl, hwx⟩ := hcut
        subst hwx
        go_upto_region 19 with (fail)
        go_cut [82] (fun s wx => s = .bool q2 ∧ wA = wx)
        case first =>
          as_aux_lemma =>
          by_cases hk0 : k = 0
          · have dk : ((k : Int) == 0) = true := by rw [hk0]; rfl
            rw [decide_eq_true hk0, Bool.true_and] at hq2
            subst hq2
            clear hpt
            go_wp2_with fail
            go_meet
            exact ⟨rfl, rfl⟩
          · have dk : ((k : Int) == 0) = false := by simp; omega
            rw [decide_eq_false hk0, Bool.false_and] at hq2
            subst hq2
            clear hpt
            go_wp2_with fail
            go_meet
            exact ⟨rfl, rfl⟩
        case rest =>
        obtain ⟨rfl, hwx⟩ := hcut
        subst hwx
        go_upto_if 82 with (fail)
        go_cut [9] (fun s wx => s = .int .u64 (nx' : Nat) ∧ Hid (WO w wx rb bm bw ab sb r M u ws B sg' pt i) ∧ Hid (Blk wx cb #[.int .u8 (who : Nat), .int .u8 (name : Nat), .int .u64 (nx : Nat), .int .i64 lvl, .bool pin, .slice none 0 0] 52))
        case first =>
          as_aux_lemma =>
          clear hpt hq2
          cases q2 with
          | true =>
            rw [if_pos rfl] at hnx' hsg'
            subst hnx' hsg'
            have cs := HWA.out.st.cell nx
            rw [stS_get _ (by omega)] at cs
            have zs : wA.frozen? ⟨sb, nx, none⟩ = false := Blk.frozen HWA.out.st _
            have y1 : (nx : Int) < 300 := by omega
            have y2 : (0 : Int) ≤ (nx : Int) := by omega
            have y3 : IntKind.u64.wrap ((nx : Int) + 1) = ((nx + 1 : Nat) : Int) := by rw [IntKind.wrap_u64]; omega
            have HMK := Lib.hid (HWA.out.mark HT.out nx 1)
            have HB2 := Lib.hid (Blk.chg HBA.out ((Chg.refl [sb] _).setCell (a := ⟨sb, nx, none⟩) (.inl (by simp)) (.int .i64 1)) (by simp; exact blk_ne HBA.out HWA.out.st (by decide)))
            go_wp2_with fail
            go_meet
            exact ⟨by first | rfl | rw [y3], HMK, HB2⟩
          | false =>
            rw [if_neg (by simp)] at hnx' hsg'
            subst hnx' hsg'
            go_wp2_with fail
            go_meet
            exact ⟨rfl, HWA, HBA⟩
        case rest =>
        obtain ⟨rfl, HWB, HBB⟩ := hcut
        have HBG := Lib.hid (fun W' (C : Chg [] wc W') => begin_any W' rb bm bw r M u (Blk.chg HWB.out.rest.rk C (by simp)) (HWB.out.rest.mem.chg C (by simp) (by simp)) HWB.out.rest.ok k hk who name b2 nx hnx64 lvl pin none 0 0 (Nat.le_refl _) (Nat.zero_le _))
        have HK1 := Lib.hid (fun (W' : World) (C : Chg [] wc W') => And.intro (cell_keep0 C (HBB.out.cell 0)) (And.intro (cell_keep0 C (HBB.out.cell 1)) (And.intro (cell_keep0 C (HBB.out.cell 2)) (And.intro (cell_keep0 C (HBB.out.cell 3)) (And.intro (cell_keep0 C (HBB.out.cell 4)) (cell_keep0 C (HBB.out.cell 5)))))))
        have HSAB := Lib.hid (blk_ne HBB.out HWB.out.arr (by decide))
        have HBEG := Lib.hid (fun (W1 W' : World) (b : WB) (G : Rig W1 b.wb rb bm bw b.gv b.ob r (beginW r k name nx lvl pin) M u) (C : Chg [] wc W1) (q1 : wc.heap.size ≤ b.wb) (q2 : ∀ g ∈ b.ob.toList, wc.heap.size ≤ g) (hx : ¬ (k = 0 ∧ (name % 4 = 2 ∨ name % 4 = 3)) → Box W1 b.gv (.slice none 0 0)) (hw' : W' = W1.setCell ⟨ab, k, none⟩ (.pointer (some ⟨b.wb, 0, none⟩))) =>
          show WO w W' rb bm bw ab sb r M u (updW ws k (beginW r k name nx lvl pin)) (updB B k b) sg' pt' i from HWB.out.begun HT.out hk G C q1 q2 (fun h => by rw [hpt, if_neg h]) (fun h => hx (fun hn => by
            have := h hn.1
            rw [hpt, if_pos hn.1] at this
            have := of_decide_eq_true this
            omega)) HNB.out.1 (by rw [HNB.out.2]; omega) hw')
        have HCA := Lib.hid (fun (W1 : World) (C : Chg [] wc W1) => show W1.cell? ⟨ab, k, none⟩ = some (.pointer (if (ws k).isSome then some ⟨(B k).wb, 0, none⟩ else none)) ∧ W1.frozen? ⟨ab, k, none⟩ = false from ⟨by rw [(HWB.out.keep C).arr.cell, ptrB_get _ _ hk], Blk.frozen (HWB.out.keep C).arr _⟩)
        obtain ⟨k1, k2, k3, k4, k5, k6⟩ := HK1.out wc (Chg.refl _ _)
        clear hpt hq2 hnx' hsg' HWA HBA
        have HII := Lib.hid (And.intro hkl hi140)
        clear HFR HNB
        go_wp2_with (first
            | (go_at_call 22; refine (HBG.out _ (by first | exact Chg.refl _ _ | exact (Chg.refl _ _).drew | exact (Chg.refl _ _).drewN _)).mono ?_; rintro e w3 hbg; unfold Begun at hbg; obtain ⟨wb, gv, ob, rfl, G, C, q1, q2, q3⟩ := hbg; obtain ⟨p1, p2⟩ := HCA.out w3 C; have HN := Lib.hid (HBEG.out w3 _ ⟨wb, gv, ob⟩ G C q1 q2 q3 rfl); clear G C q1 q2 q3)
            | fail)
        go_roundw
        case rel => exact ⟨i + 1, r, M, u, _, _, sg', nx', pt', by omega, by omega, by go_num, rfl, rfl, HN.out.up (by omega), HLO.out⟩
        case measure => simp [intOf] <;> omega
      | false =>
        obtain ⟨w1, hA, hd⟩ := hfr2 rfl
        clear hfr1 hfr2
        have hN0 := HW2.out.hd k hk w1 hA
        have HST := Lib.hid (wstepA_any wc (B k).wb rb bm bw (B k).gv (B k).ob r w1 M u (HW2.out.rig hk hA) gT HW2.out.rest.tab (by omega) (fun h => (LO.fitsU HL.out hk hA h).1) (fun h ha => HW2.out.good hk hA ((LO.fitsU HL.out hk hA h).2 ha) (Chg.refl _ _)))
        obtain ⟨q3, hq3⟩ : ∃ q3, q3 = (decide (k = 0) && pt) := ⟨_, rfl⟩
        have HLO := Lib.hid (fun S hS => LO.stepsU HL.out (by omega) hk hA hd u q3 hq3 S hS)
        have hNE := stepR_ne gT r w1 M u hN0.1
        obtain ⟨S, hS⟩ : ∃ S, S = stepR gT r w1 M u := ⟨_, rfl⟩
        rw [← hS] at HST hNE
        have HL2 := Lib.hid (HLO.out S hS)
        have HNE := Lib.hid hNE
        have HSTP := Lib.hid (fun (W' : World) (ob' : Option Nat) (G : Rig W' (B k).wb rb bm bw (B k).gv ob' S.1 S.2.1 S.2.2.1 S.2.2.2) (C : Chg ((B k).wb :: rb :: bm :: bw :: (B k).ob.toList) wc W') (ho : ob' = (B k).ob ∨ ∃ g, ob' = some g ∧ wc.heap.size ≤ g) =>
          show WO w W' rb bm bw ab sb S.1 S.2.2.1 S.2.2.2 (updW ws k S.2.1) (updB B k ⟨(B k).wb, (B k).gv, ob'⟩) sg pt (i + 1) from HW2.out.stepped HT.out hk hA G C ho (by omega) HNE.out.1 (by have := HNE.out.2; omega))
        have HRES := Lib.hid (fun (W' : World) (ob' : Option Nat) (G : Rig W' (B k).wb rb bm bw (B k).gv ob' S.1 S.2.1 S.2.2.1 S.2.2.2) => wresult_any W' (B k).wb rb (B k).gv ob' S.2.1 G.wk)
        obtain ⟨rr, hrr⟩ : ∃ rr, rr = resR S.2.1 := ⟨_, rfl⟩
        rw [← hrr] at HL2 HRES
        obtain ⟨rx, rl, re⟩ := rr
        dsimp only at HL2 HRES
        obtain ⟨px, hpx⟩ : ∃ px, px = (if q3 = true then nx - 1 else rx) := ⟨_, rfl⟩
        rw [← hpx] at HL2
        have HGOES := Lib.hid (fun (W' : World) (hB : Blk W' sb (stS sg) 3) => goes_any W' sb sg nx px re q3 hB (by omega) HL2.out.2)
        have ca : wc.cell? ⟨ab, k, none⟩ = some (.pointer (some ⟨(B k).wb, 0, none⟩)) := by rw [HW2.out.arr.cell, ptrB_get _ _ hk, hA]; rfl
        have HCA := Lib.hid (fun (W' : World) (B' : Nat → WB) (h : WO w W' rb bm bw ab sb S.1 S.2.2.1 S.2.2.2 (updW ws k S.2.1) (updB B k ⟨(B k).wb, (B k).gv, B' k |>.ob⟩) sg pt (i + 1)) => show W'.cell? ⟨ab, k, none⟩ = some (.pointer (some ⟨(B k).wb, 0, none⟩)) from by rw [h.arr.cell, ptrB_get _ _ hk, updW_same, updB_same]; rfl)
        have y3 : IntKind.u64.wrap ((nx : Int) - 1) = ((nx - 1 : Nat) : Int) := by rw [IntKind.wrap_u64]; omega
        obtain ⟨wb, hwb⟩ : ∃ wb, wb = (B k).wb := ⟨_, rfl⟩
        have HIK := Lib.hid (And.intro hkl hi140)
        clear hrr hS hNE hd hA HLO hN0
        rcases (show (k = 0 ∧ pt = true) ∨ (k = 0 ∧ pt = false) ∨ k ≠ 0 by by_cases e : k = 0; cases pt; exact .inr (.inl ⟨e, rfl⟩); exact .inl ⟨e, rfl⟩; exact .inr (.inr e)) with ⟨k0, hp⟩ | ⟨k0, hp⟩ | k0
        · obtain rfl : q3 = true := by rw [hq3, hp, decide_eq_true k0]; rfl
          have dk : ((k : Int) == 0) = true := by rw [k0]; rfl
          rw [if_pos rfl] at hpx
          subst hp hpx
          clear hq3 k0
          go_wp2_with (first
            | (go_at_call 23; refine HST.out.mono ?_; rintro e w2 ⟨rfl, ob', G2, C2, O2⟩; have HN := HSTP.out w2 ob' G2 C2 O2; have cb := HCA.out w2 (fun _ => ⟨0, .nilFunc, ob'⟩) HN; have HR2 := Lib.hid (HRES.out w2 ob' G2); have HNN := Lib.hid HN; clear HN G2 C2 O2)
            | (go_at_call 24; refine HR2.out.mono ?_; rintro e w3 ⟨rfl, C3⟩; have HN3 := Lib.hid (HNN.out.keep C3); clear C3)
            | (go_at_call 25; refine (HGOES.out _ HN3.out.st).mono ?_; rintro e w4 ⟨rfl, C4, B4⟩; have HN4 := Lib.hid (HN3.out.marks HT.out C4 B4); clear C4 B4)
            | fail)
          go_roundw
          case rel => exact ⟨i + 1, _, _, _, _, _, _, nx, true, by omega, by omega, by go_num, rfl, rfl, HN4.out, HL2.out.1⟩
          case measure => simp [intOf] <;> omega
        · obtain rfl : q3 = false := by rw [hq3, hp, decide_eq_true k0]; rfl
          have dk : ((k : Int) == 0) = true := by rw [k0]; rfl
          rw [if_neg (by simp)] at hpx
          subst hp hpx
          clear hq3 k0
          go_wp2_with (first
            | (go_at_call 23; refine HST.out.mono ?_; rintro e w2 ⟨rfl, ob', G2, C2, O2⟩; have HN := HSTP.out w2 ob' G2 C2 O2; have cb := HCA.out w2 (fun _ => ⟨0, .nilFunc, ob'⟩) HN; have HR2 := Lib.hid (HRES.out w2 ob' G2); have HNN := Lib.hid HN; clear HN G2 C2 O2)
            | (go_at_call 24; refine HR2.out.mono ?_; rintro e w3 ⟨rfl, C3⟩; have HN3 := Lib.hid (HNN.out.keep C3); clear C3)
            | (go_at_call 25; refine (HGOES.out _ HN3.out.st).mono ?_; rintro e w4 ⟨rfl, C4, B4⟩; have HN4 := Lib.hid (HN3.out.marks HT.out C4 B4); clear C4 B4)
            | fail)
          go_roundw
          case rel => exact ⟨i + 1, _, _, _, _, _, _, nx, false, by omega, by omega, by go_num, rfl, rfl, HN4.out, HL2.out.1⟩
          case measure => simp [intOf] <;> omega
        · obtain rfl : q3 = false := by rw [hq3, decide_eq_false k0]; rfl
          have dk : ((k : Int) == 0) = false := by simp; omega
          rw [if_neg (by simp)] at hpx
          subst hpx
          clear hq3 k0
          go_wp2_with (first
            | (go_at_call 23; refine HST.out.mono ?_; rintro e w2 ⟨rfl, ob', G2, C2, O2⟩; have HN := HSTP.out w2 ob' G2 C2 O2; have cb := HCA.out w2 (fun _ => ⟨0, .nilFunc, ob'⟩) HN; have HR2 := Lib.hid (HRES.out w2 ob' G2); have HNN := Lib.hid HN; clear HN G2 C2 O2)
            | (go_at_call 24; refine HR2.out.mono ?_; rintro e w3 ⟨rfl, C3⟩; have HN3 := Lib.hid (HNN.out.keep C3); clear C3)
            | (go_at_call 25; refine (HGOES.out _ HN3.out.st).mono ?_; rintro e w4 ⟨rfl, C4, B4⟩; have HN4 := Lib.hid (HN3.out.marks HT.out C4 B4); clear C4 B4)
            | fail)
          go_roundw
          case rel => exact ⟨i + 1, _, _, _, _, _, _, nx, pt, by omega, by omega, by go_num, rfl, rfl, HN4.out, HL2.out.1⟩
          case measure => simp [intOf] <;> omega
    · obtain rfl : q = false := by rw [hq]; exact decide_eq_false hkl
      clear hq hkl HCELL HR
      have ca : wr.cell? ⟨ab, 0, none⟩ = some (.pointer (if (ws 0).isSome then some ⟨(B 0).wb, 0, none⟩ else none)) := by rw [HW.out.arr.cell, ptrB_get _ _ (by omega)]
      go_upto_region 29 with (fail)
      go_cut [138] (fun s wx => ∃ fr : Bool, s = .bool fr ∧ (fr = false → Free0 ws) ∧ (fr = true → ∃ w', ws 0 = some w' ∧ w'.done = false) ∧ Hid (WO w wx rb bm bw ab sb r M u ws B sg pt i))
      case first =>
        as_aux_lemma =>
        cases hA : ws 0 with
        | none =>
          rw [hA] at ca
          simp only [Option.isSome_none, Bool.false_eq_true, if_false] at ca
          go_wp2_with fail
          go_meet
          exact ⟨false, rfl, (fun _ w' h => by first | cases h | (rw [hA] at h; cases h)), (fun h => by cases h), HW⟩
        | some w1 =>
          rw [hA] at ca
          simp only [Option.isSome_some, if_true] at ca
          have HDN := Lib.hid (rkdone_any wr (B 0).wb rb (B 0).gv (B 0).ob w1 (HW.out.wk 0 (by omega) w1 hA).wk (HW.out.hd 0 (by omega) w1 hA).1)
          have HA := Lib.hid hA
          clear hA
          go_wp2_with (go_at_call 21; refine HDN.out.mono ?_; rintro e w2 ⟨rfl, C2⟩)
          go_meet
          exact ⟨!w1.done, by trivial, (fun h w' h2 => by rw [HA.out] at h2; cases h2; simpa using h), (fun h => ⟨w1, HA.out, by simpa using h⟩), Lib.hid (HW.out.keep C2)⟩
      case rest =>
      obtain ⟨fr, rfl, hfr1, hfr2, HW2⟩ := hcut
      clear HW ca
      go_upto_if 138 with (fail)
      go_cut [17] (fun _ wx => ∃ (r' : RRack) (M' : List Nat) (u' : Nat) (sg' : Nat → Nat), Hid (Fin1 w wx rb bm bw sb r' M' u' sg' nx))
      case first =>
        as_aux_lemma =>
        cases fr with
        | false =>
          obtain ⟨x1, x2, x3⟩ := HL.out.left (by omega) (hfr1 rfl)
          have HFN := Lib.hid (show Fin1 w wc rb bm bw sb r M u sg nx from ⟨HW2.out.rest, HW2.out.st, HW2.out.ls, x1, x2, x3, by omega⟩)
          clear x1 x2 x3
          go_wp2_with fail
          go_meet
          exact ⟨_, _, _, _, HFN⟩
        | true =>
          obtain ⟨w1, hA, hd⟩ := hfr2 rfl
          clear hfr1 hfr2
          have hN0 := HW2.out.hd 0 (by omega) w1 hA
          have hmu := mu_le HL.out.cap256.1 (HL.out.sw w1 hA hd).1
          obtain ⟨n, n1, n2, n3, n4, n5, n6⟩ := LO.whole gT (fun _ => rfl) 5206 r w1 M u ws i HL.out hA hd hN0.1 (by omega) hmu (by omega)
          have HALL := Lib.hid (wallA_any wc (B 0).wb rb bm bw (B 0).gv (B 0).ob r w1 M u (HW2.out.rig (by omega) hA) gT HW2.out.rest.tab (bx := pt = true) hd n (by omega) n2 n4 (fun hb W' C => HW2.out.good (by omega) hA (fun _ => hb) C))
          obtain ⟨S, hS⟩ : ∃ S, S = itR gT n (r, w1, M, u) := ⟨_, rfl⟩
          rw [← hS] at HALL n2 n3 n5 n6
          have HEND := Lib.hid (fun (W' : World) (ob' : Option Nat) (G : Rig W' (B 0).wb rb bm bw (B 0).gv ob' S.1 S.2.1 S.2.2.1 S.2.2.2) (C : Chg ((B 0).wb :: rb :: bm :: bw :: (B 0).ob.toList) wc W') (ho : ob' = (B 0).ob ∨ ∃ g, ob' = some g ∧ wc.heap.size ≤ g) =>
            show ∃ ws' B' i', WO w W' rb bm bw ab sb S.1 S.2.2.1 S.2.2.2 ws' B' sg pt i' from HW2.out.ended HT.out (by omega) hA G C ho n3)
          have HLEFT := Lib.hid (n5.left (by omega) (fun w' h => by rw [updW_same] at h; cases h; exact n2))
          have HTEL := Lib.hid n6
          obtain ⟨rr, hrr⟩ : ∃ rr, rr = resR S.2.1 := ⟨_, rfl⟩
          unfold pxOf at HTEL HLEFT
          rw [← hrr] at HTEL HALL HLEFT
          obtain ⟨rx, rl, re⟩ := rr
          dsimp only at HTEL HALL HLEFT
          have ca : wc.cell? ⟨ab, 0, none⟩ = some (.pointer (some ⟨(B 0).wb, 0, none⟩)) := by rw [HW2.out.arr.cell, ptrB_get _ _ (by omega), hA]; rfl
          have y3 : IntKind.u64.wrap ((nx : Int) - 1) = ((nx - 1 : Nat) : Int) := by rw [IntKind.wrap_u64]; omega
          obtain ⟨px, hpx⟩ : ∃ px, px = (if pt = true then nx - 1 else rx) := ⟨_, rfl⟩
          rw [← hpx] at HTEL HLEFT
          have HGOES := Lib.hid (fun (W' : World) (hB : Blk W' sb (stS sg) 3) => goes_any W' sb sg nx px re pt hB (by omega) HTEL.out)
          clear hrr hS n1 n2 n3 n4 n5 n6 hmu hN0 hd hA
          cases pt with
          | true =>
            rw [if_pos rfl] at hpx
            subst hpx
            go_wp2_with (first
              | (go_at_call 10; refine HALL.out.mono ?_; rintro e w2 ⟨rfl, ob', G2, C2, O2⟩; obtain ⟨ws', B', i', HN⟩ := HEND.out w2 ob' G2 C2 O2; have HNN := Lib.hid HN; clear HN G2 C2 O2)
              | (go_at_call 25; refine (HGOES.out _ HNN.out.st).mono ?_; rintro e w4 ⟨rfl, C4, B4⟩; have HN4 := Lib.hid (HNN.out.marks HT.out C4 B4); clear C4 B4)
              | fail)
            go_meet
            exact ⟨_, _, _, _, Lib.hid ⟨HN4.out.rest, HN4.out.st, HN4.out.ls, HLEFT.out.1, HLEFT.out.2.1, HLEFT.out.2.2, by omega⟩⟩
          | false =>
            rw [if_neg (by simp)] at hpx
            subst hpx
            go_wp2_with (first
              | (go_at_call 10; refine HALL.out.mono ?_; rintro e w2 ⟨rfl, ob', G2, C2, O2⟩; obtain ⟨ws', B', i', HN⟩ := HEND.out w2 ob' G2 C2 O2; have HNN := Lib.hid HN; clear HN G2 C2 O2)
              | (go_at_call 25; refine (HGOES.out _ HNN.out.st).mono ?_; rintro e w4 ⟨rfl, C4, B4⟩; have HN4 := Lib.hid (HNN.out.marks HT.out C4 B4); clear C4 B4)
              | fail)
            go_meet
            exact ⟨_, _, _, _, Lib.hid ⟨HN4.out.rest, HN4.out.st, HN4.out.ls, HLEFT.out.1, HLEFT.out.2.1, HLEFT.out.2.2, by omega⟩⟩
      case rest =>
      obtain ⟨r', M', u', sg', HFN⟩ := hcut
      clear HW2 HL hfr1 hfr2
      have hd3 := HFN.out.n3
      have HALL := Lib.hid (rackall_any wc rb bm bw r' M' u' HFN.out.rest.rk HFN.out.rest.mem HFN.out.rest.ok)
      obtain ⟨L, hL⟩ : ∃ L, L = allTo16 r' M' 16 := ⟨_, rfl⟩
      have hlen : L.length ≤ 4096 := by
        rw [hL]
        have h1 := allTo16_len r' M' 16
        have h2 := HFN.out.rest.ok.cap.le.2
        omega
      have HLL := Lib.hid (show L.Nodup ∧ (∀ y, y ∈ L ↔ sg' y = 1) ∧ (∀ y, sg' y = 1 → 1 ≤ y ∧ y < nx) from by rw [hL]; exact ⟨HFN.out.nd, HFN.out.mem, HFN.out.rng⟩)
      rw [show allR r' M' = L from hL.symm] at HALL
      clear hL
      obtain ⟨lo, hlo⟩ : ∃ lo, lo = wc.heap.size := ⟨_, rfl⟩
      rw [← hlo] at HALL
      clear hlo
      go_wp2_with fail
      refine HALL.out.mono ?_
      rintro e w5 ⟨v5, rfl, O5, C5⟩
      obtain ⟨ao5, cp5, hv5, _, _⟩ := O5.reads
      rw [words_len] at hv5
      subst hv5
      have F5 : Fin2 w w5 rb bm bw sb r' M' u' (markL sg' (L.take 0)) (.slice ao5 L.length cp5) L lo := by
        rw [List.take_zero]
        exact ⟨HFN.out.rest.away C5 (by simp) (by simp), HFN.out.st.chg C5 (by simp), HFN.out.ls, O5⟩
      have HF5 := Lib.hid F5
      clear F5 O5 C5 HALL HFN
      go_wp2_with fail
      go_loopw [21] (fun x21 wr => ∃ j : Nat, j ≤ L.length ∧ x21 = .int .i64 j ∧ Fin2 w wr rb bm bw sb r' M' u' (markL sg' (L.take j)) (.slice ao5 L.length cp5) L lo) (fun x21 _ => 4097 - (intOf x21).toNat)
      case atStart => exact ⟨0, by omega, rfl, HF5.out⟩
      case round =>
        obtain ⟨j, hj, rfl, F⟩ := hrel
        have HFF := Lib.hid F
        clear F HF5
        by_cases hjl : j < L.length
        · have hjl2 : (j : Int) < (L.length : Int) := by omega
          have hj0 : (0 : Int) ≤ (j : Int) := by omega
          obtain ⟨ao6, cp6, e6, _, hc6⟩ := HFF.out.own.reads
          rw [words_len] at e6
          cases e6
          obtain ⟨g6, off6, rfl, hcell⟩ := hc6 j (.int .u64 (L[j] : Nat)) (by simp [words, hjl])
          obtain ⟨m1, m2⟩ := mark_next (sg := sg') HLL.out.1 hjl ((HLL.out.2.1 _).1 (List.getElem_mem hjl))
          obtain ⟨r1, r2⟩ := HLL.out.2.2 _ ((HLL.out.2.1 _).1 (List.getElem_mem hjl))
          obtain ⟨y, hy⟩ : ∃ y, y = L[j] := ⟨_, rfl⟩
          rw [← hy] at hcell m1 m2 r1 r2
          have cs := HFF.out.st.cell y
          rw [stS_get _ (by omega), m1] at cs
          have cs' : wr.cell? ⟨sb, y, none⟩ = some (.int .i64 1) := cs
          have zs : wr.frozen? ⟨sb, y, none⟩ = false := Blk.frozen HFF.out.st _
          have y0 : ((y : Int) == 0) = false := by simp; omega
          have y1 : ¬ ((nx : Int) ≤ (y : Int)) := by omega
          have y2 : (y : Int) < 300 := by omega
          have y3 : (0 : Int) ≤ (y : Int) := by omega
          have HM := Lib.hid (HFF.out.mark HT.out y)
          rw [m2] at HM
          clear cs hy m1 m2 r1 r2 hc6
          go_wp2_with fail
          go_roundw
          case rel => exact ⟨j + 1, by omega, by go_num, HM.out⟩
          case measure => simp [intOf] <;> omega
        · obtain rfl : j = L.length := by omega
          have HF6 := HFF.out
          rw [List.take_length] at HF6
          have HF7 := Lib.hid HF6
          have HMF := Lib.hid (fun y => mark_free HLL.out.2.1 y)
          clear HF6 HFF HLL
          go_wp2_with fail
          go_loopw [23] (fun x23 wq => ∃ j : Nat, j ≤ 300 ∧ x23 = .int .i64 j ∧ wr = wq) (fun x23 _ => 301 - (intOf x23).toNat)
          case atStart => exact ⟨0, by omega, rfl, rfl⟩
          case round =>
            obtain ⟨j, hj, rfl, rfl⟩ := hrel
            by_cases hj3 : j < 300
            · have hj3i : (j : Int) < 300 := by omega
              have hj0 : (0 : Int) ≤ (j : Int) := by omega
              have cs := HF7.out.st.cell j
              rw [stS_get _ hj3] at cs
              have hm1 := HMF.out j
              obtain ⟨m, hm⟩ : ∃ m, m = markL sg' L j := ⟨_, rfl⟩
              rw [← hm] at cs hm1
              have y0 : ((m : Int) == 1) = false := by simp; omega
              clear hm hm1
              go_wp2_with fail
              go_roundw
              case rel => exact ⟨j + 1, by omega, by go_num, by trivial⟩
              case measure => simp [intOf] <;> omega
            · obtain rfl : j = 300 := by omega
              rw [show ((300 : Nat) : Int) = 300 from rfl]
              go_wp2_with (first
                | (go_at_call 15; refine (awake_any _ HF7.out.rest.tab).mono ?_; rintro e w11 ⟨rfl, C11⟩)
                | fail)
              go_ret
              exact ⟨rfl, HF7.out.rest.chg.then C11 (by simp)⟩
end Go.Proofs.YtjdbgohfedjifaaDoor
