/- seat: Idlest. -/
import Derived.Test.YtalnokbfffhhnaaDoorSeat1
import Derived.RegionIn
namespace Go.Proofs.YtalnokbfffhhnaaDoor
open Go.RowKit Go.Shelf Bosun
attribute [local go_sem] Oper.semAt_some
theorem round_kept {w W : World} {b : Nat} {v v' : Value} {p1 p0 : Value} (hB : Below b w W) (hb : W.cell? ⟨b + 1 + 1, 0, none⟩ = some v) (hf : W.frozen? ⟨b + 1 + 1, 0, none⟩ = false) (hc : W.cell? ⟨b + 1, 0, none⟩ = some p1) (hs : W.cell? ⟨b, 0, none⟩ = some p0) :
    let W' := (W.setCell ⟨b + 1 + 1, 0, none⟩ v').drew
    KeepsOthers W W' ∧ Below b W W' ∧ (W'.cell? ⟨b + 1 + 1, 0, none⟩ = some v' ∧ W'.frozen? ⟨b + 1 + 1, 0, none⟩ = false ∧ W'.cell? ⟨b + 1, 0, none⟩ = some p1 ∧ W'.cell? ⟨b, 0, none⟩ = some p0) ∧ Below b w W' := by
  refine ⟨(KeepsOthers.setCell _ _ _).trans (KeepsOthers.drew _), ((Below.refl _ W).setCell (p := ⟨b + 1 + 1, 0, none⟩) (by simp; omega) _).drew, ⟨?_, ?_, ?_, ?_⟩, (hB.setCell (p := ⟨b + 1 + 1, 0, none⟩) (by simp; omega) _).drew⟩
  · rw [cell_drew_own]; exact World.cell?_setCell_same' _ _ _ (by rw [hb]; rfl)
  · rw [frozen_drew_own, World.frozen?_setCell]; exact hf
  · rw [cell_drew_own, World.cell?_setCell_other _ _ _ _ (by simp)]; exact hc
  · rw [cell_drew_own, World.cell?_setCell_other _ _ _ _ (by simp)]; exact hs
theorem round_drew {w W : World} {b : Nat} {v : Value} {p1 p0 : Value} (hB : Below b w W) (hb : W.cell? ⟨b + 1 + 1, 0, none⟩ = some v) (hf : W.frozen? ⟨b + 1 + 1, 0, none⟩ = false) (hc : W.cell? ⟨b + 1, 0, none⟩ = some p1) (hs : W.cell? ⟨b, 0, none⟩ = some p0) :
    let W' := W.drew
    KeepsOthers W W' ∧ Below b W W' ∧ (W'.cell? ⟨b + 1 + 1, 0, none⟩ = some v ∧ W'.frozen? ⟨b + 1 + 1, 0, none⟩ = false ∧ W'.cell? ⟨b + 1, 0, none⟩ = some p1 ∧ W'.cell? ⟨b, 0, none⟩ = some p0) ∧ Below b w W' :=
  ⟨KeepsOthers.drew _, (Below.refl _ W).drew, ⟨hb, hf, hc, hs⟩, hB.drew⟩
theorem store_run {P : Program} (W : World) (g : Nat) (v old : Value) (h : W.cell? ⟨g, 0, none⟩ = some old) (hf : W.frozen? ⟨g, 0, none⟩ = false) (h1 : v.oneCell' = true) : (store ⟨g, 0, none⟩ v).run P W = .ok () (W.setCell ⟨g, 0, none⟩ v) := by
  rw [run_store P W ⟨g, 0, none⟩ v .plain h1, h]
  simp [hf]
set_option maxRecDepth 100000 in
set_option maxHeartbeats 4000000 in
theorem idlest_any (m : Nat) (hm : m < 18446744073709551616) (n : Int) (h0 : -9223372036854775808 ≤ n) (h1 : n ≤ 9223372036854775807) (l : List Int) (v : Value) (w : World) (hv : Reads w v (ints l)) (hT : TabW w) :
    Calls Tryd.prog 12 #[.int .u64 (m : Nat), .int .i64 n, v] w fun e w' => e = .returned (.int .i64 (idl l (members (m &&& allBelow n)))) ∧ Chg [] w w' := by
  have HA := Lib.hid (fun w => callsIn_wide (n := 5) |>.2 (allowed_any m hm n h0 h1 w))
  have hsl : (m &&& allBelow n) < 18446744073709551616 := Nat.lt_of_le_of_lt Nat.and_le_left hm
  obtain ⟨s, hs⟩ : ∃ s, s = m &&& allBelow n := ⟨_, rfl⟩
  rw [← hs] at HA hsl ⊢
  have HE := Lib.hid (fun w => callsIn_wide (n := 5) |>.2 (each_any s w))
  obtain ⟨ao, cp, rfl, hm', hcell⟩ := id hv
  rw [ints_len] at hv ⊢
  clear hs hm' hcell
  have hst : (store ⟨w.heap.size + 1, 0, none⟩ (.func (.func 24) #[] #[.pointer (some ⟨w.heap.size, 0, none⟩)])).run Tryd.prog ((w.alloc (.cells #[.slice ao l.length cp] 26)).alloc (.cells #[.nilFunc] 36)) = .ok () _ := store_run _ _ _ .nilFunc (by simp) (by simp) rfl
  refine (callsIn_wide (n := 6)).1 ?_
  refine callsIn_of_wp_marks Tryd.func12 rfl trivial ?_ rfl
  simp only [Tryd.ntmps12, List.size_toArray, List.length_cons, List.length_nil, Nat.reduceAdd, Nat.reduceSub, Array.replicate_succ, Array.replicate_zero, List.push_toArray, List.append_toArray, List.nil_append, List.cons_append]
  gi_wp2_with (first
    | (refine ⟨trivial, ?_⟩; gi_at_call 17; refine (HA.out _).mono ?_; rintro e w2 ⟨rfl, rfl⟩)
    | (refine ⟨trivial, ?_⟩; gi_at_call 25; refine (HE.out _).mono ?_; rintro e w2 ⟨rfl, rfl⟩))
  have hbp : 0 < w.heap.size := World.block_lt_of_cell? w _ (hT 0 (by decide))
  obtain ⟨b, hbe⟩ : ∃ b, b = w.heap.size := ⟨_, rfl⟩
  generalize hW0 : ((((w.alloc (.cells #[.slice ao l.length cp] 26)).alloc (.cells #[.func (.func 24) #[] #[.pointer (some ⟨w.heap.size, 0, none⟩)]] 36)).alloc (.cells #[.int .i64 (-1)] 3)).alloc (.cells #[.int .u64 (s : Nat)] 22)) = W0
  have z0 : W0.heap.size = b + 4 := by rw [← hW0, hbe]; simp
  have B0 : Below b w W0 := by
    rw [← hW0, hbe]
    exact ((((Below.refl _ w).alloc (Nat.le_refl _) _).alloc (by simp) _).alloc (by simp; omega) _).alloc (by simp; omega) _
  have q0 := Blk.new w #[.slice ao l.length cp] 26
  have q1 := Blk.new (w.alloc (.cells #[.slice ao l.length cp] 26)) #[.func (.func 24) #[] #[.pointer (some ⟨w.heap.size, 0, none⟩)]] 36
  have q2 := Blk.new ((w.alloc (.cells #[.slice ao l.length cp] 26)).alloc (.cells #[.func (.func 24) #[] #[.pointer (some ⟨w.heap.size, 0, none⟩)]] 36)) #[.int .i64 (-1)] 3
  have q3 := Blk.new (((w.alloc (.cells #[.slice ao l.length cp] 26)).alloc (.cells #[.func (.func 24) #[] #[.pointer (some ⟨w.heap.size, 0, none⟩)]] 36)).alloc (.cells #[.int .i64 (-1)] 3)) #[.int .u64 (s : Nat)] 22
  simp only [World.size_alloc] at q1 q2 q3
  have q0' := ((q0.alloc (.cells #[.func (.func 24) #[] #[.pointer (some ⟨w.heap.size, 0, none⟩)]] 36)).alloc (.cells #[.int .i64 (-1)] 3)).alloc (.cells #[.int .u64 (s : Nat)] 22)
  have q1' := (q1.alloc (.cells #[.int .i64 (-1)] 3)).alloc (.cells #[.int .u64 (s : Nat)] 22)
  have q2' := q2.alloc (.cells #[.int .u64 (s : Nat)] 22)
  rw [hW0, ← hbe] at q0' q1' q2' q3
  have k0 : W0.cell? ⟨b, 0, none⟩ = some (.slice ao l.length cp) := q0'.cell 0
  have k1 : W0.cell? ⟨b + 1, 0, none⟩ = some (.func (.func 24) #[] #[.pointer (some ⟨b, 0, none⟩)]) := q1'.cell 0
  have k2 : W0.cell? ⟨b + 1 + 1, 0, none⟩ = some (.int .i64 (-1)) := q2'.cell 0
  have k3 : W0.cell? ⟨b + 1 + 1 + 1, 0, none⟩ = some (.int .u64 (s : Nat)) := q3.cell 0
  have f2 : W0.frozen? ⟨b + 1 + 1, 0, none⟩ = false := q2'.frozen 0
  have T0 : TabW W0 := TabW.below (by omega) B0 hT
  rw [← hbe]
  have hbP : 0 < b := by omega
  have hbL : w.heap.size ≤ b := by omega
  have hbG : b ≤ w.heap.size := by omega
  have hbH := Lib.hid hbe
  clear hbe
  clear hW0 hst HA HE q0 q1 q2 q0' q1' q2' q3
  refine wpIn_rangeFunc_ownF rfl (by omega) (gf := 34) (lb := #[.pointer (some ⟨b + 1 + 1 + 1, 0, none⟩)]) rfl trivial (enters_of Tryd.func34 (by kernel_rfl) rfl)
    (each_stops 5 (by omega) (b + 1 + 1 + 1) b (by omega) s hsl W0 (by omega) (by omega) k3 T0) belowK_t (belowK_b (by omega)) (Below.refl _ _) (fun _ => rfl)
    (fun pre W => (W.cell? ⟨b + 1 + 1, 0, none⟩ = some (.int .i64 (idl l pre)) ∧ W.frozen? ⟨b + 1 + 1, 0, none⟩ = false ∧ W.cell? ⟨b + 1, 0, none⟩ = some (.func (.func 24) #[] #[.pointer (some ⟨b, 0, none⟩)]) ∧ W.cell? ⟨b, 0, none⟩ = some (.slice ao l.length cp)) ∧ Below b w W)
    (fun _ _ _ => False)
    (OwnFrom.and (Own.from (fun s A B row hs hg hr => ⟨cell_kept hs.1 hg hr, (frozen_kept hs.1 hg hr).trans hs.2.1, cell_kept hs.2.2.1 hg hr, cell_kept hs.2.2.2 hg hr⟩) _) (ownFrom_below (by omega) (by omega)))
    (fun _ _ _ _ _ hs _ _ => hs)
    ⟨⟨k2, f2, k1, k0⟩, B0⟩
    (fun x => { tmps := #[.int .u64 (m : Nat), .int .i64 n, .slice ao l.length cp, undef, undef, .pointer (some ⟨b, 0, none⟩), .int .i64 0, .pointer (some ⟨b + 1, 0, none⟩), .pointer (some ⟨b + 1 + 1, 0, none⟩), .int .i64 ((x : Nat) : Int),
      .func (.func 24) #[] #[.pointer (some ⟨b, 0, none⟩)], .int .u64 (m : Nat), .int .i64 n, .int .u64 (s : Nat), .func (.func 34) #[] #[.pointer (some ⟨b + 1 + 1 + 1, 0, none⟩)], .int .i64 ((x : Nat) : Int), undef, undef, undef, undef, undef, undef, undef, undef, undef, undef, undef, undef, undef], defers := [] }) ?assign ?body ?done ?stop
  case assign =>
    intro l x W K hK
    gi_wp2
    exact hK
  case body =>
    rintro lp pre x W ⟨⟨hb, hf, hc, hs⟩, hB⟩ _
    have hR : Reads W (.slice ao l.length cp) (ints l) := by
      have := hv.keep (Chg.of_below (w1 := W) (by rw [← hbH.out]; exact hB)); exact this
    have hn1 : 1 ≤ 6 - 1 - 1 := by decide
    have hmx : Tryd.prog.follows .mixedOrders = true := by kernel_rfl
    have hsn := idl_snoc l pre x
    clear k0 k1 k2 k3 f2 B0
    rcases idl_range l pre with hi | ⟨y, hi⟩
    · rw [hi] at hb hsn
      have he := Lib.hid (show idl l (pre ++ [x]) = ((x : Nat) : Int) by rw [hsn]; simp [idlF])
      clear hsn hi
      have E := Lib.hid (round_kept (v' := .int .i64 (x : Nat)) hB hb hf hc hs)
      clear hB hR
      gi_wp2_with fail
      refine Go.wpIn_mono (Q := fun e a' w' => e = .normal ∧ a' = { tmps := #[.int .u64 (m : Nat), .int .i64 n, .slice ao l.length cp, undef, undef, .pointer (some ⟨b, 0, none⟩), .int .i64 0, .pointer (some ⟨b + 1, 0, none⟩), .pointer (some ⟨b + 1 + 1, 0, none⟩), .int .i64 ((x : Nat) : Int), .func (.func 24) #[] #[.pointer (some ⟨b, 0, none⟩)], .int .u64 (m : Nat), .int .i64 n, .int .u64 (s : Nat), .func (.func 34) #[] #[.pointer (some ⟨b + 1 + 1 + 1, 0, none⟩)], .int .i64 ((x : Nat) : Int), .int .i64 (-1), .bool true, .bool true, undef, undef, undef, undef, undef, undef, undef, .bool true, undef, undef], defers := [] } ∧ w' = W.drew) ?_ ?_
      · gi_region_with_o (with_reducible refine And.intro (fun _ h => (by cases h)) ?_)
        all_goals exact ⟨rfl, rfl, rfl⟩
      · rintro e a' w' ⟨rfl, rfl, rfl⟩
        gi_wp2
        exact ⟨E.out.1, E.out.2.1, ⟨by rw [he.out]; exact E.out.2.2.1.1, E.out.2.2.1.2⟩, E.out.2.2.2⟩
    · rw [hi] at hb hsn
      clear hi
      obtain ⟨g, hg⟩ : ∃ g, decide (loadI l x < loadI l y) = g := ⟨_, rfl⟩
      have he := Lib.hid (show idl l (pre ++ [x]) = if g then ((x : Nat) : Int) else ((y : Nat) : Int) by
        rw [hsn, ← hg]; unfold idlF; have : ¬ ((y : Int) = -1) := by omega
        simp [this])
      clear hsn
      have E := Lib.hid (round_kept (v' := .int .i64 (x : Nat)) hB hb hf hc hs)
      have E' := Lib.hid (round_drew hB hb hf hc hs)
      have HL := Lib.hid (fun c : Nat => CallsIn.inRound lp (callsIn_wide (n := 3) |>.2 (load_any l _ b c W.drew hs (hR.keep ((Chg.refl _ _).drew)))))
      clear hB hR
      have hy1 : ¬ ((y : Int) = -1) := by omega
      gi_wp2_with fail
      refine Go.wpIn_mono (Q := fun e a' w' => e = .normal ∧ a' = { tmps := #[.int .u64 (m : Nat), .int .i64 n, .slice ao l.length cp, undef, undef, .pointer (some ⟨b, 0, none⟩), .int .i64 0, .pointer (some ⟨b + 1, 0, none⟩), .pointer (some ⟨b + 1 + 1, 0, none⟩), .int .i64 ((x : Nat) : Int), .func (.func 24) #[] #[.pointer (some ⟨b, 0, none⟩)], .int .u64 (m : Nat), .int .i64 n, .int .u64 (s : Nat), .func (.func 34) #[] #[.pointer (some ⟨b + 1 + 1 + 1, 0, none⟩)], .int .i64 ((x : Nat) : Int), .int .i64 (y : Nat), .bool false, .bool false, .func (.func 24) #[] #[.pointer (some ⟨b, 0, none⟩)], .int .i64 (x : Nat), .int .i64 (loadI l x), .func (.func 24) #[] #[.pointer (some ⟨b, 0, none⟩)], .int .i64 (y : Nat), .int .i64 (loadI l y), .bool g, .bool g, undef, undef], defers := [] } ∧ w' = W.drew) ?_ ?_
      · gi_region_with_o (refine ⟨trivial, ?_⟩; gi_at_call 24; refine (HL.out _).mono ?_; rintro e w2 ⟨rfl, rfl⟩)
        all_goals exact ⟨rfl, rfl, rfl⟩
      · rintro e a' w' ⟨rfl, rfl, rfl⟩
        clear hg HL
        cases g
        · gi_wp2
          have E := E'
          exact ⟨E.out.1, E.out.2.1, ⟨by rw [he.out]; exact E.out.2.2.1.1, E.out.2.2.1.2⟩, E.out.2.2.2⟩
        · gi_wp2
          exact ⟨E.out.1, E.out.2.1, ⟨by rw [he.out]; exact E.out.2.2.1.1, E.out.2.2.1.2⟩, E.out.2.2.2⟩
  case done =>
    rintro D ys W hD rfl ⟨⟨hb, hf, hc, hs⟩, hB⟩ hK
    clear k0 k1 k2 k3 f2
    gi_wp2
    refine ⟨by simp, .inl ⟨_, _, rfl, run_takeDeferred hK, ?_⟩⟩
    exact ⟨_, results_tmp rfl _ _ _, rfl, Chg.of_below (by rw [← hbH.out]; exact hB.trans (belowK_b (w := W0) (by omega) W D _ _ hD hK rfl rfl))⟩
  case stop =>
    rintro D c pre W _ _ h _
    exact h.elim
end Go.Proofs.YtalnokbfffhhnaaDoor
