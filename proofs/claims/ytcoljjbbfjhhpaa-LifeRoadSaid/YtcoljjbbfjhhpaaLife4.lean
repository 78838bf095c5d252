/- life: Way. -/
import Derived.Test.YtcoljjbbfjhhpaaLifeW
import Derived.Test.YtcoljjbbfjhhpaaQue
import Derived.Deep.LoopGhost
import Derived.Scope
namespace Bosun
open Go Go.RowKit
theorem Own.ne_blk {w : World} {v : Value} {xs : List Value} {b g : Nat} {e t : TypeId} {cs : Array Value} (h : Own w b e v xs) (hg : Blk w g cs t) (ht : t ≠ e) : v.ownBlock ≠ some g := by
  intro he
  rcases h.2 with ⟨rfl, _⟩ | ⟨g', cap, cur, rfl, _, hg', _⟩
  · cases he
  · obtain rfl : g' = g := by simpa [Value.ownBlock] using he
    exact ht (hg.inj hg').2
theorem Que.ne_blk {w : World} {v : Value} {xs : List Value} {b g : Nat} {e t : TypeId} {cs : Array Value} (h : Que w b e v xs) (hg : Blk w g cs t) (ht : t ≠ e) : blkOf v ≠ some g := by
  obtain ⟨g', off, cap, cur, rfl, _, hg', _⟩ := h
  intro he
  obtain rfl : g' = g := by simpa [blkOf] using he
  exact ht (hg.inj hg').2
theorem Que.alloc {w : World} {v : Value} {xs : List Value} {b : Nat} {e : TypeId} (h : Que w b e v xs) (o : Obj) : Que (w.alloc o) b e v xs := h.keep ((Chg.refl _ _).alloc o)
theorem Own.oneCell {w : World} {v : Value} {xs : List Value} {b : Nat} {e : TypeId} (h : Own w b e v xs) : v.oneCell' = true := by
  rcases h.2 with ⟨rfl, _⟩ | ⟨g', cap, cur, rfl, _⟩ <;> rfl
theorem ints_one (l : List Int) : ∀ v ∈ ints l, v.oneCell' = true := by
  intro v hv
  simp only [ints, List.mem_map] at hv
  obtain ⟨_, _, rfl⟩ := hv
  rfl
end Bosun
namespace Go.Proofs.Ytcoljjbbfjhhpaa
open Go.RowKit Bosun
def boolsA (l : List Bool) : Array Value := (l.map Value.bool).toArray
theorem infoInt : (Try.prog.info? 3).map (fun i => (i.zero, i.size, i.bytes)) = some (some (.int .i64 0), 1, 8) := by kernel_rfl
/-- Where the search stands in memory. -/
structure WayAt (b : Nat) (w : World) (gm gr : Nat) (s : Sk) (v : Value) (rv : List Value) : Prop where
  met : Blk w gm (boolsA s.met) 44
  rows : Blk w gr rv.toArray 45
  len : rv.length = 7
  row : ∀ i (h : i < rv.length), Own w b 3 rv[i] (ints (s.rows.getD i []))
  line : Que w b 3 v (ints s.line)
  far : ∀ i (h : i < rv.length), rv[i].ownBlock ≠ blkOf v

theorem WayAt.keep {b : Nat} {w w1 : World} {gm gr : Nat} {s : Sk} {v : Value} {rv : List Value} (h : WayAt b w gm gr s v rv) (hc : Chg [] w w1) : WayAt b w1 gm gr s v rv :=
  ⟨h.met.chg hc (by simp), h.rows.chg hc (by simp), h.len, fun i hi => (h.row i hi).keep hc, h.line.keep hc, h.far⟩

theorem WayAt.ne {b : Nat} {w : World} {gm gr : Nat} {s : Sk} {v : Value} {rv : List Value} (h : WayAt b w gm gr s v rv) : gr ≠ gm := by
  intro e
  have := h.rows
  rw [e] at this
  exact absurd (this.inj h.met).2 (by decide)
theorem WayAt.grown {b : Nat} {w2 w3 w6 w7 w9 : World} {gm gr : Nat} {s : Sk} {v : Value} {rv : List Value} (V : WayAt b w2 gm gr s v rv) {q : Nat} (hq : q < 7) (hs : s.rows.length = 7) {v6 v9 : Value} {l : List Int} (hb : b ≤ w2.heap.size)
    (B3 : Blk w3 gm ((boolsA s.met).setIfInBounds q (.bool true)) 44) (C3 : Chg [gm] w2 w3) (D6 : Chg [] w3 w6) (O6 : Own w6 w3.heap.size 3 v6 (ints l))
    (B7 : Blk w7 gr (rv.toArray.setIfInBounds q v6) 45) (C7 : Chg [gr] w6 w7) (Q9 : Que w9 b 3 v9 (ints (s.line ++ [(q : Int)]))) (D9 : Chg (blkOf v).toList w7 w9)
    (L9 : blkOf v9 = blkOf v ∨ ∃ n, blkOf v9 = some n ∧ w7.heap.size ≤ n) : WayAt b w9 gm gr ⟨s.met.set q true, s.rows.set q l, s.line ++ [(q : Int)]⟩ v9 (rv.set q v6) := by
  have ne := V.ne
  obtain ⟨gl, hgl, hgl1, hgl2⟩ := V.line.block
  have z3 := C3.size
  have z6 := D6.size
  have z7 := C7.size
  have ml : gm ≠ gl := fun e => V.line.ne_blk V.met (by decide) (by rw [hgl, e])
  have rl : gr ≠ gl := fun e => V.line.ne_blk V.rows (by decide) (by rw [hgl, e])
  have h6 : ∀ g, v6.ownBlock = some g → w3.heap.size ≤ g ∧ g < w6.heap.size := fun g hg => O6.block g (by rw [hg]; simp)
  have hold : ∀ i (h : i < rv.length) g, rv[i].ownBlock = some g → g < w2.heap.size := fun i h g hg => ((V.row i h).block g (by rw [hg]; simp)).2
  have O7 := O6.chg C7 (fun g hg => by simp at hg; subst hg; exact O6.ne_blk ((V.rows.chg C3 (by simp; exact ne)).chg D6 (by simp)) (by decide))
  refine ⟨?_, ?_, by rw [List.length_set]; exact V.len, fun i h => ?_, Q9, fun i h => ?_⟩
  · have e : boolsA (s.met.set q true) = (boolsA s.met).setIfInBounds q (.bool true) := by unfold boolsA; rw [List.map_set]; simp
    simp only [e]
    exact ((B3.chg D6 (by simp)).chg C7 (by simp; exact ne.symm)).chg D9 (by rw [hgl]; simp; exact ml)
  · have e : (rv.set q v6).toArray = rv.toArray.setIfInBounds q v6 := by simp
    rw [e]
    exact B7.chg D9 (by rw [hgl]; simp; exact rl)
  · rw [List.length_set] at h
    rw [List.getElem_set]
    by_cases hi : q = i
    · subst hi
      rw [if_pos rfl]
      have e : (s.rows.set q l).getD q [] = l := by rw [List.getD_eq_getElem?_getD, List.getElem?_set_self (by omega)]; rfl
      simp only [e]
      exact (O7.chg D9 (fun g hg => by rw [hgl] at hg; simp at hg; subst hg; intro he; have := h6 _ he; omega)).mono (by omega)
    · rw [if_neg hi]
      have e : (s.rows.set q l).getD i [] = s.rows.getD i [] := by rw [List.getD_eq_getElem?_getD, List.getElem?_set_ne hi, ← List.getD_eq_getElem?_getD]
      simp only [e]
      have R := V.row i h
      have R3 := (R.chg C3 (fun g hg => by simp at hg; subst hg; exact R.ne_blk V.met (by decide))).keep D6
      have R7 := R3.chg C7 (fun g hg => by simp at hg; subst hg; exact R.ne_blk V.rows (by decide))
      exact R7.chg D9 (fun g hg => by rw [hgl] at hg; simp at hg; subst hg; rw [← hgl]; exact V.far i h)
  · rw [List.length_set] at h
    rw [List.getElem_set]
    by_cases hi : q = i
    · rw [if_pos hi]
      intro he
      rcases L9 with L | ⟨n, L, hn⟩
      · rw [L, hgl] at he
        have := h6 _ he
        omega
      · rw [L] at he
        have := h6 _ he
        omega
    · rw [if_neg hi]
      intro he
      rcases L9 with L | ⟨n, L, hn⟩
      · rw [L] at he
        exact V.far i h he
      · rw [L] at he
        have := hold i h _ he
        omega
set_option maxHeartbeats 1000000 in
theorem way_out (a to : Int) (h : ¬ ((0 ≤ a ∧ a < 7) ∧ (0 ≤ to ∧ to < 7))) (w : World) :
    Calls Try.prog 18 #[.int .i64 a, .int .i64 to] w fun e w' => e = .returned (.tuple #[.slice none 0 0, .bool false]) ∧ w = w' := by
  have ha := fun w => is_any a w
  have ht := fun w => is_any to w
  rcases (show decide (0 ≤ a ∧ a < 7) = false ∨ (decide (0 ≤ a ∧ a < 7) = true ∧ decide (0 ≤ to ∧ to < 7) = false) by
    by_cases h1 : 0 ≤ a ∧ a < 7
    · exact .inr ⟨by simpa using h1, by simp; omega⟩
    · exact .inl (by simp; omega)) with e | ⟨e, e2⟩
  · rw [e] at ha
    have HA := Lib.hid ha
    clear ha ht e h
    go_enter Try.func18, Try.ntmps18
    go_wp2_with fail
    go_step3
    go_wp2_with (go_at_call 22; (with_reducible refine (HA.out _).mono ?_); rintro e w' ⟨rfl, rfl⟩)
    rw [Exit.noGoto_ret]
    go_ret2
    exact ⟨rfl, rfl⟩
  · rw [e] at ha
    rw [e2] at ht
    have HA := Lib.hid ha
    have HT := Lib.hid ht
    clear ha ht e e2 h
    go_enter Try.func18, Try.ntmps18
    go_wp2_with fail
    go_step3
    go_wp2_with (first
      | (go_at_call 22; (with_reducible refine (HA.out _).mono ?_); rintro e w' ⟨rfl, rfl⟩)
      | (go_at_call 22; (with_reducible refine (HT.out _).mono ?_); rintro e w' ⟨rfl, rfl⟩))
    rw [Exit.noGoto_ret]
    go_ret2
    exact ⟨rfl, rfl⟩

set_option maxRecDepth 100000 in
set_option maxHeartbeats 4000000 in
theorem way_in (a to : Nat) (ha : a < 7) (ht : to < 7) (w : World) :
    Calls Try.prog 18 #[.int .i64 a, .int .i64 to] w fun e w' => ∃ v, e = .returned (.tuple #[v, .bool (wayL a to).2]) ∧ Own w' w.heap.size 3 v (ints (wayL a to).1) ∧ Chg [] w w' := by
  have HA := Lib.hid (show ∀ w, _ from fun w => by have := is_any a w; rw [show decide (0 ≤ (a : Int) ∧ (a : Int) < 7) = true from by simp; omega] at this; exact this)
  have HT := Lib.hid (show ∀ w, _ from fun w => by have := is_any to w; rw [show decide (0 ≤ (to : Int) ∧ (to : Int) < 7) = true from by simp; omega] at this; exact this)
  obtain ⟨R, hR⟩ : ∃ R, R = wayL a to := ⟨_, rfl⟩
  rw [← hR]
  have HR := Lib.hid hR
  clear hR
  go_enter Try.func18, Try.ntmps18
  go_wp2_with fail
  go_step3
  go_wp2_with (first
    | (go_at_call 22; (with_reducible refine (HA.out _).mono ?_); rintro e w' ⟨rfl, rfl⟩)
    | (go_at_call 22; (with_reducible refine (HT.out _).mono ?_); rintro e w' ⟨rfl, rfl⟩)
    | (refine wpList_new_row rfl 44 rfl (boolsA (List.replicate 7 false)) (by kernel_rfl) ?_; intro w1 B1 C1 s1)
    | (refine wpList_new_row rfl 45 rfl (Array.replicate 7 (.slice none 0 0)) (by kernel_rfl) ?_; intro w2 B2 C2 s2)
    | (refine wpList_val_store rfl 4 (.tmp 22) (.const (.bool true)) rfl w.heap.size a rfl (.bool true) rfl _ _ (B1.chg C2 (by simp)) (by simp [boolsA]; omega) (by kernel_rfl) rfl ?_; intro w3 B3 C3))
  obtain ⟨w4, hw4⟩ : ∃ w4, w4 = w3.alloc (.cells #[.int .i64 (a : Nat)] 3) := ⟨_, rfl⟩
  rw [← hw4]
  have C4 : Chg [] w3 w4 := by rw [hw4]; exact (Chg.refl _ _).alloc _
  have B4 : Blk w4 w3.heap.size #[.int .i64 (a : Nat)] 3 := by rw [hw4]; exact Blk.new _ _ _
  have z3 := C3.size
  have z4 := C4.size
  have HC : Chg [] w w4 := ((C1.then C2 (by simp)).then C3 (fun g hg => .inr (by simp at hg; omega))).then C4 (by simp)
  obtain ⟨gm, hgm⟩ : ∃ gm, gm = w.heap.size := ⟨_, rfl⟩
  obtain ⟨gr, hgr⟩ : ∃ gr, gr = w.heap.size + 1 := ⟨_, rfl⟩
  have W4 : WayAt w.heap.size w4 gm gr (startSk a) (.slice (some ⟨w3.heap.size, 0, none⟩) 1 1) (List.replicate 7 (.slice none 0 0)) := by
    refine ⟨?_, ?_, by simp, fun i h => ?_, ?_, fun i h => ?_⟩
    · have := B3.chg C4 (by simp)
      rw [hgm]
      have e : boolsA (startSk a).met = (boolsA (List.replicate 7 false)).setIfInBounds a (.bool true) := by unfold startSk boolsA; rw [List.map_set]; simp
      rw [e]; exact this
    · have := (B2.chg C3 (by simp; omega)).chg C4 (by simp)
      rw [s1, ← hgr] at this
      exact this
    · rw [startSk_rows, List.getElem_replicate]
      exact Own.nil _ _ _
    · refine ⟨w3.heap.size, 0, 1, _, by simp [startSk_line, ints], by omega, B4, by simp, by simp [startSk_line, ints], by unfold maxLen; omega, fun j x hx => ?_⟩
      match j, hx with
      | 0, hx => have e : (ints (startSk a).line)[0]? = some (.int .i64 (a : Nat)) := rfl
                 rw [e] at hx; simpa using hx
    · rw [List.getElem_replicate]; simp [Value.ownBlock, blkOf]
  rw [← hgr, ← hgm]
  have hz : w.heap.size ≤ gm ∧ w.heap.size ≤ gr := by omega
  clear hw4 B1 B2 B3 B4 C1 C2 C3 C4 s1 s2 z3 z4 hgr hgm
  go_step3
  go_wp2_with fail
  go_loopg [8] 7 (fun k x8 wr => ∃ j rv, j + k = 7 ∧ WayAt w.heap.size wr gm gr (skAt a to j) x8 rv ∧ Chg [] w wr)
  case atStart => exact ⟨0, _, rfl, W4, HC⟩
  case round =>
    obtain ⟨j, rv, hj, W, H⟩ := hrel
    obtain ⟨s, hs⟩ : ∃ s, s = skAt a to j := ⟨_, rfl⟩
    rw [← hs] at W
    have hok : s.ok (j * 10) := by rw [hs]; exact skAt_ok to ha j
    have hend : stops to s = true → R = (s.rows.getD to [], s.met.getD to false) := fun h => by rw [HR.out, wayL_of (k := j) (by omega) (by rw [← hs]; exact h), ← hs]
    have HS := Lib.hid hs
    have HEND := Lib.hid hend
    clear hs hend
    have hto : to < rv.length := by rw [W.len]; exact ht
    have hmto : to < s.met.length := by rw [hok.met]; exact ht
    have c1 : wr.cell? ⟨gr, to, none⟩ = some rv[to] := by rw [W.rows.cell]; simp [hto]
    have c2 : wr.cell? ⟨gm, to, none⟩ = some (.bool s.met[to]) := by rw [W.met.cell]; simp [boolsA, hmto]
    have hO := W.row to hto
    have hm2 : s.met.getD to false = s.met[to] := by rw [List.getD_eq_getElem?_getD, List.getElem?_eq_getElem hmto]; rfl
    obtain ⟨vt, hvt⟩ : ∃ v, v = rv[to] := ⟨_, rfl⟩
    obtain ⟨mt, hmt⟩ : ∃ m, m = s.met[to] := ⟨_, rfl⟩
    rw [← hvt] at c1 hO
    rw [← hmt] at c2 hm2
    have HM := Lib.hid hm2
    clear hvt hmt hm2
    cases hl : s.line with
    | nil =>
      have hR := HEND.out (by unfold stops; rw [hl])
      rw [HM.out] at hR
      obtain ⟨g, off, cap, cur, hx8, _⟩ := W.line
      rw [hl] at hx8
      obtain rfl : u8 = .slice (some ⟨g, off, none⟩) 0 cap := hx8
      have hR2 : (ints (s.rows.getD to [])) = ints R.1 := by rw [hR]
      have hR3 : mt = R.2 := by rw [hR]
      have HR2 := Lib.hid hR2
      subst hR3
      clear hR hR2 hl
      go_wp2_with fail
      go_quiet (fail)
      go_wp2_with fail
      rw [Exit.noGoto_ret]
      go_ret2
      exact ⟨_, rfl, by rw [← HR2.out]; exact hO.keep ((Chg.refl _ _).drewN _), H.drewN _⟩
    | cons x r =>
      obtain ⟨n, rfl, hn⟩ : ∃ n : Nat, x = n ∧ n < 7 := ⟨x.toNat, by have := hok.line x (by rw [hl]; simp); omega, by have := hok.line x (by rw [hl]; simp); omega⟩
      have hlr : r.length ≤ 80 := by have := hok.len; rw [hl] at this; simp at this; omega
      have hQ := W.line
      rw [hl] at hQ
      have hQ0 := hQ
      obtain ⟨g, off, cap, cur, hx8, _, hB, _, _, hcap, hcur⟩ := hQ0
      obtain rfl : u8 = .slice (some ⟨g, off, none⟩) (r.length + 1) cap := by rw [hx8]; simp [ints]
      have c0 : wr.cell? ⟨g, off, none⟩ = some (.int .i64 (n : Nat)) := by rw [hB.cell]; exact hcur 0 _ rfl
      have HQ := Lib.hid hQ
      have HL := Lib.hid hl
      unfold maxLen at hcap
      clear hx8 hB hcur hQ hl
      by_cases hnt : n = to
      · have hR := HEND.out (by unfold stops; rw [HL.out]; simp [hnt])
        rw [HM.out] at hR
        have hR2 : (ints (s.rows.getD to [])) = ints R.1 := by rw [hR]
        have hR3 : mt = R.2 := by rw [hR]
        have HR2 := Lib.hid hR2
        subst hR3
        have e1 : ((n : Int) == (to : Int)) = true := by simp [hnt]
        clear hR hR2 hnt
        go_wp2_with (refine wpList_que_tail rfl 22 (.tmp 31) (.const (.int .i64 1)) rfl w.heap.size 3 Try.underlying22 (by kernel_rfl) .i64 rfl _ rfl (.int .i64 (n : Nat)) (ints r) HQ.out ?_; intro v' q1 q2)
        go_quiet (fail)
        go_wp2_with fail
        rw [Exit.noGoto_ret]
        go_ret2
        exact ⟨_, rfl, by rw [← HR2.out]; exact hO.keep ((Chg.refl _ _).drewN _), H.drewN _⟩
      · have e1 : ((n : Int) == (to : Int)) = false := by simp only [beq_eq_false_iff_ne, ne_eq]; omega
        have hst : stops to s = false := by unfold stops; rw [HL.out]; exact e1
        have hj7 : j < 7 := by
          rcases Nat.lt_or_ge j 7 with h | h
          · exact h
          · have := way_done a ha to ht
            rw [show (7 : Nat) = j from by omega, ← HS.out, hst] at this
            cases this
        have hnext : skAt a to (j + 1) = inner n ⟨s.met, s.rows, r⟩ 10 := by
          show outer to (skAt a to j) = _
          rw [← HS.out, outer_goes hst HL.out]
        have HN := Lib.hid hnext
        have hok2 := hok.tail HL.out
        clear hnt hst hnext c1 c2 hO
        go_wp2_with (refine wpList_que_tail rfl 22 (.tmp 31) (.const (.int .i64 1)) rfl w.heap.size 3 Try.underlying22 (by kernel_rfl) .i64 rfl _ rfl (.int .i64 (n : Nat)) (ints r) HQ.out ?_; intro v' q1 q2)
        have W' : WayAt w.heap.size wr gm gr ⟨s.met, s.rows, r⟩ v' rv := ⟨W.met, W.rows, W.len, W.row, q1, fun i h => by rw [q2]; exact W.far i h⟩
        clear q1 q2
        clear c0 hcap HM
        obtain ⟨s', hs'⟩ : ∃ s', s' = Sk.mk s.met s.rows r := ⟨_, rfl⟩
        rw [← hs'] at W' hok2
        rw [← hs'] at HN
        clear hs'
        go_loopw [8, 36] (fun x8 i wi => ∃ (m : Nat) (rv : List Value), m ≤ 10 ∧ i = .int .i64 m ∧ WayAt w.heap.size wi gm gr (inner n s' m) x8 rv ∧ Chg [] w wi) (fun _ i _ => 10 - (intOf i).toNat)
        case atStart => exact ⟨0, rv, by omega, rfl, W', H⟩
        case round =>
          rename_i wi _
          obtain ⟨m, rv2, hm, rfl, V, K⟩ := hrel
          by_cases hm10 : m < 10
          · obtain ⟨si, hsi⟩ : ∃ si, si = inner n s' m := ⟨_, rfl⟩
            rw [← hsi] at V
            have hoki : si.ok (j * 10 + m) := by rw [hsi]; exact hok2.inner _ m
            have hstep : inner n s' (m + 1) = stepM n m si := by rw [hsi]; rfl
            have HSTEP := Lib.hid hstep
            clear hsi hstep
            go_wp2_with fail
            refine (next_any n m _).mono ?_
            rintro e w2 ⟨rfl, C2⟩
            have K2 := K.then C2 (by simp)
            cases hg : goes n m with
            | none =>
              have e2 : inner n s' (m + 1) = si := by rw [HSTEP.out]; unfold stepM; rw [hg]
              have HE2 := Lib.hid e2
              clear hg e2
              simp only [Option.getD_none, Option.isSome_none]
              go_wp2_with fail
              go_roundw
              case rel => exact ⟨m + 1, rv2, by omega, by go_num, by rw [HE2.out]; exact V.keep C2, K2⟩
              case measure => simp [intOf] <;> omega
            | some y =>
              have hy := goes_range hg
              obtain ⟨q, rfl, hq⟩ : ∃ q : Nat, y = q ∧ q < 7 := ⟨y.toNat, by omega, by omega⟩
              simp only [Option.getD_some, Option.isSome_some]
              have hqm : q < si.met.length := by rw [hoki.met]; exact hq
              have V2 := V.keep C2
              have c3 : w2.cell? ⟨gm, q, none⟩ = some (.bool si.met[q]) := by rw [V2.met.cell]; simp [boolsA, hqm]
              have hgd : si.met.getD q false = si.met[q] := by rw [List.getD_eq_getElem?_getD, List.getElem?_eq_getElem hqm]; rfl
              have HGD := Lib.hid hgd
              have HG := Lib.hid hg
              clear hg hgd hy
              cases hb : si.met[q] with
              | true =>
                rw [hb] at c3
                have e2 : inner n s' (m + 1) = si := by rw [HSTEP.out]; unfold stepM; rw [HG.out]; simp only [Int.toNat_natCast]; rw [HGD.out, hb]; rfl
                have HE2 := Lib.hid e2
                clear hb e2
                go_wp2_with fail
                go_roundw
                case rel => exact ⟨m + 1, rv2, by omega, by go_num, by rw [HE2.out]; exact V2, K2⟩
                case measure => simp [intOf] <;> omega
              | false =>
                rw [hb] at c3
                have e2 : inner n s' (m + 1) = ⟨si.met.set q true, si.rows.set q (si.rows.getD n [] ++ [(m : Int)]), si.line ++ [(q : Int)]⟩ := by rw [HSTEP.out]; unfold stepM; rw [HG.out]; simp only [Int.toNat_natCast]; rw [HGD.out, hb]; rfl
                have HE2 := Lib.hid e2
                clear hb e2
                have hn2 : n < rv2.length := by rw [V2.len]; exact hn
                obtain ⟨vn, hvn⟩ : ∃ v, v = rv2[n] := ⟨_, rfl⟩
                have hOn := V2.row n hn2
                have hFn := V2.far n hn2
                rw [← hvn] at hOn hFn
                have c4 : w2.cell? ⟨gr, n, none⟩ = some vn := by rw [V2.rows.cell, hvn]; simp [hn2]
                clear hvn
                have hlen : (si.rows.getD n []).length ≤ 80 := by
                  rw [List.getD_eq_getElem?_getD]
                  cases he : si.rows[n]? with
                  | none => simp
                  | some z => have := hoki.each z (List.mem_of_getElem? he); simp; omega
                have hll : si.line.length ≤ 90 := by have := hoki.len; omega
                have hI1 : (ints (si.rows.getD n [])).length ≤ 80 := by rw [ints_len]; exact hlen
                have hI2 : (ints si.line).length ≤ 90 := by rw [ints_len]; exact hll
                have hbw : w.heap.size ≤ w2.heap.size := K2.size
                go_wp2_with (first
                  | (refine wpList_val_store rfl 4 (.tmp 53) (.const (.bool true)) rfl gm q rfl (.bool true) rfl _ _ V2.met (by simp [boolsA]; omega) (by kernel_rfl) rfl ?_
                     intro w3 B3 C3
                     have c5 : (w3.alloc (.cells #[] 3)).cell? ⟨gr, n, none⟩ = some vn := by (rw [World.cell?_of_block ((C3.alloc _).block gr V2.rows.lt (by simp; exact V2.ne))]; exact c4)
                     have On3 := hOn.chg C3 (fun g hg => by simp at hg; subst hg; exact hOn.ne_blk V2.met (by decide))
                     have z3 := C3.size)
                  | (refine wpList_app_own rfl (.tmp 55) (.tmp 58) 22 rfl w3.heap.size 3 (.int .i64 0) 8 Try.underlying22 infoInt rfl _ [] rfl (Own.of_blk (Blk.new w3 #[] 3) (Nat.le_refl _) rfl (Nat.le_refl _) (by decide) rfl) _ w.heap.size 3 _ rfl (On3.alloc _) (ints_one _) (by simp only [List.length_nil, List.length_append, List.length_cons, List.nil_append, maxLen]; omega) (by simp only [List.length_nil, List.length_append, List.length_cons, List.nil_append]; omega) (by simp) ?_
                     intro v5 w5 O5 C5 L5
                     have D5 : Chg [] w3 w5 := ((Chg.refl _ _).alloc _).then C5 (fun g hg => .inr (Nat.le_of_eq (List.mem_singleton.1 (show g ∈ [w3.heap.size] from hg)).symm))
                     have z5 := D5.size)
                  | (refine wpList_app1_at rfl (.tmp 59) (.tmp 61) 22 rfl w3.heap.size 3 (.int .i64 0) 8 Try.underlying22 infoInt rfl _ _ rfl (O5.alloc _) w5.heap.size 1 (.int .i64 (m : Nat)) rfl (by rw [(Blk.new _ _ _).cell]; rfl) rfl (by simp only [List.length_nil, List.length_append, List.length_cons, List.nil_append, maxLen]; omega) (by simp only [List.length_nil, List.length_append, List.length_cons, List.nil_append]; omega) (by simp; omega) ?_
                     intro v6 w6 O6 C6 L6
                     have D6 : Chg [] w3 w6 := (D5.alloc _).then C6 (fun g hg => .inr (O5.block g hg).1)
                     have R6 := (V2.rows.chg C3 (by simp; exact V2.ne)).chg D6 (by simp)
                     have z6 := D6.size)
                  | (refine wpList_val_store rfl 22 (.tmp 63) (.tmp 62) rfl gr q rfl v6 rfl _ _ R6 (by simp [V2.len]; exact hq) (by kernel_rfl) O6.oneCell ?_
                     intro w7 B7 C7
                     have z7 := C7.size
                     have L7 := (((V2.line.chg C3 (fun g hg => by simp at hg; subst hg; exact V2.line.ne_blk V2.met (by decide))).keep D6).chg C7 (fun g hg => by simp at hg; subst hg; exact V2.line.ne_blk V2.rows (by decide))))
                  | (refine wpList_que_app rfl (.tmp 64) (.tmp 66) 22 rfl w.heap.size 3 (.int .i64 0) 8 Try.underlying22 infoInt rfl _ _ rfl (L7.alloc _) w7.heap.size 1 (.int .i64 (q : Nat)) rfl (by rw [(Blk.new w7 #[.int .i64 (q : Nat)] 3).cell]; rfl) rfl (by unfold maxLen; omega) (by omega) (by simp; omega) ?_
                     intro v9 w9 Q9 C9 L9))
                have e6 : ints (si.rows.getD n []) ++ [Value.int .i64 (m : Nat)] = ints (si.rows.getD n [] ++ [(m : Int)]) := by simp [ints]
                have e9 : ints si.line ++ [Value.int .i64 (q : Nat)] = ints (si.line ++ [(q : Int)]) := by simp [ints]
                rw [List.nil_append, e6] at O6
                rw [e9] at Q9
                have V9 := V2.grown hq hoki.rows hbw B3 C3 D6 O6 B7 C7 Q9 (((Chg.refl _ _).alloc _).then C9 (fun g hg => .inl hg)) (L9.imp id (fun ⟨n, h1, h2⟩ => ⟨n, h1, by simp at h2; omega⟩))
                have z9 := C9.size
                have KK : Chg [] w w9 := by
                  refine ((((K2.then C3 (fun g hg => .inr (by simp at hg; omega))).then D6 (by simp)).then C7 (fun g hg => .inr (by simp at hg; omega))).alloc _).then (S' := (blkOf u8).toList) C9 (fun g hg => .inr ?_)
                  obtain ⟨gl, h1, h2, _⟩ := V2.line.block
                  rw [h1] at hg
                  simp at hg
                  omega
                go_roundw
                case rel => exact ⟨m + 1, _, by omega, by go_num, by rw [HE2.out]; exact V9, KK⟩
                case measure => simp [intOf] <;> omega
          · obtain rfl : m = 10 := by omega
            go_wp2_with fail
            go_roundg (gk - 1)
            case rel => exact ⟨j + 1, rv2, by omega, by rw [HN.out]; exact V, K⟩
            case measure => omega
end Go.Proofs.Ytcoljjbbfjhhpaa
