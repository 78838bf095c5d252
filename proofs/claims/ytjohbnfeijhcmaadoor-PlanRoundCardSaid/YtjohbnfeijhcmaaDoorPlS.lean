/- plan: the walks of Clamp, Round (twice). -/
import Derived.Test.YtjohbnfeijhcmaaDoorPl9
import Derived.Test.YtjohbnfeijhcmaaDoorPlR
import Derived.Test.YtjohbnfeijhcmaaDoorCells
import Derived.BigRegion
namespace Bosun
open Go Go.RowKit Go.ChangeShapes Go.WideShapes Go.ChangeAt
/-- A block holds entries. -/
def EntsAt (w : World) (g : Nat) (t : TypeId) (l : List Ent) : Prop := ∃ cs : Array Value, Blk w g cs t ∧ cs.size = l.length * 3 ∧ ∀ i e, l[i]? = some e → ∀ j, j < 3 → cs[i * 3 + j]? = e.cells[j]?
theorem EntsAt.cells {w : World} {g : Nat} {t : TypeId} {l : List Ent} (h : EntsAt w g t l) : Blk w g (flatE l).toArray t := by
  obtain ⟨cs, hb, hs, hc⟩ := h
  have : cs = (flatE l).toArray := by
    apply Array.ext_getElem?
    intro k
    rcases Nat.lt_or_ge k (l.length * 3) with hk | hk
    · have hi : k / 3 < l.length := by omega
      have h1 := hc (k / 3) _ (List.getElem?_eq_getElem hi) (k % 3) (by omega)
      have h2 := flatE_get l (k / 3) _ (List.getElem?_eq_getElem hi) (k % 3) (by omega)
      rw [show k / 3 * 3 + k % 3 = k by omega] at h1 h2
      rw [h1, List.getElem?_toArray, h2]
    · rw [Array.getElem?_eq_none (by omega), Array.getElem?_eq_none (by simp [flatE_len]; omega)]
  rw [← this]; exact hb
theorem EntsAt.of {w : World} {g : Nat} {t : TypeId} {l : List Ent} (h : Blk w g (flatE l).toArray t) : EntsAt w g t l :=
  ⟨_, h, by simp [flatE_len], fun i e he j hj => by rw [List.getElem?_toArray]; exact flatE_get l i e he j hj⟩
theorem EntsAt.own {w : World} {g b : Nat} {t : TypeId} {l : List Ent} (h : EntsAt w g t l) (hb : b ≤ g) (hl : l.length ≤ 10000) : OwnE w b t (.slice (some ⟨g, 0, none⟩) l.length l.length) l := by
  have hB := h.cells
  refine ⟨flatE_len l, .inr ⟨g, l.length, _, rfl, hb, hB, Nat.le_refl _, by unfold maxLen; omega, by simp [flatE_len], ?_⟩⟩
  rw [← flatE_len, List.take_length]
/-- An entry is put in its place. -/
theorem EntsAt.put {w' : World} {g : Nat} {t : TypeId} {l : List Ent} {cs cur : Array Value} {i : Nat} {e : Ent} (hs : cs.size = l.length * 3) (hc : ∀ i e, l[i]? = some e → ∀ j, j < 3 → cs[i * 3 + j]? = e.cells[j]?)
    (hb : Blk w' g cur t) (hz : cur.size = cs.size) (hg : ∀ j, cur[j]? = if i * 3 ≤ j ∧ j < i * 3 + 3 then e.cells[j - i * 3]? else cs[j]?) : EntsAt w' g t (l.set i e) := by
  refine ⟨cur, hb, by rw [hz, hs, List.length_set], fun k f hf j hj => ?_⟩
  rw [hg]
  by_cases hk : k = i
  · subst hk
    rw [if_pos (by omega)]
    rw [List.getElem?_set] at hf
    simp at hf
    obtain ⟨_, rfl⟩ := hf
    congr 1; omega
  · rw [if_neg (by omega)]
    rw [List.getElem?_set_ne (by omega)] at hf
    exact hc k f hf j hj
theorem EntsAt.putTick {w : World} {g : Nat} {t : TypeId} {l : List Ent} {i : Nat} {e : Ent} (h : EntsAt w g t l) (he : l[i]? = some e) (b : Bool) : EntsAt (w.setCell ⟨g, i * 3 + 1, none⟩ (.bool b)) g t (l.set i { e with tick := b }) := by
  obtain ⟨cs, hb, hs, hc⟩ := h
  refine ⟨_, hb.setCell _ _, by simpa using hs, fun k f hf j hj => ?_⟩
  by_cases hk : k = i
  · subst hk
    have hkl := (List.getElem?_eq_some_iff.1 he).1
    rw [List.getElem?_set] at hf
    simp [hkl] at hf
    subst hf
    have h0 := hc k e he j hj
    by_cases hj1 : j = 1
    · subst hj1
      rw [Array.getElem?_setIfInBounds_self, if_pos (by omega)]
      rfl
    · rw [Array.getElem?_setIfInBounds_ne (by omega), h0]
      match j, hj with
      | 0, _ => rfl
      | 1, _ => exact absurd rfl hj1
      | 2, _ => rfl
  · rw [List.getElem?_set_ne (by omega)] at hf
    rw [Array.getElem?_setIfInBounds_ne (by omega)]
    exact hc k f hf j hj
/-- So far gone round. -/
def soFar (n s : Nat) (q : Int) (i : Nat) : List Ent := rnd n i q ++ List.replicate (s - i) ⟨0, false, 0⟩
theorem soFar_len {n s i : Nat} (q : Int) (h : i ≤ s) : (soFar n s q i).length = s := by simp [soFar, rnd_len]; omega
theorem soFar_step {n s i : Nat} (q : Int) (h : i < s) : (soFar n s q i).set i (rndE n q i) = soFar n s q (i + 1) := by
  unfold soFar
  rw [List.set_append_right _ _ (by rw [rnd_len]; exact Nat.le_refl _), rnd_len, Nat.sub_self, rnd_succ, List.append_assoc]
  congr 1
  rw [show s - i = (s - (i + 1)) + 1 by omega, List.replicate_succ]
  rfl
theorem soFar_end (n s : Nat) (q : Int) : soFar n s q s = rnd n s q := by simp [soFar]
end Bosun
namespace Go.Proofs.YtjohbnfeijhcmaaDoor
open Go.RowKit Bosun Go.ChangeShapes Go.WideShapes Go.ChangeAt
set_option maxHeartbeats 4000000 in
theorem clamp_any (x lo hi : Int) (w : World) (hlh : lo ≤ hi) : Calls Tryd.prog 29 #[.int .i64 x, .int .i64 lo, .int .i64 hi] w fun e w' => e = .returned (.int .i64 (min (max x lo) hi)) ∧ w' = w := by
  go_enter Tryd.func29, Tryd.ntmps29
  by_cases h1 : x < lo
  · go_wp2_with fail
    go_ret
    exact ⟨ret_int (by omega), rfl⟩
  · go_wp2_with fail
    all_goals
      go_ret
      exact ⟨ret_int (by omega), rfl⟩
theorem made_ents (m : Nat) : madeCells #[Value.int .i64 0, .bool false, .int .u64 0] (m * 3) = (flatE (List.replicate m ⟨0, false, 0⟩)).toArray := by
  apply Array.ext_getElem?
  intro k
  rcases Nat.lt_or_ge k (m * 3) with hk | hk
  · have hi : k / 3 < m := by omega
    have h2 := flatE_get (List.replicate m ⟨0, false, 0⟩) (k / 3) ⟨0, false, 0⟩ (by simp [hi]) (k % 3) (by omega)
    rw [show k / 3 * 3 + k % 3 = k by omega] at h2
    have h5 : (flatE (List.replicate m ⟨0, false, 0⟩)).toArray[k]? = (flatE (List.replicate m ⟨0, false, 0⟩))[k]? := by simp
    rw [h5, h2]
    unfold madeCells
    rw [Array.getElem?_map, Array.getElem?_range, if_pos hk]
    have h3 : k % 3 < 3 := Nat.mod_lt _ (by omega)
    simp only [Option.map_some, List.size_toArray, List.length_cons, List.length_nil]
    match h4 : k % 3, h3 with
    | 0, _ => simp [Ent.cells]
    | 1, _ => simp [Ent.cells]
    | 2, _ => simp [Ent.cells]
  · rw [Array.getElem?_eq_none (by simp [madeCells]; omega), Array.getElem?_eq_none (by simp [flatE_len]; omega)]
theorem mk_ents (m : Nat) (hm : m ≤ 10000) (w : World) : (Instr.makeSlice 23 (.int .i64 (m : Nat)) (.int .i64 (m : Nat))).run Tryd.prog w = .ok (.slice (some ⟨w.heap.size, 0, none⟩) m m) (w.alloc (.cells (flatE (List.replicate m ⟨0, false, 0⟩)).toArray 36)) := by
  obtain ⟨i0, hi0, hz0, hz1, hz2⟩ := info_parts infoE'
  have h := run_make (P := Tryd.prog) w 23 36 i0 (.agg #[.int .i64 0, .bool false, .int .u64 0]) Tryd.underlying23 hi0 hz0 .i64 .i64 (m : Nat) (m : Nat) (by omega) (by omega) (by rw [hz2]; omega) (by omega)
  rw [h, hz1]
  have e1 : (Value.agg #[Value.int .i64 0, .bool false, .int .u64 0]).cells = #[Value.int .i64 0, .bool false, .int .u64 0] := rfl
  rw [e1, Int.toNat_natCast, made_ents]
theorem tickB {i n m : Nat} {q : Int} (hi : i < m) (hm : m ≤ 10000) (hq : 0 < q) : ((wrap64 (wrap64 ((i : Int) / (n : Int)) + 1)).tmod q == 0) = decide (0 < q ∧ ((i / n + 1 : Nat) : Int) % q = 0) := by
  have h1 : ((i : Int) / (n : Int)) = ((i / n : Nat) : Int) := rfl
  have h2 : i / n ≤ i := Nat.div_le_self _ _
  rw [h1]
  obtain ⟨x, hx⟩ : ∃ x, x = i / n := ⟨_, rfl⟩
  rw [← hx] at h2 ⊢
  clear hx h1
  rw [IntWalk.wrap64_in (x : Int) (by omega), IntWalk.wrap64_in _ (by omega), Int.tmod_eq_emod_of_nonneg (by omega)]
  rw [show ((x + 1 : Nat) : Int) = (x : Int) + 1 by omega]
  by_cases h : ((x : Int) + 1) % q = 0 <;> simp [h, hq]
set_option maxHeartbeats 8000000 in
theorem round_any (c s q : Int) (n m : Nat) (w : World) (hn : min (max c 1) 64 = (n : Int)) (hm : min (max s 0) 1048576 = (m : Int)) (hm2 : m ≤ 10000) :
    Calls Tryd.prog 22 #[.int .i64 c, .int .i64 s, .int .i64 q] w fun e w' => ∃ u, e = .returned u ∧ OwnE w' w.heap.size 36 u (rnd n m q) ∧ Chg [] w w' := by
  have hn1 : 1 ≤ n := by omega
  have hn2 : n ≤ 64 := by omega
  have HC := Lib.hid (fun w => clamp_any c 1 64 w (by omega))
  have HD := Lib.hid (fun w => clamp_any s 0 1048576 w (by omega))
  rw [hn] at HC
  rw [hm] at HD
  have hmk := mk_ents m hm2
  clear hn hm
  go_enter Tryd.func22, Tryd.ntmps22
  go_wp2_with fail
  refine (HC.out _).mono ?_
  rintro e w1 ⟨rfl, rfl⟩
  go_wp2_with fail
  refine (HD.out _).mono ?_
  rintro e w2 ⟨rfl, rfl⟩
  go_wp2_with fail
  obtain ⟨w3, hw3⟩ : ∃ w3, w3 = w2.alloc (.cells (flatE (List.replicate m ⟨0, false, 0⟩)).toArray 36) := ⟨_, rfl⟩
  have B3 : EntsAt w3 w2.heap.size 36 (soFar n m q 0) := by
    refine EntsAt.of ?_
    rw [hw3, show soFar n m q 0 = List.replicate m ⟨0, false, 0⟩ by simp [soFar, rnd]]
    exact Blk.new w2 _ _
  have C3 : Chg [] w2 w3 := by rw [hw3]; exact (Chg.refl _ _).alloc _
  rw [← hw3]
  obtain ⟨B, hB⟩ : ∃ B, B = w2.heap.size := ⟨_, rfl⟩
  rw [← hB] at B3 ⊢
  have HB := Lib.hid (show w2.heap.size ≤ B by rw [hB]; exact Nat.le_refl _)
  clear hw3 hB hmk HC HD
  have hn0 : ¬ (n : Int) = 0 := by omega
  have hn0' : ((n : Int) == 0) = false := by simp; omega
  go_loopw [17] (fun x17 wr => ∃ i : Nat, i ≤ m ∧ x17 = .int .i64 i ∧ EntsAt wr B 36 (soFar n m q i) ∧ Chg [] w2 wr) (fun x17 _ => m - (intOf x17).toNat)
  case atStart => exact ⟨0, by omega, rfl, B3, C3⟩
  case round =>
    clear B3 C3
    obtain ⟨i, hi, rfl, BQ, CQ⟩ := hrel
    by_cases him : i < m
    · have himi : (i : Int) < (m : Int) := by omega
      have hpl := soFar_len (n := n) q (Nat.le_of_lt him)
      have PS := Lib.hid (soFar_step (n := n) q him)
      obtain ⟨P, hP⟩ : ∃ P, P = soFar n m q i := ⟨_, rfl⟩
      rw [← hP] at hpl PS BQ
      obtain ⟨cs, hb, hz, hcs⟩ := BQ
      have HCS := Lib.hid hcs
      clear hP hcs
      have hi0 : (0 : Int) ≤ (i : Int) := by omega
      go_upto_region 6 with (fail)
      go_wp2_with (refine wpList_put_cells rfl 36 (.tmp 29) (.tmp 28) rfl B (i * 3) rfl _ rfl [.int .i64 ((i : Int) % (n : Int)), .bool false, .int .u64 ((i : Int) + 1)] rfl _ _ hb (by kernel_rfl) (by simp; omega) (by simp [Value.oneCell']) ?_)
      intro w4 cur hb4 hz4 hg4 C4
      have E4 : EntsAt w4 B 36 (P.set i ⟨(i : Int) % (n : Int), false, i + 1⟩) := EntsAt.put hz HCS.out hb4 (by rw [hz4, hz, hpl]) (fun j => by rw [hg4]; rfl)
      have CC : Chg [] w2 w4 := CQ.then C4 (by intro g hg; obtain rfl := List.mem_singleton.1 hg; exact .inr HB.out)
      have e4 : (P.set i ⟨(i : Int) % (n : Int), false, i + 1⟩)[i]? = some ⟨(i : Int) % (n : Int), false, i + 1⟩ := by rw [List.getElem?_set]; simp; omega
      obtain ⟨c4, b4, z4, x4⟩ := E4
      have k1 : w4.cell? ⟨B, i * 3 + 1, none⟩ = some (.bool false) := by rw [b4.cell, x4 i _ e4 1 (by omega)]; rfl
      have kz : w4.frozen? ⟨B, i * 3 + 1, none⟩ = false := b4.frozen _
      have E5 := Lib.hid (fun b => EntsAt.putTick (w := w4) ⟨c4, b4, z4, x4⟩ e4 b)
      have C5 := Lib.hid (fun b => CC.setCell (a := ⟨B, i * 3 + 1, none⟩) (.inr HB.out) (.bool b))
      clear x4 z4 b4 hb4 hg4 hz4 hb hz C4 CQ e4 CC
      by_cases hq : 0 < q
      · have hq0 : ¬ q = 0 := by omega
        have hq0' : (q == 0) = false := by simp; omega
        have hq1 : ¬ q = -1 := by omega
        have TB := Lib.hid (tickB (n := n) him hm2 hq)
        have E6 := Lib.hid (E5.out (decide (0 < q ∧ ((i / n + 1 : Nat) : Int) % q = 0)))
        go_wp2_with fail
        rw [TB.out]
        exact ⟨⟨i + 1, by omega, by go_num, by rw [← PS.out]; have h := E6.out; rw [List.set_set] at h; exact h, C5.out _⟩, by simp only [intOf]; omega⟩
      · have E6 := Lib.hid (E5.out (decide (0 < q ∧ ((i / n + 1 : Nat) : Int) % q = 0)))
        have TB := Lib.hid (show decide (0 < q ∧ ((i / n + 1 : Nat) : Int) % q = 0) = false by simp; intro h; exact absurd h hq)
        go_wp2_with fail
        rw [← TB.out]
        exact ⟨⟨i + 1, by omega, by go_num, by rw [← PS.out]; have h := E6.out; rw [List.set_set] at h; exact h, C5.out _⟩, by simp only [intOf]; omega⟩
    · obtain rfl : m = i := by omega
      rw [soFar_end] at BQ
      have O := BQ.own HB.out (by rw [rnd_len]; exact hm2)
      rw [rnd_len] at O
      go_wp2_with fail
      go_ret
      exact ⟨_, rfl, O, CQ⟩
end Go.Proofs.YtjohbnfeijhcmaaDoor
