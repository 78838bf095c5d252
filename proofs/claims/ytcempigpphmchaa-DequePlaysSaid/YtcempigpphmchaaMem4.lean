/- Parts of a memory: Part of both, and whether two rows of words are the same. -/
import Derived.Test.YtcempigpphmchaaMem3
namespace Bosun
/-- The words from a place on, so many. -/
def partLo (a : Int) : Nat := a.toNat
def partHi (a n : Int) : Nat := if n < 1 then 0 else if a < 0 then (n + a).toNat else a.toNat + n.toNat
def partN (W : List Nat) (a n : Int) : List Nat := (W.take (partHi a n)).drop (partLo a)

theorem partTo_yes (W : List Nat) (lo hi k : Nat) (hk : k < W.length) (h1 : lo ≤ k) (h2 : k < hi) : ((W.take (k + 1)).take hi).drop lo = ((W.take k).take hi).drop lo ++ [W[k]] := by
  rw [List.take_take, List.take_take, show min hi (k + 1) = k + 1 from by omega, show min hi k = k from by omega, List.take_succ_eq_append_getElem hk,
    List.drop_append_of_le_length (by rw [List.length_take]; omega)]
theorem partTo_no (W : List Nat) (lo hi k : Nat) (hk : k < W.length) (h : ¬ (lo ≤ k ∧ k < hi)) : ((W.take (k + 1)).take hi).drop lo = ((W.take k).take hi).drop lo := by
  rw [List.take_take, List.take_take]
  by_cases h2 : k < hi
  · rw [show min hi (k + 1) = k + 1 from by omega, show min hi k = k from by omega, List.drop_eq_nil_of_le (by rw [List.length_take]; omega), List.drop_eq_nil_of_le (by rw [List.length_take]; omega)]
  · rw [show min hi (k + 1) = min hi k from by omega]
theorem partN_small {W : List Nat} (h : Small W) (a n : Int) : Small (partN W a n) := fun x hx => h x (List.mem_of_mem_take (List.mem_of_mem_drop hx))
theorem partN_length (W : List Nat) (a n : Int) : (partN W a n).length = min (partHi a n) W.length - partLo a := by
  simp [partN, List.length_take, List.length_drop]
theorem partN_all (W : List Nat) (n : Int) (h : W.length ≤ n) (h1 : 1 ≤ n) : partN W 0 n = W := by
  unfold partN partHi partLo
  rw [if_neg (by omega), if_neg (by omega)]
  simp only [Int.toNat_zero, List.drop_zero, Nat.zero_add]
  exact List.take_of_length_le (by omega)
end Bosun
namespace Go.Proofs.Ytcempigpphmchaa
open Go.RowKit Bosun

set_option maxHeartbeats 400000 in
theorem msame_any (v u : Value) (l m : List Nat) (w : World) (hv : Reads w v (words l)) (hu : Reads w u (words m)) :
    Calls Try.prog 17 #[v, u] w fun e w' => e = .returned (.bool (decide (l = m))) ∧ Chg [] w w' := by
  obtain ⟨ao, cap, rfl, hm, hc⟩ := hv
  obtain ⟨bo, dap, rfl, hn, hd⟩ := hu
  rw [words_len] at hm hn ⊢
  rw [words_len]
  unfold maxLen at hm hn
  by_cases hlen : l.length = m.length
  · rw [← hlen]
    go_enter Try.func17, Try.ntmps17
    go_wp2
    go_loopw [5] (fun i wr => ∃ k : Nat, k ≤ l.length ∧ i = .int .i64 k ∧ l.take k = m.take k ∧ Chg [] w wr)
      (fun i _ => l.length - (intOf i).toNat)
    case atStart => exact ⟨0, by omega, rfl, rfl, Chg.refl _ _⟩
    case round =>
      obtain ⟨k, hk, rfl, ht, H⟩ := hrel
      have HT := Lib.hid ht
      have HL := Lib.hid hlen
      clear ht
      by_cases hkl : k < l.length
      · have hkm : k < m.length := by omega
        obtain ⟨g, off, rfl, hcell⟩ := hc k _ (words_get l hkl)
        obtain ⟨g', off', rfl, hdell⟩ := hd k _ (words_get m hkm)
        have hcell' : wr.cell? ⟨g, off + k, none⟩ = some (.int .u64 (l[k] : Nat)) := by
          rw [World.cell?_of_block (w := w) (H.block g (World.block_lt_of_cell? w _ hcell) (by simp)), hcell]
        have hdell' : wr.cell? ⟨g', off' + k, none⟩ = some (.int .u64 (m[k] : Nat)) := by
          rw [World.cell?_of_block (w := w) (H.block g' (World.block_lt_of_cell? w _ hdell) (by simp)), hdell]
        have HX := Lib.hid (List.take_succ_eq_append_getElem hkl)
        have HY := Lib.hid (List.take_succ_eq_append_getElem hkm)
        clear hcell hdell hc hd hlen
        by_cases he : l[k] = m[k]
        · obtain ⟨x, hx⟩ : ∃ x, x = l[k] := ⟨_, rfl⟩
          rw [← he] at hdell' HY
          rw [← hx] at hcell' hdell' HX HY
          clear hx he
          go_wp2_with fail
          go_quiet (fail)
          go_wp2
          go_roundw
          case rel => exact ⟨k + 1, by omega, by go_num, by rw [HX.out, HY.out, HT.out], H.drewN _⟩
          case measure => simp [intOf] <;> omega
        · obtain ⟨x, hx⟩ : ∃ x, x = l[k] := ⟨_, rfl⟩
          obtain ⟨y, hy⟩ : ∃ y, y = m[k] := ⟨_, rfl⟩
          have HD := Lib.hid (show decide (l = m) = false by
            rw [decide_eq_false_iff_not]; intro h; subst h; exact he rfl)
          rw [← hx] at hcell' HX he
          rw [← hy] at hdell' HY he
          have hne : ((x : Int) == (y : Int)) = false := by simp; omega
          have hne' : ((x : Int) != (y : Int)) = true := by simp; omega
          clear hx hy he
          go_wp2_with fail
          go_quiet (fail)
          go_wp2
          go_ret
          exact ⟨ret_bool HD.out.symm, H.drewN _⟩
      · obtain rfl : k = l.length := by omega
        have HD := Lib.hid (show decide (l = m) = true by
          rw [decide_eq_true_eq]
          have h := HT.out
          rw [List.take_length, HL.out, List.take_length] at h
          exact h)
        clear hc hd hlen
        go_wp2
        go_ret
        exact ⟨ret_bool HD.out.symm, H⟩
  · have HD := Lib.hid (show decide (l = m) = false by
      rw [decide_eq_false_iff_not]; intro h; subst h; exact hlen rfl)
    have hne : ((l.length : Int) != (m.length : Int)) = true := by rw [bne_iff_ne]; omega
    go_enter Try.func17, Try.ntmps17
    go_wp2
    go_ret
    exact ⟨ret_bool HD.out.symm, Chg.refl _ _⟩

theorem words_one (l : List Nat) : ∀ v ∈ words l, v.oneCell' = true := by
  intro v hv
  simp only [words, List.mem_map] at hv
  obtain ⟨_, _, rfl⟩ := hv
  rfl

set_option maxHeartbeats 800000 in
theorem part_any (bm bw : Nat) (W : List Nat) (u : Nat) (w : World) (h : IsMem w bm bw W u) (a n : Int) (ha : -9223372036854775808 ≤ a) (ha2 : a ≤ 9223372036854775807) (hn : -9223372036854775808 ≤ n) (hn2 : n ≤ 9223372036854775807) :
    Calls Try.prog 18 #[.pointer (some ⟨bm, 0, none⟩), .int .i64 a, .int .i64 n] w fun e w' => ∃ v, e = .returned v ∧ Own w' w.heap.size 30 v (words (partN W a n)) ∧ Chg [] w w' := by
  have hlen := h.len
  have c0 := h.c0
  have hbm := h.head.lt
  have hbw := h.row.lt
  by_cases hn1 : n < 1
  · have e1 : partN W a n = [] := by unfold partN partHi; rw [if_pos hn1]; simp
    rw [e1]
    clear e1
    go_enter Try.func18, Try.ntmps18
    go_wp2
    go_ret
    exact ⟨_, rfl, Own.nil _ _ _, Chg.refl _ _⟩
  · by_cases hal : W.length ≤ a
    · have e1 : partN W a n = [] := by
        unfold partN partLo; exact List.drop_eq_nil_of_le (by rw [List.length_take]; omega)
      rw [e1]
      clear e1
      go_enter Try.func18, Try.ntmps18
      go_wp2_with (go_at_call 50; refine (len_any bm bw W u _ h).mono ?_; rintro e w1 ⟨rfl, rfl⟩)
      go_ret
      exact ⟨_, rfl, Own.nil _ _ _, Chg.refl _ _⟩
    · have hpl := partN_length W a n
      obtain ⟨c, hc⟩ : ∃ c, c = (partN W a n).length := ⟨_, rfl⟩
      rw [← hc] at hpl
      have hc2 : c ≤ 524288 := by omega
      have hps : ∀ j, j < c → (words (partN W a n))[j]? = (words W)[partLo a + j]? := by
        intro j hj
        have h1 : partLo a + j < W.length := by omega
        have h2 : partLo a + j < partHi a n := by omega
        rw [words_get _ (by omega), words_get W h1]
        congr 3
        unfold partN
        rw [List.getElem_drop, List.getElem_take]
      have hwl : (words (partN W a n)).length = c := by rw [words_len, hc]
      have HPS := Lib.hid hps
      have HWL := Lib.hid hwl
      clear hps hwl
      by_cases ha0 : 0 ≤ a
      · obtain ⟨k, rfl⟩ := Int.eq_ofNat_of_zero_le ha0
        have hlo : partLo (k : Int) = k := by unfold partLo; simp
        have hcn : (c : Int) = if (W.length : Int) - (k : Int) < n then (W.length : Int) - (k : Int) else n := by
          unfold partHi at hpl; rw [if_neg hn1, if_neg (by omega), hlo] at hpl; split <;> omega
        have hkc : (k : Int) + (c : Int) ≤ (W.length : Int) := by split at hcn <;> omega
        have HCN := Lib.hid hcn
        have HLO := Lib.hid hlo
        have hlk : ¬ W.length = k := by omega
        clear hc hpl hcn hlo
        have hsrc : ∀ (w1 : World), Chg [] w w1 → words (partN W k n) = [] ∨ ∃ g' o', some (⟨bw, k, none⟩ : Addr) = some ⟨g', o', none⟩ ∧ ∀ j v, (words (partN W k n))[j]? = some v → w1.cell? ⟨g', o' + j, none⟩ = some v := by
          intro w1 H2
          refine .inr ⟨bw, k, rfl, fun j v hj => ?_⟩
          have hjc : j < c := by have := (List.getElem?_eq_some_iff.1 hj).1; rw [HWL.out] at this; exact this
          rw [(h.keep H2).row.cell, List.getElem?_toArray, ← hj, HPS.out j hjc, HLO.out]
        have hget : ∀ (cur : Array Value), cur.size = c → (∀ j, cur[j]? = if 0 ≤ j ∧ j < 0 + (words (partN W k n)).length then (words (partN W k n))[j - 0]? else (Array.replicate c (Value.int .u64 0))[j]?) → words (partN W k n) = cur.toList.take c := by
          intro cur hs hj
          apply List.ext_getElem?
          intro j
          have e : cur.toList[j]? = cur[j]? := by simp
          rw [List.getElem?_take, e, hj j, HWL.out]
          by_cases hjc : j < c
          · rw [if_pos hjc, if_pos (by omega)]; rfl
          · rw [if_neg hjc]; exact List.getElem?_eq_none (by rw [HWL.out]; omega)
        have HSRC := Lib.hid hsrc
        have HGET := Lib.hid hget
        clear hsrc hget
        go_enter Try.func18, Try.ntmps18
        go_wp2_with (first
          | (go_at_call 50; refine (len_any bm bw W u _ h).mono ?_; rintro e w1 ⟨rfl, rfl⟩)
          | (refine wpList_min rfl (.tmp 22) (.tmp 26) _ _ rfl .i64 n ((W.length : Int) - (k : Int)) c rfl rfl HCN.out ?_)
          | (refine wpList_make1 rfl (.tmp 28) (.tmp 28) 22 rfl 30 (.int .u64 0) 8 Try.underlying22 infoU64 rfl .i64 .i64 c rfl rfl (by omega) (by omega) ?_; intro w1 H1 H2 H3; have c01 := (h.keep H2).c0; have H3 := Lib.hid H3)
          | (refine wpList_copy1 rfl (.tmp 30) (.tmp 39) 22 22 rfl 30 Try.underlying22 (by kernel_rfl) w.heap.size 0 c c (some ⟨bw, k, none⟩) (k + c - k) (W.length - k) rfl rfl _ 30 H1 (words (partN W k n)) (by rw [HWL.out, Nat.add_sub_cancel_left]; exact (Nat.min_self _).symm) (HSRC.out w1 H2) (by rw [HWL.out]; simp) (words_one _) ?_; intro w2 cur H4 H5 H6 H7; have H5 := Lib.hid H5; have H6 := Lib.hid H6))
        go_ret
        have hsc : cur.size = c := by rw [H5.out]; simp
        exact ⟨_, rfl, Own.of_blk H4 (Nat.le_refl _) hsc (Nat.le_refl _) (by unfold maxLen; omega) (HGET.out cur hsc H6.out), H2.then H7 (fun g hg => .inr (by simp at hg; omega))⟩
      · have hlo : partLo a = 0 := by unfold partLo; omega
        obtain ⟨hi, hhi⟩ : ∃ hi, hi = partHi a n := ⟨_, rfl⟩
        have hm1 : (hi : Int) = if n + a < 0 then 0 else n + a := by
          rw [hhi]; unfold partHi; rw [if_neg hn1, if_pos (by omega)]; split <;> omega
        have hcn : (c : Int) = if (W.length : Int) < (hi : Int) then (W.length : Int) else (hi : Int) := by
          rw [← hhi, hlo] at hpl; split <;> omega
        have hkc : (c : Int) ≤ (W.length : Int) := by split at hcn <;> omega
        have HCN := Lib.hid hcn
        have HM1 := Lib.hid hm1
        have HLO := Lib.hid hlo
        have d0 : (a < 0) := by omega
        clear hc hpl hcn hlo hhi hm1
        have hsrc : ∀ (w1 : World), Chg [] w w1 → words (partN W a n) = [] ∨ ∃ g' o', some (⟨bw, 0, none⟩ : Addr) = some ⟨g', o', none⟩ ∧ ∀ j v, (words (partN W a n))[j]? = some v → w1.cell? ⟨g', o' + j, none⟩ = some v := by
          intro w1 H2
          refine .inr ⟨bw, 0, rfl, fun j v hj => ?_⟩
          have hjc : j < c := by have := (List.getElem?_eq_some_iff.1 hj).1; rw [HWL.out] at this; exact this
          rw [(h.keep H2).row.cell, List.getElem?_toArray, ← hj, HPS.out j hjc, HLO.out]
        have hget : ∀ (cur : Array Value), cur.size = c → (∀ j, cur[j]? = if 0 ≤ j ∧ j < 0 + (words (partN W a n)).length then (words (partN W a n))[j - 0]? else (Array.replicate c (Value.int .u64 0))[j]?) → words (partN W a n) = cur.toList.take c := by
          intro cur hs hj
          apply List.ext_getElem?
          intro j
          have e : cur.toList[j]? = cur[j]? := by simp
          rw [List.getElem?_take, e, hj j, HWL.out]
          by_cases hjc : j < c
          · rw [if_pos hjc, if_pos (by omega)]; rfl
          · rw [if_neg hjc]; exact List.getElem?_eq_none (by rw [HWL.out]; omega)
        have HSRC := Lib.hid hsrc
        have HGET := Lib.hid hget
        clear hsrc hget
        go_enter Try.func18, Try.ntmps18
        go_wp2_with (first
          | (go_at_call 50; refine (len_any bm bw W u _ h).mono ?_; rintro e w1 ⟨rfl, rfl⟩)
          | (refine wpList_max rfl (.tmp 20) _ _ _ rfl .i64 (n + a) 0 (hi : Int) rfl rfl HM1.out ?_)
          | (refine wpList_min rfl (.tmp 22) (.tmp 26) _ _ rfl .i64 (hi : Int) (W.length : Int) c rfl rfl HCN.out ?_)
          | (refine wpList_make1 rfl (.tmp 28) (.tmp 28) 22 rfl 30 (.int .u64 0) 8 Try.underlying22 infoU64 rfl .i64 .i64 c rfl rfl (by omega) (by omega) ?_; intro w1 H1 H2 H3; have c01 := (h.keep H2).c0; have H3 := Lib.hid H3)
          | (refine wpList_copy1 rfl (.tmp 30) (.tmp 39) 22 22 rfl 30 Try.underlying22 (by kernel_rfl) w.heap.size 0 c c (some ⟨bw, 0, none⟩) c W.length rfl rfl _ 30 H1 (words (partN W a n)) (by rw [HWL.out]; exact (Nat.min_self _).symm) (HSRC.out w1 H2) (by rw [HWL.out]; simp) (words_one _) ?_; intro w2 cur H4 H5 H6 H7; have H5 := Lib.hid H5; have H6 := Lib.hid H6))
        go_ret
        have hsc : cur.size = c := by rw [H5.out]; simp
        exact ⟨_, rfl, Own.of_blk H4 (Nat.le_refl _) hsc (Nat.le_refl _) (by unfold maxLen; omega) (HGET.out cur hsc H6.out), H2.then H7 (fun g hg => .inr (by simp at hg; omega))⟩
end Go.Proofs.Ytcempigpphmchaa
