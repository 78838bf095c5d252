/- mem: copies. -/
import Derived.Test.YtkmdfcjgjkfdjaaMem5
import Derived.Test.YtkmdfcjgjkfdjaaQue
import Derived.Deep.RegionHeld3
import Derived.StillTailTactics
import Derived.Deep.AppendLies
namespace Go.Proofs.Ytkmdfcjgjkfdjaa
open Go.RowKit Bosun
/-- A memory whose row may be longer than its words; T: its type. -/
def MemC (T : TypeId) (w : World) (b : Nat) (bm : Nat) (W : List Nat) (u : Nat) : Prop :=
  ∃ v, Blk w bm #[v, .int .u64 (u : Nat)] T ∧ b ≤ bm ∧ Own w b 22 v (words W)
theorem MemC.keep {T : TypeId} {w w1 : World} {b bm : Nat} {W : List Nat} {u : Nat} (h : MemC T w b bm W u) {S : List Nat} (hc : Chg S w w1) (hS : ∀ g ∈ S, g < b) : MemC T w1 b bm W u := by
  obtain ⟨v, h1, h2, h3⟩ := h
  refine ⟨v, h1.chg hc (fun hg => by have := hS _ hg; omega), h2, h3.chg hc (fun g hg he => ?_)⟩
  have := (h3.block g (by rw [he]; simp)).1
  have := hS g hg
  omega
theorem eql_nil (n l c : Nat) (w : World) : (binOp .eql 23 (.slice (some ⟨n, 0, none⟩) l c) (.slice none 0 0)).run Try.prog w = .ok (.bool false) w := by kernel_rfl
theorem clone_any (v : Value) (W : List Nat) (n cap : Nat) (ao : Option Addr) (hv : v = .slice (some ⟨n, 0, none⟩) W.length cap) (w : World) (b : Nat) (h : Own w b 22 v (words W)) (hl : W.length ≤ 524288) :
    Calls Try.prog 28 #[v] w fun e w' => ∃ g m c, e = .returned (.slice (some ⟨g, 0, none⟩) m c) ∧ Own w' w.heap.size 22 (.slice (some ⟨g, 0, none⟩) m c) (words W) ∧ Chg [] w w' := by
  have HO := Lib.hid h
  subst hv
  clear h
  have EN := eql_nil n W.length cap w
  go_enter Try.func28, Try.ntmps28
  go_wp2_with (first
    | (refine wpList_app_own rfl (.tmp 5) (.tmp 6) 23 rfl w.heap.size 22 (.int .u64 0) 8 Try.underlying23 infoU64 rfl _ [] rfl (Own.of_blk (Blk.new w #[] 22) (Nat.le_refl _) rfl (Nat.le_refl _) (by decide) rfl) _ b 22 (words W) rfl (HO.out.alloc _) (words_one _) (by simp only [List.length_nil, words_len, maxLen]; omega) (by simp only [List.length_nil, words_len]; omega) (by simp) ?_
       intro v5 w5 O5 C5 L5))
  go_ret
  have hD : Chg [] w w5 := ((Chg.refl _ _).alloc _).then C5 (fun g hg => .inr (Nat.le_of_eq (List.mem_singleton.1 (show g ∈ [w.heap.size] from hg)).symm))
  have O5' : Own w5 w.heap.size 22 v5 (words W) := by simpa using O5
  rcases O5'.2 with ⟨rfl, _⟩ | ⟨g, c5, cur, rfl, _⟩
  · rcases L5 with h | h
    · cases h
    · cases h
  · exact ⟨g, _, c5, rfl, O5', hD⟩
theorem _root_.Bosun.MemAt.own {T : TypeId} {w : World} {bm bw : Nat} {W : List Nat} {u : Nat} (h : MemAt T 22 w bm bw W u) : Own w 0 22 (.slice (some ⟨bw, 0, none⟩) W.length W.length) (words W) :=
  Own.of_blk h.row (Nat.zero_le _) (by simp [words_len]) (Nat.le_refl _) (by have := h.len; unfold maxLen; omega) (by rw [List.take_of_length_le (by simp [words_len])])
set_option maxHeartbeats 1000000 in
theorem copy_any (bm bw : Nat) (W : List Nat) (u : Nat) (w : World) (h : IsMem w bm bw W u) :
    Calls Try.prog 18 #[.pointer (some ⟨bm, 0, none⟩)] w fun e w' => ∃ cm, e = .returned (.pointer (some ⟨cm, 0, none⟩)) ∧ MemC 50 w' w.heap.size cm W u ∧ Chg [] w w' := by
  have c0 := h.c0
  have c1 := h.c1
  have hl := h.len
  have HO := Lib.hid h.own
  have HM := Lib.hid h
  clear h
  go_enter Try.func18, Try.ntmps18
  go_wp2_with fail
  go_region_held3 (fun w' => w'.cell? ⟨bm, 0, none⟩ = some (.slice (some ⟨bw, 0, none⟩) W.length W.length) ∧ w'.cell? ⟨bm, 1, none⟩ = some (.int .u64 (u : Nat))) (first | assumption | exact ⟨c0, c1⟩ | exact ⟨((HM.out.drew.keep C2).alloc _).c0, ((HM.out.drew.keep C2).alloc _).c1⟩)
    (first
      | (go_at_call 28; refine (clone_any _ W bw W.length none rfl _ 0 HO.out.drew hl).mono ?_; rintro e w2 ⟨g2, m2, c2, rfl, O2, C2⟩; have k2 := And.intro (HM.out.drew.keep C2).c0 (HM.out.drew.keep C2).c1))
  go_wp2_with fail
  go_ret
  exact ⟨_, rfl, ⟨_, Blk.new _ _ _, by have := C2.size; exact this, (O2.alloc _).mono (Nat.le_refl _)⟩, C2.undrew.alloc _⟩
set_option maxHeartbeats 1000000 in
theorem rcopy_any (bm bw : Nat) (W : List Nat) (u : Nat) (w : World) (h : IsRef w bm bw W u) (h0 : 0 < W.length) :
    Calls Try.prog 19 #[.pointer (some ⟨bm, 0, none⟩)] w fun e w' => ∃ cm, e = .returned (.pointer (some ⟨cm, 0, none⟩)) ∧ MemC 37 w' w.heap.size cm W u ∧ Chg [] w w' := by
  have c0 := h.c0
  have c1 := h.c1
  have hl := h.len
  have HM := Lib.hid h
  obtain ⟨i0, hi0, hz0, hz1, hz2⟩ := info_parts infoU64
  have HI := Lib.hid (And.intro hi0 (And.intro hz0 (And.intro hz1 hz2)))
  have hsrc : ∀ (w1 : World), Chg [] w w1 → ∀ j x, (words W)[j]? = some x → w1.cell? ((⟨bw, 0, none⟩ : Addr).add j) = some x := fun w1 h1 j x hj => by
    have hadd : (⟨bw, 0, none⟩ : Addr).add j = ⟨bw, j, none⟩ := by simp [Addr.add]; omega
    rw [hadd, (h.keep h1).row.cell, List.getElem?_toArray]
    exact hj
  have HSRC := Lib.hid hsrc
  clear h hi0 hz0 hz1 hz2 hsrc
  go_enter Try.func19, Try.ntmps19
  go_wp2_with fail
  go_region_held3 (fun w' => w'.cell? ⟨bm, 0, none⟩ = some (.slice (some ⟨bw, 0, none⟩) W.length W.length) ∧ w'.cell? ⟨bm, 1, none⟩ = some (.int .u64 (u : Nat)))
    (first | assumption | exact ⟨c0, c1⟩ | exact ⟨(HM.out.keep D1).c0, (HM.out.keep D1).c1⟩ | exact ⟨((HM.out.keep D1).alloc _).c0, ((HM.out.keep D1).alloc _).c1⟩ | exact ⟨(HM.out.alloc _).c0, (HM.out.alloc _).c1⟩ | exact ⟨(HM.out.alloc _).drew.c0, (HM.out.alloc _).drew.c1⟩ | exact ⟨(HM.out.drew.alloc _).c0, (HM.out.drew.alloc _).c1⟩)
    ((refine step_append_lies _ (by rfl) _ _ _ (by rfl) w.heap.size 22 i0 (.int .u64 0) 1 8 Try.underlying23 HI.out.1 HI.out.2.1 HI.out.2.2.1 HI.out.2.2.2 rfl (by decide) (.slice (some ⟨w.heap.size, 0, none⟩) 0 0) 0 [] (by rfl) (World.ownsRow.drew (Own.of_blk (Blk.new w #[] 22) (Nat.le_refl _) rfl (Nat.le_refl _) (by decide) rfl))
        ⟨bw, 0, none⟩ W.length W.length (words W) (by rfl) (by rw [words_len, Nat.mul_one]) (HSRC.out _ ((Chg.refl _ _).alloc _).drew) (words_one _) h0 (by unfold maxLen; omega) (by omega) (by simp) (w.heap.size + 1) (by simp) ?_; intro g cap w1 O1 G1 L1 hlt; have D1 : Chg [] w w1 := ((Chg.refl _ w).alloc _).drew.then (Chg.of_grown G1) (fun g hg => .inr (Nat.le_of_eq (List.mem_singleton.1 (show g ∈ [w.heap.size] from hg)).symm))))
  go_wp2_with fail
  go_ret
  have O1' : Own w1 w.heap.size 22 (.slice (some ⟨g, 0, none⟩) (0 + W.length) cap) (words W) := by unfold Own; simpa [words_len] using O1
  exact ⟨_, rfl, ⟨_, Blk.new _ _ _, D1.size, by first | exact O1'.alloc _ | (have := O1'.alloc (.cells #[.slice (some ⟨g, 0, none⟩) W.length cap, .int .u64 (u : Nat)] 37); simpa using this)⟩, D1.alloc _⟩
theorem clen_any (b cm : Nat) (W : List Nat) (u : Nat) (w : World) (hW : W.length = 8) (h : MemC 50 w b cm W u) :
    Calls Try.prog 13 #[.pointer (some ⟨cm, 0, none⟩)] w fun e w' => e = .returned (.int .i64 8) ∧ w = w' := by
  obtain ⟨v, h1, h2, h3⟩ := h
  obtain ⟨ao, cap, rfl, _, _⟩ := h3.reads
  rw [words_len, hW] at h1
  have c0 : w.cell? ⟨cm, 0, none⟩ = some (.slice ao 8 cap) := by rw [h1.cell]; rfl
  clear h1 h2 h3
  go_enter Try.func13, Try.ntmps13
  go_wp2
  go_ret
  exact ⟨rfl, rfl⟩
theorem cused_any (b cm : Nat) (W : List Nat) (u : Nat) (w : World) (h : MemC 50 w b cm W u) :
    Calls Try.prog 15 #[.pointer (some ⟨cm, 0, none⟩)] w fun e w' => e = .returned (.int .u64 (u : Nat)) ∧ w = w' := by
  obtain ⟨v, h1, h2, h3⟩ := h
  have c1 : w.cell? ⟨cm, 1, none⟩ = some (.int .u64 (u : Nat)) := by rw [h1.cell]; rfl
  clear h1 h2 h3
  go_enter Try.func15, Try.ntmps15
  go_wp2
  go_ret
  exact ⟨rfl, rfl⟩
set_option maxHeartbeats 800000 in
theorem cpart_any (b cm : Nat) (W : List Nat) (u : Nat) (w : World) (hW : W.length = 8) (h : MemC 50 w b cm W u) :
    Calls Try.prog 17 #[.pointer (some ⟨cm, 0, none⟩), .int .i64 0, .int .i64 8] w fun e w' => ∃ v, e = .returned v ∧ Own w' w.heap.size 22 v (words W) ∧ Chg [] w w' := by
  have HH := Lib.hid h
  obtain ⟨v, h1, h2, h3⟩ := h
  have hwl : (words W).length = 8 := by rw [words_len, hW]
  have hex : ∃ bw cap, v = .slice (some ⟨bw, 0, none⟩) 8 cap ∧ 8 ≤ cap ∧ cap ≤ 9223372036854775807 := by
    rcases h3.2 with ⟨_, h0⟩ | ⟨g, cap, cur, rfl, _, hb, hn, hc, _⟩
    · omega
    · exact ⟨g, cap, by rw [hwl], by omega, hc⟩
  obtain ⟨bw, cap, rfl, hcap, hcap2⟩ := hex
  have hcm := h1.lt
  have hc0 : ∀ w1, Chg [] w w1 → w1.cell? ⟨cm, 0, none⟩ = some (.slice (some ⟨bw, 0, none⟩) 8 cap) := fun w1 hh => by rw [(h1.chg hh (by simp)).cell]; rfl
  have c0 := hc0 w (Chg.refl _ _)
  have hsrc : ∀ (w1 : World), Chg [] w w1 → words W = [] ∨ ∃ g' o', some (⟨bw, 0, none⟩ : Addr) = some ⟨g', o', none⟩ ∧ ∀ j v, (words W)[j]? = some v → w1.cell? ⟨g', o' + j, none⟩ = some v := by
    intro w1 H2
    refine .inr ⟨bw, 0, rfl, fun j x hj => ?_⟩
    obtain ⟨ao, cap', hs, _, hc⟩ := (h3.keep H2).reads
    obtain ⟨g, off, hao, hcell⟩ := hc j x hj
    simp at hs
    rw [← hs.1] at hao
    simp at hao
    obtain ⟨rfl, rfl⟩ := hao
    exact hcell
  have hget : ∀ (cur : Array Value), cur.size = 8 → (∀ j, cur[j]? = if 0 ≤ j ∧ j < 0 + (words W).length then (words W)[j - 0]? else (Array.replicate 8 (Value.int .u64 0))[j]?) → words W = cur.toList.take 8 := by
    intro cur hs hj
    apply List.ext_getElem?
    intro j
    have e : cur.toList[j]? = cur[j]? := by simp
    rw [List.getElem?_take, e, hj j, hwl]
    by_cases hjc : j < 8
    · rw [if_pos hjc, if_pos (by omega)]; rfl
    · rw [if_neg hjc]; exact List.getElem?_eq_none (by rw [hwl]; omega)
  have HSRC := Lib.hid hsrc
  have HGET := Lib.hid hget
  have HWL := Lib.hid hwl
  have HC0 := Lib.hid hc0
  have hcne : ¬ cap = 0 := by omega
  have HW := Lib.hid hW
  clear hsrc hget hwl hc0 h1 h2 h3 hW
  go_enter Try.func17, Try.ntmps17
  go_wp2_with (first
    | (go_at_call 13; refine (clen_any b cm W u _ HW.out HH.out).mono ?_; rintro e w1 ⟨rfl, rfl⟩)
    | (refine wpList_min rfl (.tmp 22) (.tmp 26) _ _ rfl .i64 8 8 8 rfl rfl (by decide) ?_)
    | (refine wpList_make1 rfl (.tmp 28) (.tmp 28) 23 rfl 22 (.int .u64 0) 8 Try.underlying23 infoU64 rfl .i64 .i64 8 rfl rfl (by omega) (by omega) ?_; intro w1 H1 H2 H3; have c01 := HC0.out w1 H2; have H3 := Lib.hid H3)
    | (refine wpList_copy1 rfl (.tmp 30) (.tmp 39) 23 23 rfl 22 Try.underlying23 (by kernel_rfl) w.heap.size 0 8 8 (some ⟨bw, 0, none⟩) 8 cap rfl rfl _ 22 H1 (words W) (by rw [HWL.out]; rfl) (HSRC.out w1 H2) (by rw [HWL.out]; simp) (words_one _) ?_; intro w2 cur H4 H5 H6 H7; have H5 := Lib.hid H5; have H6 := Lib.hid H6))
  go_ret
  have hsc : cur.size = 8 := by rw [H5.out]; simp
  exact ⟨_, rfl, Own.of_blk H4 (Nat.le_refl _) hsc (Nat.le_refl _) (by unfold maxLen; omega) (HGET.out cur hsc H6.out), H2.then H7 (fun g hg => .inr (by simp at hg; omega))⟩
end Go.Proofs.Ytkmdfcjgjkfdjaa
