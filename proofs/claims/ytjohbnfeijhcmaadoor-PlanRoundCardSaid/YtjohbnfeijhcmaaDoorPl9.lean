/- plan: Clean (twice), few. -/
import Derived.Test.YtjohbnfeijhcmaaDoorPl5
namespace Bosun
open Go
/-- Those that may be. -/
def cln (l : List Ent) (n : Int) : List Ent := l.filter fun e => decide (e.good n)
theorem cln_step (l : List Ent) (n : Int) {i : Nat} (h : i < l.length) : cln (l.take (i + 1)) n = cln (l.take i) n ++ (if (l[i]).good n then [l[i]] else []) := by
  unfold cln
  rw [List.take_add_one, List.filter_append, List.getElem?_eq_getElem h]
  congr 1
  by_cases hg : (l[i]).good n <;> simp [hg]
theorem cln_len (l : List Ent) (n : Int) : (cln l n).length ≤ l.length := List.length_filter_le _ _
/-- The slice v reads as the entries l, and may be cut. -/
def RdE (w : World) (v : Value) (l : List Ent) : Prop := ReadsE w v l ∧ ∀ ao n cap, v = .slice ao n cap → n ≤ cap
theorem RdE.keep {w w1 : World} {v : Value} {l : List Ent} (h : RdE w v l) (hc : Chg [] w w1) : RdE w1 v l := ⟨h.1.keep hc, h.2⟩
theorem RdE.take {w : World} {ao : Option Addr} {cap : Nat} {l : List Ent} (h : RdE w (.slice ao l.length cap) l) {k : Nat} (hk : k ≤ l.length) : RdE w (.slice ao k cap) (l.take k) := by
  obtain ⟨⟨ao', cap', hv, hm, hc⟩, hcap⟩ := h
  have hlc := hcap _ _ _ rfl
  simp at hv
  obtain ⟨rfl, rfl⟩ := hv
  have hl : (l.take k).length = k := by rw [List.length_take]; omega
  rw [List.length_map] at hm
  refine ⟨⟨ao, cap, by rw [List.length_map, hl], by rw [List.length_map, hl]; omega, fun i r hr => hc i r ?_⟩, fun _ _ _ he => by simp at he; omega⟩
  rw [List.map_take] at hr
  have hi : i < k := by have := (List.getElem?_eq_some_iff.1 hr).1; simp at this; omega
  rw [List.getElem?_take, if_pos hi] at hr
  exact hr
end Bosun
namespace Go.Proofs.YtjohbnfeijhcmaaDoor
open Go.RowKit Bosun Go.ChangeShapes Go.WideShapes Go.ChangeAt
set_option maxHeartbeats 4000000 in
theorem few_any (v : Value) (l : List Ent) (w : World) (hv : RdE w v l) :
    Calls Tryd.prog 12 #[v] w fun e w' => ∃ u, e = .returned u ∧ RdE w' u (l.take 60) ∧ Chg [] w w' := by
  have hv0 := hv
  obtain ⟨⟨ao, cap, rfl, hm, hc⟩, hcap⟩ := hv0
  rw [List.length_map] at hv hm hcap ⊢
  have hlc := hcap _ _ _ rfl
  have HV := Lib.hid hv
  clear hc hcap hv
  go_enter Tryd.func12, Tryd.ntmps12
  by_cases hl : 60 < l.length
  · have hl2 : 60 < (l.length : Int) := by omega
    have hcap2 : (60 : Int) ≤ (cap : Int) := by omega
    have hcap3 : ¬ cap = 0 := by omega
    have HL := Lib.hid hl
    clear hl
    go_wp2_with fail
    go_ret
    exact ⟨_, rfl, HV.out.take (by have := HL.out; omega), Chg.refl _ _⟩
  · have hl2 : ¬ 60 < (l.length : Int) := by omega
    have HL := Lib.hid hl
    clear hl
    go_wp2_with fail
    go_ret
    exact ⟨_, rfl, by rw [List.take_of_length_le (by have := HL.out; omega)]; exact HV.out, Chg.refl _ _⟩
set_option maxHeartbeats 4000000 in
theorem clean_any (v : Value) (l : List Ent) (n : Int) (w : World) (hv : ReadsE w v l) (hl : l.length ≤ 10000) :
    Calls Tryd.prog 14 #[v, .int .i64 n] w fun e w' => ∃ u, e = .returned u ∧ OwnE w' w.heap.size 36 u (cln l n) ∧ Chg [] w w' := by
  obtain ⟨ao, cap, rfl, hm, hc⟩ := hv
  rw [List.length_map] at hm ⊢
  unfold maxLen at hm
  have hc := Lib.hid hc
  go_enter Tryd.func14, Tryd.ntmps14
  go_wp2_with fail
  go_loopw [5, 10] (fun x5 x10 wr => ∃ i : Nat, i ≤ l.length ∧ x10 = .int .i64 i ∧ OwnE wr w.heap.size 36 x5 (cln (l.take i) n) ∧ Chg [] w wr) (fun _ x10 _ => l.length - (intOf x10).toNat)
  case atStart => exact ⟨0, by omega, rfl, OwnE.nil _ _ _, Chg.refl _ _⟩
  case round =>
    obtain ⟨i, hi, rfl, hown, C⟩ := hrel
    by_cases hil : i < l.length
    · obtain ⟨g, off, rfl, cg⟩ := hc.out i l[i].cells (by simp [hil])
      have hil2 : (i : Int) < (l.length : Int) := by omega
      have SN := Lib.hid (cln_step l n hil)
      have hcl := cln_len (l.take i) n
      rw [List.length_take] at hcl
      obtain ⟨x, hx⟩ : ∃ x, x = l[i] := ⟨_, rfl⟩
      rw [← hx] at cg SN
      have HG := Lib.hid (fun w => good_any x n w)
      obtain ⟨c, t, d⟩ := x
      have l1 : g < w.heap.size := World.block_lt_of_cell? w _ (cg 0 _ rfl)
      have f0 : wr.cell? ⟨g, off + i * 3, none⟩ = some (.int .i64 c) := (World.cell?_of_block (w := w) (C.block g l1 (by simp))).trans (cg 0 _ rfl)
      have f1 : wr.cell? ⟨g, off + i * 3 + 1, none⟩ = some (.bool t) := (World.cell?_of_block (w := w) (C.block g l1 (by simp))).trans (cg 1 _ rfl)
      have f2 : wr.cell? ⟨g, off + i * 3 + 2, none⟩ = some (.int .u64 (d : Nat)) := (World.cell?_of_block (w := w) (C.block g l1 (by simp))).trans (cg 2 _ rfl)
      have HI := Lib.hid hi
      clear cg hx hi
      go_wp2_with fail
      obtain ⟨w1, hw1⟩ : ∃ w1, w1 = wr.alloc (.cells #[.int .i64 c, .bool t, .int .u64 (d : Nat)] 36) := ⟨_, rfl⟩
      have B1 : Blk w1 wr.heap.size #[.int .i64 c, .bool t, .int .u64 (d : Nat)] 36 := by rw [hw1]; exact Blk.new wr _ _
      have C1 : Chg [] w w1 := by rw [hw1]; exact C.alloc _
      have O1 := hown.alloc (.cells #[.int .i64 c, .bool t, .int .u64 (d : Nat)] 36)
      rw [← hw1] at O1 ⊢
      obtain ⟨B, hB⟩ : ∃ B, B = wr.heap.size := ⟨_, rfl⟩
      rw [← hB] at B1 ⊢
      clear hown f0 f1 f2 hw1 hB
      refine (HG.out w1).mono ?_
      rintro e w2 ⟨rfl, C2⟩
      have B2 := B1.chg C2 (by simp)
      have O2 := O1.keep C2
      have CC := C1.then C2 (by simp)
      have c0 : w2.cell? ⟨B, 0, none⟩ = some (.int .i64 c) := B2.cell 0
      have c1 : w2.cell? ⟨B, 1, none⟩ = some (.bool t) := B2.cell 1
      have c2 : w2.cell? ⟨B, 2, none⟩ = some (.int .u64 (d : Nat)) := B2.cell 2
      have hob := O2.block
      have hwz := Lib.hid CC.size
      clear C2 B1 O1 C1
      by_cases hg : (⟨c, t, d⟩ : Ent).good n
      · rw [decide_eq_true hg]
        have SN2 := Lib.hid (SN.out.trans (by rw [if_pos hg]))
        obtain ⟨E, hE⟩ : ∃ E, E = cln (l.take i) n := ⟨_, rfl⟩
        rw [← hE] at O2 hcl SN2
        have HC := Lib.hid hcl
        clear hg hE SN hcl
        go_wp2_with (refine wpList_appE rfl (.tmp 17) (.tmp 19) 23 rfl w.heap.size 36 (.agg #[.int .i64 0, .bool false, .int .u64 0]) 24 Tryd.underlying23 infoE' rfl _ E rfl (O2.alloc _) w2.heap.size 1 ⟨c, t, d⟩ rfl (Blk.new w2 #[.int .i64 c, .bool t, .int .u64 (d : Nat)] 36) (by have := HC.out; unfold maxLen; omega) (by have := HC.out; omega) (by have := hwz.out; simp; omega) ?_; intro v' w6 O6 C6; have C36 : Chg [] w w6 := (CC.alloc _).then C6 (fun g hg => .inr ((hob g hg).1)))
        exact ⟨⟨i + 1, by omega, by go_num, by rw [SN2.out]; exact O6, C36⟩, by simp [intOf] <;> omega⟩
      · rw [decide_eq_false hg]
        have SN2 := Lib.hid (SN.out.trans (by rw [if_neg hg]))
        rw [List.append_nil] at SN2
        clear hg SN c0 c1 c2 hcl
        go_wp2_with fail
        exact ⟨⟨i + 1, by omega, by go_num, by rw [SN2.out]; exact O2, CC⟩, by simp [intOf] <;> omega⟩
    · obtain rfl : i = l.length := by omega
      rw [List.take_length] at hown
      go_wp2_with fail
      go_ret
      exact ⟨_, rfl, hown, C⟩
end Go.Proofs.YtjohbnfeijhcmaaDoor
