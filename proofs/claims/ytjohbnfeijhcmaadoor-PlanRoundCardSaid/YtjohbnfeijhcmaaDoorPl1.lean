/- plan: which entries may be (Good, twice), are two scripts the same. -/
import Derived.Test.YtjohbnfeijhcmaaDoorRows
import Derived.Test.YtjohbnfeijhcmaaDoorPl0
import Derived.Test.YtjohbnfeijhcmaaDoorStru
import Derived.ProofKit
import Derived.Deep.RegionHeld3
namespace Bosun
open Go
/-- The slice v reads as the script l. -/
def ReadsE (w : World) (v : Value) (l : List Ent) : Prop := ReadsS w v 3 (l.map Ent.cells)
theorem ReadsE.keep {w w1 : World} {v : Value} {l : List Ent} (h : ReadsE w v l) (hc : Chg [] w w1) : ReadsE w1 v l := ReadsS.keep h hc
theorem Ent.cells_inj {a b : Ent} (h : a.cells = b.cells) : a = b := by
  obtain ⟨a1, a2, a3⟩ := a; obtain ⟨b1, b2, b3⟩ := b
  simp [Ent.cells] at h; simp; exact ⟨h.1, h.2.1, by exact_mod_cast h.2.2⟩
end Bosun
namespace Go.Proofs.YtjohbnfeijhcmaaDoor
open Go.RowKit Bosun
set_option maxHeartbeats 4000000 in
theorem good_any (e : Ent) (n : Int) (w : World) :
    Calls Tryd.prog 16 #[.agg #[.int .i64 e.cpu, .bool e.tick, .int .u64 (e.draw : Nat)], .int .i64 n] w fun x w' => x = .returned (.bool (decide (e.good n))) ∧ Chg [] w w' := by
  obtain ⟨c, t, d⟩ := e
  simp only
  go_enter Tryd.func16, Tryd.ntmps16
  go_wp2_with fail
  all_goals
    go_ret
    exact ⟨ret_bool (by show _ = decide (0 ≤ c ∧ c < n ∧ c < 64); first | exact decide_eq_decide.2 ⟨fun h => ⟨by omega, by omega, by omega⟩, fun h => by omega⟩ | exact (decide_eq_false (by omega)).symm), (Chg.refl _ _).alloc _⟩
set_option maxHeartbeats 4000000 in
theorem rgood_any (e : Ent) (n : Int) (w : World) :
    Calls Tryd.prog 17 #[.agg #[.int .i64 e.cpu, .bool e.tick, .int .u64 (e.draw : Nat)], .int .i64 n] w fun x w' => x = .returned (.bool (decide (e.good n))) ∧ Chg [] w w' := by
  obtain ⟨c, t, d⟩ := e
  simp only
  go_enter Tryd.func17, Tryd.ntmps17
  go_wp2_with fail
  all_goals
    go_ret
    exact ⟨ret_bool (by show _ = decide (0 ≤ c ∧ c < n ∧ c < 64); first | exact decide_eq_decide.2 ⟨fun h => ⟨by omega, by omega, by omega⟩, fun h => by omega⟩ | exact (decide_eq_false (by omega)).symm), (Chg.refl _ _).alloc _⟩
set_option maxHeartbeats 4000000 in
theorem esame_any (v u : Value) (l m : List Ent) (w : World) (hv : ReadsE w v l) (hu : ReadsE w u m) :
    Calls Tryd.prog 9 #[v, u] w fun e w' => e = .returned (.bool (decide (l = m))) ∧ Chg [] w w' := by
  obtain ⟨ao, cap, rfl, hm, hc⟩ := hv
  obtain ⟨bo, dap, rfl, hn, hd⟩ := hu
  rw [List.length_map] at hm hn ⊢
  rw [List.length_map]
  unfold maxLen at hm hn
  have hc := Lib.hid hc
  have hd := Lib.hid hd
  go_enter Tryd.func9, Tryd.ntmps9
  by_cases hl : l.length = m.length
  · have hl2 : ((l.length : Int) == (m.length : Int)) = true := by simp [hl]
    go_wp2_with fail
    go_loopw [5] (fun s wx => ∃ i : Nat, i ≤ l.length ∧ s = .int .i64 i ∧ (∀ k, k < i → l[k]? = m[k]?) ∧ Chg [] w wx) (fun s _ => l.length - (intOf s).toNat)
    case atStart => exact ⟨0, by omega, rfl, fun k hk => by omega, by first | exact Chg.refl _ _ | assumption⟩
    case round =>
      obtain ⟨i, hi, rfl, hk, C⟩ := hrel
      by_cases hil : i < l.length
      · obtain ⟨g, off, rfl, cg⟩ := hc.out i l[i].cells (by simp [hil])
        obtain ⟨g2, off2, rfl, cg2⟩ := hd.out i (m[i]'(by omega)).cells (by simp [show i < m.length by omega])
        have him : (i : Int) < (m.length : Int) := by omega
        have hil2 : (i : Int) < (l.length : Int) := by omega
        obtain ⟨x, hx⟩ : ∃ x, x = l[i] := ⟨_, rfl⟩
        obtain ⟨y, hy⟩ : ∃ y, y = m[i]'(by omega) := ⟨_, rfl⟩
        rw [← hx] at cg
        rw [← hy] at cg2
        obtain ⟨x0, x1, x2⟩ := x
        obtain ⟨y0, y1, y2⟩ := y
        have l1 : g < w.heap.size := World.block_lt_of_cell? w _ (cg 0 _ rfl)
        have l2 : g2 < w.heap.size := World.block_lt_of_cell? w _ (cg2 0 _ rfl)
        have f0 : wr.cell? ⟨g, off + i * 3, none⟩ = some (.int .i64 x0) := (World.cell?_of_block (w := w) (C.block g l1 (by simp))).trans (cg 0 _ rfl)
        have f1 : wr.cell? ⟨g, off + i * 3 + 1, none⟩ = some (.bool x1) := (World.cell?_of_block (w := w) (C.block g l1 (by simp))).trans (cg 1 _ rfl)
        have f2 : wr.cell? ⟨g, off + i * 3 + 2, none⟩ = some (.int .u64 (x2 : Nat)) := (World.cell?_of_block (w := w) (C.block g l1 (by simp))).trans (cg 2 _ rfl)
        have g0 : wr.cell? ⟨g2, off2 + i * 3, none⟩ = some (.int .i64 y0) := (World.cell?_of_block (w := w) (C.block g2 l2 (by simp))).trans (cg2 0 _ rfl)
        have g1 : wr.cell? ⟨g2, off2 + i * 3 + 1, none⟩ = some (.bool y1) := (World.cell?_of_block (w := w) (C.block g2 l2 (by simp))).trans (cg2 1 _ rfl)
        have g2' : wr.cell? ⟨g2, off2 + i * 3 + 2, none⟩ = some (.int .u64 (y2 : Nat)) := (World.cell?_of_block (w := w) (C.block g2 l2 (by simp))).trans (cg2 2 _ rfl)
        have HX := Lib.hid hx
        have HY := Lib.hid hy
        clear cg cg2 hx hy
        by_cases e0 : x0 = y0 ∧ x1 = y1 ∧ x2 = y2
        · obtain ⟨rfl, rfl, rfl⟩ := e0
          go_wp2_with fail
          go_region_held3 (fun w' => w'.cell? ⟨g, off + i * 3, none⟩ = some (.int .i64 x0) ∧ w'.cell? ⟨g, off + i * 3 + 1, none⟩ = some (.bool x1) ∧ w'.cell? ⟨g, off + i * 3 + 2, none⟩ = some (.int .u64 (x2 : Nat)) ∧ w'.cell? ⟨g2, off2 + i * 3, none⟩ = some (.int .i64 x0) ∧ w'.cell? ⟨g2, off2 + i * 3 + 1, none⟩ = some (.bool x1) ∧ w'.cell? ⟨g2, off2 + i * 3 + 2, none⟩ = some (.int .u64 (x2 : Nat))) (first | assumption | exact ⟨f0, f1, f2, g0, g1, g2'⟩ | fail) (fail)
          go_wp2_with fail
          go_roundw
          case rel =>
            refine ⟨i + 1, by omega, by go_num, fun k hki => ?_, C.drew⟩
            rcases Nat.lt_or_ge k i with h | h
            · exact hk k h
            · obtain rfl : k = i := by omega
              rw [List.getElem?_eq_getElem hil, List.getElem?_eq_getElem (show k < m.length by omega), ← HX.out, ← HY.out]
          case measure => simp [intOf] <;> omega
        · have hne : l ≠ m := by
            intro e
            subst e
            apply e0
            have := HX.out.trans HY.out.symm
            simpa using this
          have dl : decide (l = m) = false := decide_eq_false hne
          by_cases e1 : x0 = y0
          · subst e1
            by_cases e2 : x1 = y1
            · subst e2
              have e3 : ¬ (x2 : Int) = (y2 : Int) := fun h => e0 ⟨rfl, rfl, by exact_mod_cast h⟩
              clear e0
              go_wp2_with fail
              go_region_held3 (fun w' => w'.cell? ⟨g, off + i * 3, none⟩ = some (.int .i64 x0) ∧ w'.cell? ⟨g, off + i * 3 + 1, none⟩ = some (.bool x1) ∧ w'.cell? ⟨g, off + i * 3 + 2, none⟩ = some (.int .u64 (x2 : Nat)) ∧ w'.cell? ⟨g2, off2 + i * 3, none⟩ = some (.int .i64 x0) ∧ w'.cell? ⟨g2, off2 + i * 3 + 1, none⟩ = some (.bool x1) ∧ w'.cell? ⟨g2, off2 + i * 3 + 2, none⟩ = some (.int .u64 (y2 : Nat))) (first | assumption | exact ⟨f0, f1, f2, g0, g1, g2'⟩ | fail) (fail)
              go_wp2_with fail
              go_ret
              exact ⟨(by rw [dl]; first | done | rfl), C.drew⟩
            · go_wp2_with fail
              go_region_held3 (fun w' => w'.cell? ⟨g, off + i * 3, none⟩ = some (.int .i64 x0) ∧ w'.cell? ⟨g, off + i * 3 + 1, none⟩ = some (.bool x1) ∧ w'.cell? ⟨g, off + i * 3 + 2, none⟩ = some (.int .u64 (x2 : Nat)) ∧ w'.cell? ⟨g2, off2 + i * 3, none⟩ = some (.int .i64 x0) ∧ w'.cell? ⟨g2, off2 + i * 3 + 1, none⟩ = some (.bool y1) ∧ w'.cell? ⟨g2, off2 + i * 3 + 2, none⟩ = some (.int .u64 (y2 : Nat))) (first | assumption | exact ⟨f0, f1, f2, g0, g1, g2'⟩ | fail) (fail)
              go_wp2_with fail
              go_ret
              exact ⟨(by rw [dl]; first | done | rfl), C.drew⟩
          · go_wp2_with fail
            go_region_held3 (fun w' => w'.cell? ⟨g, off + i * 3, none⟩ = some (.int .i64 x0) ∧ w'.cell? ⟨g, off + i * 3 + 1, none⟩ = some (.bool x1) ∧ w'.cell? ⟨g, off + i * 3 + 2, none⟩ = some (.int .u64 (x2 : Nat)) ∧ w'.cell? ⟨g2, off2 + i * 3, none⟩ = some (.int .i64 y0) ∧ w'.cell? ⟨g2, off2 + i * 3 + 1, none⟩ = some (.bool y1) ∧ w'.cell? ⟨g2, off2 + i * 3 + 2, none⟩ = some (.int .u64 (y2 : Nat))) (first | assumption | exact ⟨f0, f1, f2, g0, g1, g2'⟩ | fail) (fail)
            go_wp2_with fail
            go_ret
            exact ⟨(by rw [dl]; first | done | rfl), C.drew⟩
      · obtain rfl : i = l.length := by omega
        have hlm : l = m := by
          apply List.ext_getElem?
          intro k
          rcases Nat.lt_or_ge k l.length with h | h
          · exact hk k h
          · rw [List.getElem?_eq_none h, List.getElem?_eq_none (by omega)]
        have dl : decide (l = m) = true := decide_eq_true hlm
        go_wp2_with fail
        go_ret
        exact ⟨(by rw [dl]; first | done | rfl), C⟩
  · have hl2 : ((l.length : Int) == (m.length : Int)) = false := by simp; omega
    have dl : decide (l = m) = false := decide_eq_false fun e => hl (by rw [e])
    go_wp2_with fail
    go_ret
    exact ⟨(by rw [dl]; first | done | rfl), Chg.refl _ _⟩
end Go.Proofs.YtjohbnfeijhcmaaDoor
