/- life: the page's Way. -/
import Derived.Test.YtcoljjbbfjhhpaaLife4
namespace Bosun
set_option maxRecDepth 100000 in
theorem level_small : ∀ a, a < 7 → ∀ k, k < 5 → (levelL (a : Nat) k).length ≤ 1000 ∧ levelL (a : Nat) k ≠ [] ∧ ∀ r ∈ levelL (a : Nat) k, r.length ≤ 5 := by decide +kernel
theorem exts_length (r : List Int) (x : Int) : ∀ k, (exts r x k).length ≤ k
  | 0 => Nat.le_refl _
  | k + 1 => by
    unfold exts
    rw [List.length_append]
    have := exts_length r x k
    split <;> simp <;> omega
theorem nextL_length (a : Int) (L : List (List Int)) : ∀ i, (nextL a L i).length ≤ 10 * i
  | 0 => Nat.le_refl _
  | i + 1 => by
    unfold nextL
    rw [List.length_append]
    have := nextL_length a L i
    have := exts_length (L.getD i []) (walkL a (L.getD i [])).1 10
    omega
open Go Go.RowKit
theorem Own.shape {w : World} {v : Value} {xs : List Value} {b : Nat} {e : TypeId} (h : Own w b e v xs) (h0 : xs ≠ []) : ∃ g n c, v = .slice (some ⟨g, 0, none⟩) n c := by
  rcases h.2 with ⟨_, hn⟩ | ⟨g', cap, cur, rfl, _⟩
  · exact absurd (List.eq_nil_of_length_eq_zero hn) h0
  · exact ⟨_, _, _, rfl⟩
end Bosun
namespace Go.Proofs.Ytcoljjbbfjhhpaa
open Go.RowKit Bosun
theorem infoRow : (Try.prog.info? 22).map (fun i => (i.zero, i.size, i.bytes)) = some (some (.slice none 0 0), 1, 24) := by kernel_rfl
/-- A slice of rows of numbers, all the call's own. -/
structure RowsAt (b : Nat) (w : World) (v : Value) (ls : List (List Int)) (rv : List Value) : Prop where
  own : Own w b 22 v rv
  len : rv.length = ls.length
  row : ∀ i (h : i < rv.length), Own w b 3 rv[i] (ints (ls.getD i []))
theorem RowsAt.keep {b : Nat} {w w1 : World} {v : Value} {ls : List (List Int)} {rv : List Value} (h : RowsAt b w v ls rv) (hc : Chg [] w w1) : RowsAt b w1 v ls rv :=
  ⟨h.own.keep hc, h.len, fun i hi => (h.row i hi).keep hc⟩
theorem RowsAt.mono {b b' : Nat} {w : World} {v : Value} {ls : List (List Int)} {rv : List Value} (h : RowsAt b w v ls rv) (hb : b' ≤ b) : RowsAt b' w v ls rv :=
  ⟨h.own.mono hb, h.len, fun i hi => (h.row i hi).mono hb⟩
theorem RowsAt.more {b : Nat} {w w' : World} {v v' v6 : Value} {ls : List (List Int)} {rv : List Value} {l : List Int} (h : RowsAt b w v ls rv) (ho : Own w' b 22 v' (rv ++ [v6])) (hc : Chg v.ownBlock.toList w w') (h6 : Own w' b 3 v6 (ints l)) :
    RowsAt b w' v' (ls ++ [l]) (rv ++ [v6]) := by
  refine ⟨ho, by simp [h.len], fun i hi => ?_⟩
  rw [List.getElem_append]
  by_cases hi2 : i < rv.length
  · rw [dif_pos hi2]
    have e : (ls ++ [l]).getD i [] = ls.getD i [] := by rw [List.getD_eq_getElem?_getD, List.getElem?_append_left (by rw [← h.len]; exact hi2), ← List.getD_eq_getElem?_getD]
    rw [e]
    refine (h.row i hi2).chg hc (fun g hg => ?_)
    rcases h.own.2 with ⟨rfl, _⟩ | ⟨g', cap, cur, rfl, _, hg', _⟩
    · cases hg
    · obtain rfl : g = g' := List.mem_singleton.1 (show g ∈ [g'] from hg)
      exact (h.row i hi2).ne_blk (cs := cur) hg' (by decide)
  · rw [dif_neg hi2]
    have e : (ls ++ [l]).getD i [] = l := by
      rw [List.length_append] at hi
      simp at hi
      rw [List.getD_eq_getElem?_getD, List.getElem?_append_right (by rw [← h.len]; omega), show i - ls.length = 0 from by rw [← h.len]; omega]
      rfl
    rw [e]
    simpa using h6

set_option maxHeartbeats 1000000 in
theorem rway_out (a to : Int) (h : ¬ ((0 ≤ a ∧ a < 7) ∧ (0 ≤ to ∧ to < 7))) (w : World) :
    Calls Try.prog 19 #[.int .i64 a, .int .i64 to] w fun e w' => e = .returned (.tuple #[.slice none 0 0, .bool false]) ∧ w = w' := by
  rcases (show a < 0 ∨ (decide (a < 0) = false ∧ 6 < a) ∨ (decide (a < 0) = false ∧ decide (6 < a) = false ∧ to < 0) ∨ (decide (a < 0) = false ∧ decide (6 < a) = false ∧ decide (to < 0) = false ∧ 6 < to) by simp; omega)
    with h1 | ⟨h1, h2⟩ | ⟨h1, h2, h3⟩ | ⟨h1, h2, h3, h4⟩
  all_goals
    clear h
    go_enter Try.func19, Try.ntmps19
    go_wp2_with fail
    go_ret2
    exact ⟨rfl, rfl⟩

set_option maxRecDepth 100000 in
set_option maxHeartbeats 4000000 in
theorem rway_in (a to : Nat) (ha : a < 7) (ht : to < 7) (w : World) :
    Calls Try.prog 19 #[.int .i64 a, .int .i64 to] w fun e w' => ∃ v, e = .returned (.tuple #[v, .bool (wayL a to).2]) ∧ Reads w' v (ints (wayL a to).1) ∧ Chg [] w w' := by
  obtain ⟨R, hR⟩ : ∃ R, R = wayL a to := ⟨_, rfl⟩
  have hRr := (refL_way a ha to ht).1
  have hRt := (refL_way a ha to ht).2
  rw [← hR] at hRr hRt ⊢
  have HRR := Lib.hid hRr
  rw [hRt]
  clear hR hRr hRt
  go_enter Try.func19, Try.ntmps19
  go_wp2_with fail
  obtain ⟨w1, hw1⟩ : ∃ w1, w1 = w.alloc (.cells #[.slice none 0 0] 22) := ⟨_, rfl⟩
  rw [← hw1]
  have C1 : Chg [] w w1 := by rw [hw1]; exact (Chg.refl _ _).alloc _
  have B1 : Blk w1 w.heap.size #[.slice none 0 0] 22 := by rw [hw1]; exact Blk.new _ _ _
  have W1 : RowsAt w.heap.size w1 (.slice (some ⟨w.heap.size, 0, none⟩) 1 1) (levelL a 0) [.slice none 0 0] := by
    refine ⟨Own.of_blk B1 (Nat.le_refl _) rfl (Nat.le_refl _) (by decide) rfl, rfl, fun i h => ?_⟩
    obtain rfl : i = 0 := by simp at h; exact h
    exact Own.nil _ _ _
  clear hw1 B1
  go_loopg [6] 5 (fun gk x6 wr => ∃ k rv, k + gk = 5 ∧ (∀ j, j < k → (levelL a j).find? (leads a to) = none) ∧ RowsAt w.heap.size wr x6 (levelL a k) rv ∧ Chg [] w wr)
  case atStart => exact ⟨0, _, rfl, fun j h => by omega, W1, C1⟩
  case round =>
    obtain ⟨k, rv, hk, hno, W, H⟩ := hrel
    obtain ⟨wL, rfl⟩ : ∃ wL, wL = wr := ⟨_, rfl⟩
    have hk5 : k < 5 := by
      rcases Nat.lt_or_ge k 5 with h | h
      · exact h
      · exact (refL_none ha ht (fun j hj => hno j (by omega))).elim
    obtain ⟨hsm, hne, hrl⟩ := level_small a ha k hk5
    have HNEXT := Lib.hid (show levelL a (k + 1) = nextL a (levelL a k) (levelL a k).length from rfl)
    have HSOME := Lib.hid (fun r => refL_some (a := a) (to := to) hk5 hno (r := r))
    obtain ⟨L, hL⟩ : ∃ L, L = levelL a k := ⟨_, rfl⟩
    rw [← hL] at hsm hne hrl W HNEXT HSOME
    have HNO := Lib.hid (show L.find? (leads a to) = none → ∀ j, j < k + 1 → (levelL a j).find? (leads a to) = none from fun h j hj => by
      rcases Nat.lt_or_ge j k with h1 | h1
      · exact hno j h1
      · obtain rfl : j = k := by omega
        rw [← hL]; exact h)
    have HRL := Lib.hid hrl
    clear hL hno hrl
    have hLp : 0 < L.length := List.length_pos_iff.2 hne
    clear hne
    obtain ⟨_, hO⟩ := W.own
    rcases hO with ⟨hu, h0⟩ | ⟨gs, cap, cur, hu, hgs, hBs, hns, hcs, hss, htk⟩
    · rw [W.len] at h0; omega
    · rw [W.len] at hu
      subst hu
      have z := Blk.lt hBs
      have hgl := W.len
      clear hBs hns hss htk
      go_wp2_with fail
      go_loopw [7, 8] (fun x7 x8 wi => ∃ (i : Nat) (rvn : List Value), i ≤ L.length ∧ x8 = .int .i64 i ∧ (∀ j, j < i → leads a to (L.getD j []) = false) ∧ RowsAt wL.heap.size wi x7 (nextL a L i) rvn ∧ Chg [] wL wi)
        (fun _ x8 _ => L.length - (intOf x8).toNat)
      case atStart => exact ⟨0, [], by omega, rfl, fun j h => by omega, ⟨Own.nil _ _ _, rfl, fun i h => by simp at h⟩, Chg.refl _ _⟩
      case round =>
        obtain ⟨i, rvn, hi, rfl, hnl, V, K⟩ := hrel
        obtain ⟨wi, rfl⟩ : ∃ wi, wi = wr := ⟨_, rfl⟩
        by_cases hiL : i < L.length
        · have hi2 : i < rv.length := by rw [hgl]; exact hiL
          have hOL := W.row i hi2
          obtain ⟨rr, hrr⟩ : ∃ rr, rr = L.getD i [] := ⟨_, rfl⟩
          have hrl5 : rr.length ≤ 5 := HRL.out rr (by rw [hrr, List.getD_eq_getElem?_getD, List.getElem?_eq_getElem hiL]; exact List.getElem_mem hiL)
          obtain ⟨vr, hvr⟩ : ∃ v, v = rv[i] := ⟨_, rfl⟩
          rw [← hrr, ← hvr] at hOL
          have hci : wL.cell? ⟨gs, i, none⟩ = some vr := by
            obtain ⟨ao, cap', hs, _, hc⟩ := W.own.reads
            simp at hs
            obtain ⟨g, off, hao, hcell⟩ := hc i vr (by rw [hvr]; exact List.getElem?_eq_getElem hi2)
            rw [← hs.1] at hao
            simp at hao
            obtain ⟨rfl, rfl⟩ := hao
            simpa using hcell
          have hci2 : ∀ w3, Chg [] wL w3 → w3.cell? ⟨gs, i, none⟩ = some vr := fun w3 h3 => by rw [World.cell?_of_block (h3.block gs z (by simp))]; exact hci
          have HCI := Lib.hid hci2
          have hOr := hOL.keep K
          have hci3 := hci2 wi K
          have HRRI := Lib.hid hrr
          have HNL := Lib.hid hnl
          clear hvr hrr hnl hci2
          go_wp2_with fail
          refine (rwalk_any a vr rr _ hOr.reads).mono ?_
          rintro e w2 ⟨rfl, C2⟩
          have K2 := K.then C2 (by simp)
          have hO2 := hOr.keep C2
          have hci4 := HCI.out w2 K2
          obtain ⟨x, hx⟩ : ∃ x, x = (walkL a rr).1 := ⟨_, rfl⟩
          rw [← hx]
          clear hci hci3
          by_cases hxt : x = (to : Int)
          · have hf : L.find? (leads a to) = some rr := by
              rw [List.find?_eq_some_iff_getElem]
              refine ⟨by unfold leads; rw [← hx, hxt]; simp, i, hiL, ?_, fun j hj => ?_⟩
              · rw [HRRI.out, List.getD_eq_getElem?_getD, List.getElem?_eq_getElem hiL]; rfl
              · have := HNL.out j hj
                rw [List.getD_eq_getElem?_getD, List.getElem?_eq_getElem (by omega)] at this
                simp only [Option.getD_some] at this
                rw [this]; rfl
            have hr := (HSOME.out _ hf).symm.trans HRR.out
            simp only [Option.some.injEq] at hr
            have HR := Lib.hid hr
            have e1 : (x == (to : Int)) = true := by simp [hxt]
            clear hf hr hx hxt
            go_wp2_with fail
            go_ret2
            exact ⟨vr, rfl, by rw [← HR.out]; exact hO2.reads, H.then K2 (by simp)⟩
          · have e1 : (x == (to : Int)) = false := by simpa using hxt
            have hnl2 : ∀ j, j < i + 1 → leads a to (L.getD j []) = false := fun j hj => by
              rcases Nat.lt_or_ge j i with h1 | h1
              · exact HNL.out j h1
              · obtain rfl : j = i := by omega
                rw [← HRRI.out]; unfold leads; rw [← hx]; exact e1
            have hnx : nextL a L (i + 1) = nextL a L i ++ exts rr x 10 := by rw [hx, HRRI.out]; rfl
            have HNL2 := Lib.hid hnl2
            have HNX := Lib.hid hnx
            have hnll : (nextL a L i).length ≤ 10000 := by have := nextL_length a L i; omega
            obtain ⟨N, hN⟩ : ∃ N, N = nextL a L i := ⟨_, rfl⟩
            rw [← hN] at V hnll HNX
            clear hx hxt hnl2 hnx hN
            go_wp2_with fail
            go_loopw [7, 11] (fun x7 x11 wm => ∃ (m : Nat) (rvm : List Value), m ≤ 10 ∧ x11 = .int .i64 m ∧ RowsAt wL.heap.size wm x7 (N ++ exts rr x m) rvm ∧ Chg [] wL wm)
              (fun _ x11 _ => 10 - (intOf x11).toNat)
            case atStart => exact ⟨0, rvn, by omega, rfl, by rw [show exts rr x 0 = [] from rfl, List.append_nil]; exact V.keep C2, K2⟩
            case round =>
              obtain ⟨m, rvm, hm, rfl, X, M⟩ := hrel
              obtain ⟨wm, rfl⟩ : ∃ wm, wm = wr := ⟨_, rfl⟩
              by_cases hm10 : m < 10
              · have hex : exts rr x (m + 1) = exts rr x m ++ (if (goes x m).isSome then [rr ++ [(m : Int)]] else []) := rfl
                have hxl : (N ++ exts rr x m).length ≤ 10010 := by rw [List.length_append]; have := exts_length rr x m; omega
                rw [← X.len] at hxl
                have HEX := Lib.hid hex
                clear hex
                go_wp2_with fail
                refine (rnext_any x m _).mono ?_
                rintro e w3 ⟨⟨tx, rfl, htx⟩, hww⟩
                subst hww
                clear htx
                obtain ⟨wm, rfl⟩ : ∃ wm, wm = w3 := ⟨_, rfl⟩
                cases hg : goes x m with
                | none =>
                  rw [hg] at HEX
                  have HX := Lib.hid HEX.out
                  clear hg HEX
                  simp only [Option.isSome_none]
                  go_wp2_with fail
                  go_roundw
                  case rel => exact ⟨m + 1, rvm, by omega, by go_num, by rw [HX.out]; simpa using X, M⟩
                  case measure => simp [intOf] <;> omega
                | some y =>
                  rw [hg] at HEX
                  have HX := Lib.hid HEX.out
                  clear hg HEX
                  simp only [Option.isSome_some]
                  have c5 := HCI.out (wm.alloc (.cells #[] 3)) (M.alloc _)
                  have hOm := hOL.keep M
                  have hI1 : (ints rr).length ≤ 5 := by rw [ints_len]; exact hrl5
                  have hbw : wL.heap.size ≤ wm.heap.size := M.size
                  go_wp2_with (first
                    | (refine wpList_app_own rfl (.tmp 66) (.tmp 70) 22 rfl wm.heap.size 3 (.int .i64 0) 8 Try.underlying22 infoInt rfl _ [] rfl (Own.of_blk (Blk.new wm #[] 3) (Nat.le_refl _) rfl (Nat.le_refl _) (by decide) rfl) _ w.heap.size 3 _ rfl (hOm.alloc _) (ints_one _) (by simp only [List.length_nil, maxLen]; omega) (by simp only [List.length_nil]; omega) (by simp) ?_
                       intro v5 w5 O5 C5 L5
                       have D5 : Chg [] wm w5 := ((Chg.refl _ _).alloc _).then C5 (fun g hg => .inr (Nat.le_of_eq (List.mem_singleton.1 (show g ∈ [wm.heap.size] from hg)).symm))
                       have z5 := D5.size)
                    | (refine wpList_app1_at rfl (.tmp 71) (.tmp 73) 22 rfl wm.heap.size 3 (.int .i64 0) 8 Try.underlying22 infoInt rfl _ _ rfl (O5.alloc _) w5.heap.size 1 (.int .i64 (m : Nat)) rfl (by rw [(Blk.new _ _ _).cell]; rfl) rfl (by simp only [List.nil_append, maxLen]; omega) (by simp only [List.nil_append]; omega) (by simp; omega) ?_
                       intro v6 w6 O6 C6 L6
                       obtain ⟨g6, n6, c6, rfl⟩ := O6.shape (by simp)
                       have D6 : Chg [] wm w6 := (D5.alloc _).then C6 (fun g hg => .inr (O5.block g hg).1)
                       have z6 := D6.size)
                    | (refine wpList_app1 rfl (.tmp 65) (.tmp 75) 46 rfl wL.heap.size 22 (.slice none 0 0) 24 Try.underlying46 infoRow rfl _ _ rfl ((X.own.keep D6).alloc _) w6.heap.size 1 (.slice (some ⟨g6, 0, none⟩) n6 c6) rfl (by rw [(Blk.new w6 #[.slice (some ⟨g6, 0, none⟩) n6 c6] 22).cell]; rfl) O6.oneCell (by unfold maxLen; omega) (by omega) (by simp; omega) ?_
                       intro v9 w9 O9 C9))
                  have e6 : ints rr ++ [Value.int .i64 (m : Nat)] = ints (rr ++ [(m : Int)]) := by simp [ints]
                  rw [List.nil_append, e6] at O6
                  have X9 := ((X.keep D6).keep ((Chg.refl _ _).alloc _)).more O9 C9 (((O6.alloc _).mono hbw).chg C9 (fun g hg => by
                    intro he
                    have h1 := (X.own.block g hg).2
                    have h2 := (O6.block g (by rw [he]; simp)).1
                    omega))
                  have KK : Chg [] wL w9 := ((M.then D6 (by simp)).alloc _).then C9 (fun g hg => .inr (X.own.block g hg).1)
                  go_roundw
                  case rel => exact ⟨m + 1, _, by omega, by go_num, by rw [HX.out]; simpa using X9, KK⟩
                  case measure => simp [intOf] <;> omega
              · obtain rfl : m = 10 := by omega
                go_wp2_with fail
                go_roundw
                case rel => exact ⟨i + 1, rvm, by omega, by go_num, HNL2.out, by rw [HNX.out]; exact X, M⟩
                case measure => simp [intOf] <;> omega
        · obtain rfl : i = L.length := by omega
          have hf : L.find? (leads a to) = none := by
            rw [List.find?_eq_none]
            intro y hy
            obtain ⟨j, hj, rfl⟩ := List.getElem_of_mem hy
            have := hnl j hj
            rw [List.getD_eq_getElem?_getD, List.getElem?_eq_getElem hj] at this
            simpa using this
          have HF := Lib.hid (HNO.out hf)
          clear hf hnl
          go_wp2_with fail
          go_roundg (gk - 1)
          case rel => exact ⟨k + 1, rvn, by omega, HF.out, by rw [HNEXT.out]; exact V.mono H.size, H.then K (by simp)⟩
          case measure => omega
end Go.Proofs.Ytcoljjbbfjhhpaa
