/- sets: the reference's Next; few; the page's example; the walks of SetsHold and SetsTell. -/
import Derived.Test.YtlbgabbgfgcppaaDoorSet4
namespace Bosun
open Go
theorem leastI_head (s : Nat) : leastI s = match (members s).head? with | some a => ((a : Nat) : Int) | none => -1 := by
  unfold leastI; cases members s <;> rfl
theorem nextI_find (s : Nat) (i : Int) : nextI s i = match (members s).find? (fun x : Nat => decide (i ≤ (x : Int))) with | some x => ((x : Nat) : Int) | none => leastI s := by
  have hz := members_nil_iff (fromN_lt s i)
  have e2 : (members (fromN s i)).head? = (members s).find? (fun x : Nat => decide (i ≤ (x : Int))) := by
    rw [members_from, List.head?_filter]
    congr 1; funext x
    by_cases hx : i ≤ (x : Int)
    · rw [decide_eq_true hx, decide_eq_false (by omega)]; rfl
    · rw [decide_eq_false hx, decide_eq_true (by omega)]; rfl
  unfold nextI
  rw [leastI_head (fromN s i), e2]
  cases hq : (members s).find? (fun x : Nat => decide (i ≤ (x : Int))) with
  | some x =>
    rw [hq] at e2
    have hne : fromN s i ≠ 0 := fun h0 => by rw [hz.2 h0] at e2; simp at e2
    rw [if_pos hne]
  | none =>
    rw [hq] at e2
    have h0 : fromN s i = 0 := hz.1 (by cases hm : members (fromN s i) with
      | nil => rfl
      | cons b t => rw [hm] at e2; simp at e2)
    rw [if_neg (by simp [h0])]
theorem nextI_some {s : Nat} {i : Int} {k : Nat} (hk : k < (members s).length) (h1 : i ≤ (((members s)[k] : Nat) : Int)) (h2 : ∀ j (hj : j < (members s).length), j < k → (((members s)[j] : Nat) : Int) < i) : nextI s i = (((members s)[k] : Nat) : Int) := by
  have e : (members s).find? (fun x : Nat => decide (i ≤ (x : Int))) = some (members s)[k] := by
    rw [List.find?_eq_some_iff_getElem]
    refine ⟨by simpa using h1, k, hk, rfl, fun j hj => ?_⟩
    have := h2 j (by omega) hj
    simpa using this
  rw [nextI_find, e]
theorem nextI_none {s : Nat} {i : Int} (h2 : ∀ j (hj : j < (members s).length), (((members s)[j] : Nat) : Int) < i) : nextI s i = leastI s := by
  have e : (members s).find? (fun x : Nat => decide (i ≤ (x : Int))) = none := by
    rw [List.find?_eq_none]
    intro x hx
    obtain ⟨j, hj, rfl⟩ := List.mem_iff_getElem.1 hx
    simpa using h2 j hj
  rw [nextI_find, e]
end Bosun
namespace Go.Proofs.YtlbgabbgfgcppaaDoor
open Go.RowKit Bosun
set_option maxHeartbeats 1000000 in
theorem rnext_any (s : Nat) (hs : s < 18446744073709551616) (i : Int) (w : World) :
    Calls Tryd.prog 25 #[.int .u64 (s : Nat), .int .i64 i] w fun e w' => e = .returned (.int .i64 (nextI s i)) ∧ Chg [] w w' := by
  have HA := Lib.hid (list_any' s hs w)
  have HLS := Lib.hid (fun w => rleast_any s hs w)
  have hle := members_le s
  have HS := Lib.hid (fun k (hk : k < (members s).length) => @nextI_some s i k hk)
  have HN := Lib.hid (@nextI_none s i)
  obtain ⟨q, hq⟩ : ∃ q, q = nextI s i := ⟨_, rfl⟩
  rw [← hq] at HS HN ⊢
  obtain ⟨L, hL⟩ : ∃ L, L = members s := ⟨_, rfl⟩
  rw [← hL] at HA hle HS HN
  clear hL hq
  go_enter Tryd.func25, Tryd.ntmps25
  go_wp2_with (go_at_call 8; refine HA.out.mono ?_; rintro e w1 ⟨ao, cp, rfl, hr, H1⟩)
  have HR := Lib.hid hr
  clear hr HA
  go_loopw [6] (fun j wr => ∃ k : Nat, k ≤ L.length ∧ j = .int .i64 k ∧ Hid (∀ j (h : j < L.length), j < k → ((L[j] : Nat) : Int) < i) ∧ w1 = wr)
    (fun j _ => 64 - (intOf j).toNat)
  case atStart => exact ⟨0, by omega, rfl, Lib.hid (fun j _ h => absurd h (by omega)), rfl⟩
  case round =>
    obtain ⟨k, hk, rfl, hno, rfl⟩ := hrel
    by_cases hkL : k < L.length
    · obtain ⟨g, off, rfl, hc⟩ := reads_cell HR.out hkL
      obtain ⟨y, hy⟩ : ∃ y, y = L[k] := ⟨_, rfl⟩
      rw [← hy] at hc
      have HY := Lib.hid hy
      clear hy
      have b1 : (k : Int) < (L.length : Int) := by omega
      by_cases d1 : i ≤ (y : Int)
      · have hR := Lib.hid (show q = (y : Int) from by rw [HY.out]; exact HS.out k hkL (by rw [← HY.out]; exact d1) (fun j hj hjk => hno.out j hj hjk))
        go_wp2_with fail
        go_ret
        exact ⟨by rw [hR.out]; rfl, H1⟩
      · have d1' : (y : Int) < i := by omega
        go_wp2_with fail
        go_roundw
        case rel => exact ⟨k + 1, by omega, by go_num, Lib.hid (fun j h hj => by
            by_cases e : j < k
            · exact hno.out j h e
            · obtain rfl : j = k := by omega
              rw [← HY.out]; exact d1'), by trivial⟩
        case measure => simp [intOf] <;> omega
    · obtain rfl : k = L.length := by omega
      have hR := Lib.hid (HN.out (fun j hj => hno.out j hj hj))
      go_wp2_with (go_at_call 23; refine (HLS.out _).mono ?_; rw [← hR.out]; rintro e w2 ⟨rfl, H2⟩)
      go_ret
      exact ⟨rfl, H1.trans H2⟩
set_option maxHeartbeats 1000000 in
theorem few_any (v : Value) (l : List Int) (w : World) (hr : Reads w v (ints l)) :
    Calls Tryd.prog 12 #[v] w fun e w' => ∃ v', e = .returned v' ∧ Reads w' v' (ints (l.take 90)) ∧ Chg [] w w' := by
  obtain ⟨ao, cap, rfl, hm, hc⟩ := hr
  rw [ints_len] at hm ⊢
  unfold maxLen at hm
  have HC := Lib.hid hc
  clear hc
  go_enter Tryd.func12, Tryd.ntmps12
  go_wp2_with fail
  go_loopw [3, 4] (fun v i wr => ∃ k : Nat, k ≤ l.length ∧ k ≤ 90 ∧ i = .int .i64 k ∧ Bosun.Own wr w.heap.size 3 v (ints (l.take k)) ∧ Chg [] w wr)
    (fun _ i _ => 90 - (intOf i).toNat)
  case atStart => exact ⟨0, by omega, by omega, rfl, Bosun.Own.nil _ _ _, Chg.refl _ _⟩
  case round =>
    obtain ⟨k, hk, hk9, rfl, hown, H⟩ := hrel
    by_cases hkl : k < l.length
    · have b1 : (k : Int) < (l.length : Int) := by omega
      by_cases h9 : k < 90
      · obtain ⟨g, off, rfl, hcell⟩ := HC.out k _ (ints_get l hkl)
        have hcell' : wr.cell? ⟨g, off + k, none⟩ = some (.int .i64 l[k]) := by
          rw [World.cell?_of_block (w := w) (H.block g (World.block_lt_of_cell? w _ hcell) (by simp)), hcell]
        have ht := List.take_succ_eq_append_getElem hkl
        obtain ⟨x, hx⟩ : ∃ x, x = l[k] := ⟨_, rfl⟩
        rw [← hx] at hcell' ht
        have HT := Lib.hid ht
        have hlen : (l.take k).length = k := by rw [List.length_take]; omega
        have HLE := Lib.hid hlen
        have hsz := H.size
        clear hx ht hlen hcell
        go_wp2_with (refine wpList_app1 rfl (.tmp 15) (.tmp 20) 23 rfl w.heap.size 3 (.int .i64 0) 8 Tryd.underlying23 infoInt rfl _ _ rfl (hown.alloc _) wr.heap.size 1 (.int .i64 x) rfl (by go_simp) rfl (by rw [ints_len, HLE.out]; unfold maxLen; omega) (by rw [ints_len, HLE.out]; omega) (by simp; omega) ?_; intro v' w5 H8 H9)
        go_roundw
        case rel =>
          have hblk := hown.block
          refine ⟨k + 1, by omega, by omega, by go_num, by rw [HT.out, ints_snoc]; exact H8, (H.alloc _).then H9 (fun g hg => .inr ?_)⟩
          have := hblk _ hg; omega
        case measure => simp [intOf] <;> omega
      · obtain rfl : k = 90 := by omega
        go_wp2_with fail
        go_ret
        exact ⟨_, rfl, hown.reads, H⟩
    · obtain rfl : k = l.length := by omega
      have e : l.take 90 = l.take l.length := by rw [List.take_length, List.take_of_length_le (by omega)]
      have HE := Lib.hid e
      clear e
      go_wp2_with fail
      go_ret
      exact ⟨_, rfl, by rw [HE.out]; exact hown.reads, H⟩
set_option maxHeartbeats 400000 in
theorem awake_any (w : World) (hT : TabW w) :
    Calls Tryd.prog 11 #[] w fun e w' => e = .returned (.bool true) ∧ Chg [] w w' := by
  have hwp : 0 < w.heap.size := World.block_lt_of_cell? w _ (hT 0 (by decide))
  have E1 := Lib.hid (show ([5, 1, 64] : List Int).foldl (fun s i => put s i true) 0 = 34 by decide +kernel)
  have E2 := Lib.hid (show (⟨(txtN 34).toArray⟩ : ByteArray) = ⟨#[49, 44, 53]⟩ by decide +kernel)
  have E3 := Lib.hid (show nextI 34 2 = 5 by decide +kernel)
  have E4 := Lib.hid (show nextI 34 6 = 1 by decide +kernel)
  have HTW := Lib.hid hT
  clear hT
  go_enter Tryd.func11, Tryd.ntmps11
  go_wp2_with fail
  refine (sof_any _ [5, 1, 64] (by decide) _ ((Blk.new _ _ _).reads 3 3 (by simp) (by simp [maxLen]) rfl)).mono ?_
  rw [E1.out]
  rintro e w1 ⟨rfl, rfl⟩
  have T1 : TabW (w.alloc (.cells #[.int .i64 5, .int .i64 1, .int .i64 64] 3)) := TabW.below hwp ((Chg.refl [] w).alloc _).below HTW.out
  go_wp2_with fail
  refine (text_any 34 (by decide) _ T1).mono ?_
  rw [E2.out]
  rintro e w2 ⟨rfl, H2⟩
  have H2' := ((Chg.refl [] w).alloc _).trans H2
  clear T1 H2
  have T2 := Lib.hid (TabW.below hwp H2'.below HTW.out)
  have N1 := Lib.hid (next_any 34 (by decide) 2 (by decide) (by decide) w2 T2.out)
  have N2 := Lib.hid (next_any 34 (by decide) 6 (by decide) (by decide) w2 T2.out)
  rw [E3.out] at N1
  rw [E4.out] at N2
  go_wp2_with (first
    | (go_at_call 24; refine N1.out.mono ?_; clear N1; rintro e w3 ⟨rfl, rfl⟩)
    | (go_at_call 24; refine N2.out.mono ?_; clear N2; rintro e w3 ⟨rfl, rfl⟩))
  go_ret
  exact ⟨rfl, H2'⟩
end Go.Proofs.YtlbgabbgfgcppaaDoor
