/- lot: Pick, Victim, Spread, Order. -/
import Derived.Test.YtfmigdlkbnjnfaaDoorSets1
import Derived.Test.YtfmigdlkbnjnfaaDoorLotP
namespace Go.Proofs.YtfmigdlkbnjnfaaDoor
open Go.RowKit Bosun

/-- One of so many. -/
def pickI (d n : Int) : Int := if n < 1 then 0 else d % n

set_option maxHeartbeats 400000 in
theorem pick_any (d n : Int) (hd0 : 0 ≤ d) (hd : d ≤ 18446744073709551615) (hn2 : n ≤ 9223372036854775807) (w : World) :
    Calls Tryd.prog 4 #[.int .u64 d, .int .i64 n] w fun e w' => e = .returned (.int .i64 (pickI d n)) ∧ w = w' := by
  by_cases hn : 1 ≤ n
  · have e : pickI d n = d % n := by unfold pickI; rw [if_neg (by omega)]
    rw [e]
    have h1 := Int.emod_nonneg d (show n ≠ 0 by omega)
    have h2 := Int.emod_lt_of_pos d (show 0 < n by omega)
    have e2 := IntWalk.wrap64_in (d % n) ⟨by omega, by omega⟩
    clear e
    go_enter Tryd.func4, Tryd.ntmps4
    go_wp2
    go_ret
    exact ⟨rfl, rfl⟩
  · have e : pickI d n = 0 := by unfold pickI; rw [if_pos (by omega)]
    rw [e]
    clear e
    go_enter Tryd.func4, Tryd.ntmps4
    go_wp2
    go_ret
    exact ⟨rfl, rfl⟩

/-- Another one. -/
def victimI (d self n : Int) : Int :=
  if n < 2 ∨ self < 0 ∨ n ≤ self then -1 else if d % (n - 1) < n - 1 - self then self + 1 + d % (n - 1) else d % (n - 1) - (n - 1 - self)

set_option maxHeartbeats 400000 in
theorem victim_any (d self n : Int) (hd0 : 0 ≤ d) (hd : d ≤ 18446744073709551615) (hs : -9223372036854775808 ≤ self) (hs2 : self ≤ 9223372036854775807)
    (hn1 : -9223372036854775808 ≤ n) (hn2 : n ≤ 9223372036854775807) (w : World) :
    Calls Tryd.prog 9 #[.int .u64 d, .int .i64 self, .int .i64 n] w fun e w' => e = .returned (.int .i64 (victimI d self n)) ∧ w = w' := by
  by_cases hc : n < 2 ∨ self < 0 ∨ n ≤ self
  · have e : victimI d self n = -1 := by unfold victimI; rw [if_pos hc]
    have E := Lib.hid e
    clear e
    go_enter Tryd.func9, Tryd.ntmps9
    by_cases h1 : n < 2
    · go_wp2
      go_ret
      exact ⟨ret_int E.out.symm, rfl⟩
    · by_cases h2 : self < 0
      · go_wp2
        go_ret
        exact ⟨ret_int E.out.symm, rfl⟩
      · have h3 : n ≤ self := by omega
        go_wp2
        go_ret
        exact ⟨ret_int E.out.symm, rfl⟩
  · have h1 := Int.emod_nonneg d (show n - 1 ≠ 0 by omega)
    have h2 := Int.emod_lt_of_pos d (show 0 < n - 1 by omega)
    have hp : pickI d (n - 1) = d % (n - 1) := by unfold pickI; rw [if_neg (by omega)]
    have HP := Lib.hid hp
    obtain ⟨k, hk⟩ : ∃ k, k = d % (n - 1) := ⟨_, rfl⟩
    rw [← hk] at h1 h2 hp
    have ev : victimI d self n = if k < n - 1 - self then self + 1 + k else k - (n - 1 - self) := by unfold victimI; rw [if_neg hc, hk]
    have g1 : 2 ≤ n := by omega
    have g2 : 0 ≤ self := by omega
    have g3 : self < n := by omega
    have HPK := Lib.hid hp
    clear hp hk hc
    by_cases hlt : k < n - 1 - self
    · rw [if_pos hlt] at ev
      have E := Lib.hid ev
      clear ev
      go_enter Tryd.func9, Tryd.ntmps9
      go_wp2_with (go_at_call 4; refine (pick_any d (n - 1) (by omega) (by omega) (by omega) _).mono ?_; rw [HPK.out]; rintro e w1 ⟨rfl, rfl⟩)
      go_ret
      exact ⟨ret_int E.out.symm, rfl⟩
    · rw [if_neg hlt] at ev
      have E := Lib.hid ev
      clear ev
      go_enter Tryd.func9, Tryd.ntmps9
      go_wp2_with (go_at_call 4; refine (pick_any d (n - 1) (by omega) (by omega) (by omega) _).mono ?_; rw [HPK.out]; rintro e w1 ⟨rfl, rfl⟩)
      go_ret
      exact ⟨ret_int E.out.symm, rfl⟩


set_option maxHeartbeats 1600000 in
theorem order_any (d : Nat) (hd : d < 18446744073709551616) (n : Int) (hn1 : -9223372036854775808 ≤ n) (hn2 : n ≤ 9223372036854775807) (c : Nat) (hc : c = (min (max n 0) 64).toNat) (w : World) :
    Calls Tryd.prog 15 #[.int .u64 d, .int .i64 n] w fun e w' => ∃ v, e = .returned v ∧ Own w' w.heap.size 3 v (nats (orderN c d (List.range c))) ∧ Chg [] w w' := by
  have hc64 : c ≤ 64 := by omega
  have m1 : (c : Int) = if (64 : Int) < max n 0 then 64 else max n 0 := by split <;> omega
  have m0 : max n 0 = if n < 0 then 0 else n := by split <;> omega
  have M1 := Lib.hid m1
  have M0 := Lib.hid m0
  clear m1 m0 hc
  go_enter Tryd.func15, Tryd.ntmps15
  go_wp2_with (first
    | (refine wpList_max rfl (.tmp 10) _ _ _ rfl .i64 n 0 (max n 0) rfl rfl M0.out ?_)
    | (refine wpList_min rfl (.tmp 11) _ _ _ rfl .i64 (max n 0) 64 c rfl rfl M1.out ?_)
    | (refine wpList_make1 rfl (.tmp 12) (.tmp 12) 29 rfl 3 (.int .i64 0) 8 Tryd.underlying29 infoInt rfl .i64 .i64 c rfl rfl (by omega) (by omega) ?_; intro w1 H1 H2 H3))
  go_loopw [6, 16] (fun _ i wr => ∃ k : Nat, k ≤ c ∧ i = .int .i64 k ∧ (∃ cells : Array Value, Blk wr w.heap.size cells 3 ∧ cells.size = c ∧ ∀ j, j < k → cells[j]? = some (.int .i64 (j : Nat))) ∧ Chg [] w wr)
    (fun _ i _ => c - (intOf i).toNat)
  case atStart => exact ⟨0, by omega, rfl, ⟨_, H1, by simp, fun j hj => by omega⟩, H2⟩
  case round =>
    obtain ⟨k, hk, rfl, ⟨cells, HB, hs, hcell⟩, H⟩ := hrel
    have HC := Lib.hid hcell
    have HS := Lib.hid hs
    by_cases hkc : k < c
    · obtain ⟨x0, hx⟩ : ∃ x0, wr.cell? ⟨w.heap.size, k, none⟩ = some x0 := ⟨_, by rw [HB.cell, Array.getElem?_eq_getElem (by omega)]⟩
      have hz := HB.frozen k
      clear hcell hs
      go_wp2
      go_roundw
      case rel =>
        refine ⟨k + 1, by omega, by go_num, ⟨_, HB.setCell k _, by simp [HS.out], fun j hj => ?_⟩, H.setCell (.inr (by simp)) _⟩
        rw [Array.getElem?_setIfInBounds]
        by_cases hjk : k = j
        · subst hjk; rw [if_pos rfl, if_pos (by rw [HS.out]; omega)]
        · rw [if_neg hjk]; exact HC.out j (by omega)
      case measure => simp [intOf] <;> omega
    · obtain rfl : k = c := by omega
      clear hcell hs
      go_wp2
      have HI := Lib.hid (show ∃ cells : Array Value, Blk wr w.heap.size cells 3 ∧ cells.size = k ∧ ∀ j, j < k → cells[j]? = some (.int .i64 ((List.range k)[j]?.getD 0 : Nat)) from
        ⟨cells, HB, HS.out, fun j hj => by rw [HC.out j hj]; simp [hj]⟩)
      have hsz : w.heap.size + 1 ≤ wr.heap.size := HB.lt
      clear HB HC HS H1 H2 H3 hkc
      go_loopw [0, 5, 7] (fun x l v wq => ∃ (m d' : Nat) (L : List Nat) (A : List Nat), m ≤ k ∧ d' < 18446744073709551616 ∧ L.length = m ∧ x = .int .u64 d' ∧ l = .slice (some ⟨w.heap.size, 0, none⟩) m k ∧
          (∃ cells : Array Value, Blk wq w.heap.size cells 3 ∧ cells.size = k ∧ ∀ j, j < m → cells[j]? = some (.int .i64 (L[j]?.getD 0 : Nat))) ∧
          Own wq (w.heap.size + 1) 3 v (nats A) ∧ A.length + m = k ∧ A ++ orderN m d' L = orderN k d (List.range k) ∧ Chg [] w wq ∧ w.heap.size + 1 ≤ wq.heap.size)
        (fun _ l _ _ => match l with | .slice _ n _ => n | _ => 0)
      case atStart => exact ⟨k, d, List.range k, [], by omega, hd, by simp, rfl, rfl, HI.out, Own.nil _ _ _, by simp, rfl, H, hsz⟩
      case round =>
        obtain ⟨m, d', L, A, hmk, hd', hL, rfl, rfl, ⟨cells, HB, hs, hcell⟩, hown, hA, hAo, H', hsz'⟩ := hrel
        have HS := Lib.hid hs
        have HC := Lib.hid hcell
        have HL := Lib.hid hL
        have HA := Lib.hid hA
        have HO := Lib.hid hAo
        have hAk : A.length ≤ k := by omega
        by_cases hm : 0 < m
        · obtain ⟨m, rfl⟩ : ∃ m', m = m' + 1 := ⟨m - 1, by omega⟩
          obtain ⟨q, hq⟩ : ∃ q, q = d' % (m + 1) := ⟨_, rfl⟩
          have hqm : q < m + 1 := by rw [hq]; exact Nat.mod_lt _ (by omega)
          have hp : pickI (d' : Int) ((m : Int) + 1) = (q : Int) := by unfold pickI; rw [if_neg (by omega), hq]; simp
          have HP := Lib.hid hp
          have HQ := Lib.hid hq
          have hload : wr.cell? ⟨w.heap.size, q, none⟩ = some (.int .i64 (L[q]?.getD 0 : Nat)) := by rw [HB.cell, hcell q hqm]
          obtain ⟨y, hy⟩ : ∃ y, y = L[q]?.getD 0 := ⟨_, rfl⟩
          rw [← hy] at hload
          have HY := Lib.hid hy
          clear hs hcell hL hA hAo hp hq hy
          go_wp2_with (first
            | (go_at_call 4; refine (pick_any _ _ (by omega) (by omega) (by omega) _).mono ?_; rw [HP.out]; rintro e w2 ⟨rfl, rfl⟩)
            | (refine wpList_app1 rfl (.tmp 32) (.tmp 37) 29 rfl (w.heap.size + 1) 3 (.int .i64 0) 8 Tryd.underlying29 infoInt rfl _ _ rfl (hown.alloc _) wr.heap.size 1 (.int .i64 y) rfl (by go_simp) rfl (by rw [nats_len]; unfold maxLen; omega) (by rw [nats_len]; omega) (by simp; omega) ?_; intro v' w4 H8 H9; change Chg u7.ownBlock.toList (wr.alloc (.cells #[.int .i64 y] 3)) w4 at H9))
          have hblk := hown.block
          have HB4 := (HB.alloc (.cells #[.int .i64 y] 3)).chg H9 (fun hm => by have := hblk _ hm; omega)
          have hc4 : Chg [] w w4 := (H'.alloc _).then H9 (fun g hg => .inr (by have := hblk _ hg; omega))
          have hsz4 : w.heap.size + 1 ≤ w4.heap.size := HB4.lt
          have hq0 : (0 : Int) ≤ (q : Int) := by omega
          have hq1 : (q : Int) ≤ (m : Int) + 1 := by omega
          have hw1 : IntKind.i64.wrap ((q : Int) + 1) = (q : Int) + 1 := IntWalk.i64_in _ (by omega)
          have hw2 : ((q : Int) + 1).toNat = q + 1 := by omega
          have hw3 : (q : Int) + 1 ≤ (m : Int) + 1 := by omega
          have hw4 : (0 : Int) ≤ (q : Int) + 1 := by omega
          have hcs : (((nats L).drop (q + 1))).length = m - q := by rw [List.length_drop, nats_len, HL.out]; omega
          have hget : ∀ j, j < m - q → ((nats L).drop (q + 1))[j]? = some (.int .i64 (L[q + 1 + j]?.getD 0 : Nat)) := by
            intro j hj
            rw [List.getElem?_drop, nats_get L (by rw [HL.out]; omega), List.getElem?_eq_getElem (by rw [HL.out]; omega)]
            rfl
          have hone : ∀ v ∈ (nats L).drop (q + 1), v.oneCell' = true := by
            intro v hv
            have hv := List.mem_of_mem_drop hv
            simp only [nats, List.mem_map] at hv
            obtain ⟨_, _, rfl⟩ := hv
            rfl
          have HCS := Lib.hid hcs
          have HGT := Lib.hid hget
          have HON := Lib.hid hone
          clear hcs hget hone
          have hkq : ¬ k = q := by omega
          have hww : (q : Int) ≤ (m : Int) + 1 := by omega
          have hm1 : IntKind.i64.wrap ((m : Int) + 1 - 1) = (m : Int) := by rw [IntWalk.i64_in _ (by omega)]; omega
          obtain ⟨z, hz⟩ : ∃ z, z = d' / (m + 1) := ⟨_, rfl⟩
          have hzlt : z < 18446744073709551616 := by rw [hz]; exact Nat.lt_of_le_of_lt (Nat.div_le_self _ _) hd'
          have hzi : (d' : Int) / ((m : Int) + 1) = (z : Int) := by rw [hz]; simp
          have HZ := Lib.hid hz
          have HZI := Lib.hid hzi
          have hzw : IntKind.u64.wrap ((d' : Int) / ((m : Int) + 1)) = (z : Int) := by rw [hzi, IntKind.wrap_u64]; omega
          clear hz hzi
          have HNX := Lib.hid (show orderN (m + 1) d' L = y :: orderN m z (L.eraseIdx q) by
            rw [orderN, HY.out, HZ.out, HQ.out, List.getD_eq_getElem?_getD])
          have HLE := Lib.hid (show (L.eraseIdx q).length = m by rw [List.length_eraseIdx_of_lt (by rw [HL.out]; exact hqm), HL.out]; omega)
          have HG := Lib.hid (show ∀ j, j < m → (L.eraseIdx q)[j]?.getD 0 = if j < q then L[j]?.getD 0 else L[j + 1]?.getD 0 by
            intro j hj; rw [List.getElem?_eraseIdx]; split <;> rfl)
          have hm5 : IntKind.i64.wrap (m : Int) = (m : Int) := IntWalk.i64_in _ (by omega)
          have hm2 : (m : Int) ≤ (k : Int) := by omega
          have hm4 : (0 : Int) ≤ (m : Int) := by omega
          by_cases hqk : k = q + 1
          · have hkk : (k = q + 1) = True := by simp [hqk]
            have HQK := Lib.hid hqk
            clear hqk
            go_still_tail 7, (by kernel_rfl)
            refine wpList_copy1 rfl (.tmp 41) (.tmp 45) 29 29 rfl 3 Tryd.underlying29 (by kernel_rfl) w.heap.size q _ _ _ _ _ rfl rfl cells 3 HB4.drew ((nats L).drop (q + 1)) ?_ ?_ ?_ HON.out ?_
            · rw [HCS.out]; exact (Nat.min_eq_left (by omega)).symm
            · exact .inl (List.eq_nil_of_length_eq_zero (by rw [HCS.out]; have := HQK.out; omega))
            · rw [HCS.out, HS.out]; omega
            · intro w5 cells' H5 H5s H5g H5c0
              have H5c := Chg.undrew (w := w4) H5c0
              clear H5c0
              go_wp2_with fail
              refine wp_region_quiet_lit (by kernel_rfl) (by kernel_rfl) ?_
              repeat (any_goals (first | go_big_quiet_step (fail) | quiet_step (fail)))
              refine wpQuiet_nil ?_
              rintro _ ⟨nq, rfl⟩
              go_wp2
              go_roundw
              case rel =>
                have hne4 := H8.block
                have hown5 : Own (w5.drewN nq) (w.heap.size + 1) 3 v' (nats (A ++ [y])) := by
                  rw [nats_snoc]
                  refine H8.chg (H5c.drewN nq) (fun g hg he => ?_)
                  have := hne4 g (by rw [he]; simp)
                  simp at hg
                  omega
                refine ⟨m, z, L.eraseIdx q, A ++ [y], by omega, hzlt, HLE.out, rfl, rfl, ⟨cells', H5, by rw [H5s, HS.out], fun j hj => ?_⟩,
                  hown5, by rw [List.length_append, List.length_singleton]; have := HA.out; omega, by rw [List.append_assoc, List.singleton_append, ← HNX.out]; exact HO.out, ?_, ?_⟩
                · rw [H5g j, HG.out j hj, HCS.out]
                  by_cases hjq : j < q
                  · rw [if_neg (by omega), if_pos hjq, HC.out j (by omega)]
                  · rw [if_pos (by omega), if_neg hjq, HGT.out _ (by omega), show q + 1 + (j - q) = j + 1 from by omega]
                · exact hc4.then (H5c.drewN nq) (fun g hg => .inr (by simp at hg; omega))
                · exact Nat.le_trans hsz4 H5c.size
              case measure => simp
          · go_still_tail 7, (by kernel_rfl)
            refine wpList_copy1 rfl (.tmp 41) (.tmp 45) 29 29 rfl 3 Tryd.underlying29 (by kernel_rfl) w.heap.size q _ _ _ _ _ rfl rfl cells 3 HB4.drew ((nats L).drop (q + 1)) ?_ ?_ ?_ HON.out ?_
            · rw [HCS.out]; exact (Nat.min_eq_left (by omega)).symm
            · refine .inr ⟨w.heap.size, q + 1, rfl, ?_⟩
              intro j v hj
              have hjm : j < m - q := by have := (List.getElem?_eq_some_iff.1 hj).1; rw [HCS.out] at this; exact this
              rw [HGT.out j hjm] at hj
              refine Eq.trans (HB4.cell _) ?_
              rw [HC.out _ (by omega)]
              exact hj
            · rw [HCS.out, HS.out]; omega
            · intro w5 cells' H5 H5s H5g H5c0
              have H5c := Chg.undrew (w := w4) H5c0
              clear H5c0
              go_wp2_with fail
              refine wp_region_quiet_lit (by kernel_rfl) (by kernel_rfl) ?_
              repeat (any_goals (first | go_big_quiet_step (fail) | quiet_step (fail)))
              refine wpQuiet_nil ?_
              rintro _ ⟨nq, rfl⟩
              go_wp2
              go_roundw
              case rel =>
                have hne4 := H8.block
                have hown5 : Own (w5.drewN nq) (w.heap.size + 1) 3 v' (nats (A ++ [y])) := by
                  rw [nats_snoc]
                  refine H8.chg (H5c.drewN nq) (fun g hg he => ?_)
                  have := hne4 g (by rw [he]; simp)
                  simp at hg
                  omega
                refine ⟨m, z, L.eraseIdx q, A ++ [y], by omega, hzlt, HLE.out, rfl, rfl, ⟨cells', H5, by rw [H5s, HS.out], fun j hj => ?_⟩,
                  hown5, by rw [List.length_append, List.length_singleton]; have := HA.out; omega, by rw [List.append_assoc, List.singleton_append, ← HNX.out]; exact HO.out, ?_, ?_⟩
                · rw [H5g j, HG.out j hj, HCS.out]
                  by_cases hjq : j < q
                  · rw [if_neg (by omega), if_pos hjq, HC.out j (by omega)]
                  · rw [if_pos (by omega), if_neg hjq, HGT.out _ (by omega), show q + 1 + (j - q) = j + 1 from by omega]
                · exact hc4.then (H5c.drewN nq) (fun g hg => .inr (by simp at hg; omega))
                · exact Nat.le_trans hsz4 H5c.size
              case measure => simp
        · obtain rfl : m = 0 := by omega
          go_wp2
          go_ret
          have e1 : A = orderN k d (List.range k) := by rw [← HO.out]; simp [orderN]
          exact ⟨_, rfl, by rw [← e1]; exact hown.mono (by omega), H'⟩
end Go.Proofs.YtfmigdlkbnjnfaaDoor
