/- The reference's lot: Pick, Member, Order; and what the law of the orders calls. -/
import Derived.Test.YtdnholkhdjnamaaLot2
namespace Go.Proofs.Ytdnholkhdjnamaa
open Go.RowKit Bosun

set_option maxHeartbeats 400000 in
theorem rpick_any (d n : Int) (hd0 : 0 ≤ d) (hd : d ≤ 18446744073709551615) (hn2 : n ≤ 9223372036854775807) (w : World) :
    Calls Try.prog 26 #[.int .u64 d, .int .i64 n] w fun e w' => e = .returned (.int .i64 (pickI d n)) ∧ w = w' := by
  by_cases hn : 1 ≤ n
  · have e : pickI d n = d % n := by unfold pickI; rw [if_neg (by omega)]
    rw [e]
    have h1 := Int.emod_nonneg d (show n ≠ 0 by omega)
    have h2 := Int.emod_lt_of_pos d (show 0 < n by omega)
    have e2 := IntWalk.wrap64_in (d % n) ⟨by omega, by omega⟩
    clear e
    go_enter Try.func26, Try.ntmps26
    go_wp2
    go_ret
    exact ⟨rfl, rfl⟩
  · have e : pickI d n = 0 := by unfold pickI; rw [if_pos (by omega)]
    rw [e]
    clear e
    go_enter Try.func26, Try.ntmps26
    go_wp2
    go_ret
    exact ⟨rfl, rfl⟩

/-- A member that a number draws. -/
def memberI (d : Nat) (s : Nat) : Int := if (members s).length = 0 then -1 else ((members s).getD (d % (members s).length) 0 : Nat)

set_option maxHeartbeats 400000 in
theorem rmember_any (d : Nat) (hd : d < 18446744073709551616) (s : Nat) (hs : s < 18446744073709551616) (w : World) :
    Calls Try.prog 23 #[.int .u64 d, .int .u64 s] w fun e w' => e = .returned (.int .i64 (memberI d s)) ∧ Chg [] w w' := by
  have hl64 := membersTo_len s 64
  go_enter Try.func23, Try.ntmps23
  go_wp2_with fail
  refine (list_any s hs _).mono ?_
  rintro e w1 ⟨v, rfl, H1, H2⟩
  obtain ⟨ao, cap, rfl, hm, hc⟩ := H1.reads
  rw [nats_len] at hm ⊢
  obtain ⟨m, hml⟩ : ∃ m, m = (members s).length := ⟨_, rfl⟩
  have hm64 : m ≤ 64 := by rw [hml]; exact hl64
  rw [← hml]
  by_cases h0 : m = 0
  · have e1 : memberI d s = -1 := by unfold memberI; rw [if_pos (by omega)]
    have E1 := Lib.hid e1
    subst h0
    clear e1 hml hc hm hl64
    go_wp2
    go_ret
    exact ⟨ret_int E1.out.symm, H2⟩
  · obtain ⟨q, hq⟩ : ∃ q, q = d % m := ⟨_, rfl⟩
    have hqm : q < m := by rw [hq]; exact Nat.mod_lt _ (by omega)
    have hp : pickI (d : Int) (m : Int) = (q : Int) := by unfold pickI; rw [if_neg (by omega), hq]; simp
    have HP := Lib.hid hp
    have hqm' : q < (members s).length := by omega
    obtain ⟨g, off, rfl, hcell⟩ := hc q _ (nats_get (members s) hqm')
    obtain ⟨y, hy⟩ : ∃ y, y = (members s)[q] := ⟨_, rfl⟩
    rw [← hy] at hcell
    have e1 : memberI d s = y := by
      unfold memberI
      rw [if_neg (by omega), ← hml, ← hq, List.getD_eq_getElem?_getD, List.getElem?_eq_getElem hqm', hy]
      rfl
    have E1 := Lib.hid e1
    have hne : ((m : Int) == 0) = false := by simp; omega
    clear e1 hy hml hq hp hc hm hl64 H1
    go_wp2_with (go_at_call 26; refine (rpick_any _ _ (by omega) (by omega) (by omega) _).mono ?_; rw [HP.out]; rintro e w2 ⟨rfl, rfl⟩)
    go_ret
    exact ⟨ret_int E1.out.symm, H2⟩

set_option maxHeartbeats 1600000 in
theorem rorder_any (d : Nat) (hd : d < 18446744073709551616) (n : Int) (hn1 : -9223372036854775808 ≤ n) (hn2 : n ≤ 9223372036854775807) (c : Nat) (hc : c = (min (max n 0) 64).toNat) (w : World) :
    Calls Try.prog 13 #[.int .u64 d, .int .i64 n] w fun e w' => ∃ v, e = .returned v ∧ Own w' w.heap.size 3 v (nats (orderN c d (List.range c))) ∧ Chg [] w w' := by
  have hc64 : c ≤ 64 := by omega
  have m1 : (c : Int) = if (64 : Int) < max n 0 then 64 else max n 0 := by split <;> omega
  have m0 : max n 0 = if n < 0 then 0 else n := by split <;> omega
  have M1 := Lib.hid m1
  have M0 := Lib.hid m0
  clear m1 m0 hc
  go_enter Try.func13, Try.ntmps13
  go_wp2_with (first
    | (refine wpList_max rfl (.tmp 9) _ _ _ rfl .i64 n 0 (max n 0) rfl rfl M0.out ?_)
    | (refine wpList_min rfl (.tmp 10) _ _ _ rfl .i64 (max n 0) 64 c rfl rfl M1.out ?_)
    | (go_at_call 9; refine (all_any _ (by omega) (by omega) _).mono ?_; rintro e w1 ⟨rfl, H1⟩))
  go_loopw [0, 5, 6] (fun x y v wr => ∃ (m d' s : Nat) (A : List Nat), m ≤ c ∧ d' < 18446744073709551616 ∧ s < 18446744073709551616 ∧ (members s).length = m ∧ x = .int .u64 d' ∧ y = .int .u64 s ∧
      Own wr w.heap.size 3 v (nats A) ∧ A.length + m = c ∧ A ++ orderN m d' (members s) = orderN c d (List.range c) ∧ Chg [] w wr)
    (fun _ y _ _ => match y with | .int _ s => (members s.toNat).length | _ => 0)
  case atStart =>
    exact ⟨c, d, allBelow c, [], Nat.le_refl _, hd, allBelow_lt _, by rw [members_all c hc64]; simp, rfl, rfl, Own.nil _ _ _, by simp, by rw [members_all c hc64]; rfl, H1⟩
  case round =>
    obtain ⟨m, d', s, A, hmc, hd', hs, hm, rfl, rfl, hown, hA, hAo, H⟩ := hrel
    have HM := Lib.hid hm
    have HA := Lib.hid hA
    have HO := Lib.hid hAo
    have hAc : A.length ≤ c := by omega
    by_cases h0 : m = 0
    · have hs0 := (members_nil hs).1 (by omega)
      have e1 : A = orderN c d (List.range c) := by rw [← hAo, h0]; simp [orderN]
      have E1 := Lib.hid e1
      subst hs0
      clear e1 hm hA hAo h0
      go_wp2
      go_ret
      exact ⟨_, rfl, by rw [← E1.out]; exact hown, H⟩
    · have hs0 : s ≠ 0 := fun e => h0 (by rw [← hm]; exact (members_nil hs).2 e)
      have hsne : ((s : Int) != 0) = true := by simp; omega
      obtain ⟨m, rfl⟩ : ∃ m', m = m' + 1 := ⟨m - 1, by omega⟩
      have hqm : d' % (m + 1) < (members s).length := by rw [hm]; exact Nat.mod_lt _ (by omega)
      have hmem : memberI d' s = ((members s).getD (d' % (m + 1)) 0 : Nat) := by unfold memberI; rw [if_neg (by omega), hm]
      have hera := members_erase s (d' % (m + 1)) hqm
      have hy64 := members_lt s _ (getD_mem hqm)
      have hnx : orderN (m + 1) d' (members s) = (members s).getD (d' % (m + 1)) 0 :: orderN m (d' / (m + 1)) ((members s).eraseIdx (d' % (m + 1))) := rfl
      rw [← hera] at hnx
      obtain ⟨y, hy⟩ : ∃ y, y = (members s).getD (d' % (m + 1)) 0 := ⟨_, rfl⟩
      rw [← hy] at hmem hnx hera hy64
      obtain ⟨z, hz⟩ : ∃ z, z = d' / (m + 1) := ⟨_, rfl⟩
      have hzlt : z < 18446744073709551616 := by rw [hz]; exact Nat.lt_of_le_of_lt (Nat.div_le_self _ _) hd'
      have hzi : (d' : Int) / ((m : Int) + 1) = (z : Int) := by rw [hz]; simp
      rw [← hz] at hnx
      have hlen2 : (members (put s (y : Nat) false)).length = m := by rw [hera, List.length_eraseIdx_of_lt hqm, hm]; rfl
      have HMEM := Lib.hid hmem
      have HNX := Lib.hid hnx
      have HL2 := Lib.hid hlen2
      have HZI := Lib.hid hzi
      have hmint : ((m + 1 : Nat) : Int) = (m : Int) + 1 := by omega
      have HMI := Lib.hid hmint
      clear hmem hnx hlen2 hzi hz hy hera hqm hm hA hAo h0 hs0 hmint
      have tok : True := trivial
      go_wp2_with (first
        | (go_at_call 22; refine (list_any s hs _).mono ?_; rintro e w2 ⟨v2, rfl, G1, G2⟩; obtain ⟨ao, cap, rfl, _, _⟩ := G1.reads; rw [nats_len, HM.out])
        | (go_at_call 23; refine (rmember_any d' hd' s hs _).mono ?_; rw [HMEM.out]; rintro e w3 ⟨rfl, G3⟩)
        | (go_at_call 8; refine (put_any s hs _ _ _).mono ?_; rintro e w5 ⟨rfl, G5⟩)
        | (refine wpList_app1 rfl (.tmp 22) (.tmp 24) 29 rfl w.heap.size 3 (.int .i64 0) 8 Try.underlying29 infoInt rfl _ _ rfl (((hown.keep G2).keep G3).alloc _) w3.heap.size 1 (.int .i64 y) rfl (by go_simp) rfl (by rw [nats_len]; unfold maxLen; omega) (by rw [nats_len]; omega) (Nat.le_trans H.size (Nat.le_trans G2.size (Nat.le_trans G3.size (by simp)))) ?_; intro v' w4 H8 H9; change Chg u6.ownBlock.toList (w3.alloc (.cells #[.int .i64 y] 3)) w4 at H9))
      rw [HZI.out]
      go_roundw
      case rel =>
        have hblk := ((hown.keep G2).keep G3).block
        refine ⟨m, z, put s (y : Nat) false, A ++ [y], by omega, hzlt, put_lt _ _ _, HL2.out, by rw [IntKind.wrap_u64, Int.emod_eq_of_lt (by omega) (by omega)], rfl, by rw [nats_snoc]; exact H8.keep G5, ?_, by rw [List.append_assoc, List.singleton_append, ← HNX.out]; exact HO.out, ?_⟩
        · rw [List.length_append, List.length_singleton]; have := HA.out; omega
        · refine ((((H.then G2 (by simp)).then G3 (by simp)).alloc _).then H9 (fun g hg => .inr ?_)).then G5 (by simp)
          exact (hblk g hg).1
      case measure => simp [HL2.out, HM.out]

set_option maxHeartbeats 400000 in
theorem all20_any (k : Nat) (hk : k ≤ 20) (w : World) :
    Calls Try.prog 15 #[.int .i64 k] w fun e w' => e = .returned (.int .u64 (factorial k : Nat)) ∧ w = w' := by
  go_enter Try.func15, Try.ntmps15
  go_wp2
  go_loop [3, 4] (fun p i => ∃ m : Nat, 1 ≤ m ∧ (m ≤ k ∨ m = 1) ∧ i = .int .i64 (m + 1 : Nat) ∧ p = .int .u64 (factorial m : Nat))
    (fun _ i => 30 - (intOf i).toNat)
  case atStart => exact ⟨1, by omega, .inr rfl, rfl, rfl⟩
  case round =>
    obtain ⟨m, hm1, hmk, rfl, rfl⟩ := hrel
    have hf := factorial_lt (k := m) (by omega)
    have hf1 := factorial_pos m
    by_cases hlt : m + 1 ≤ k
    · have hg := factorial_lt (k := m + 1) (by omega)
      have hfs : factorial (m + 1) = (m + 1) * factorial m := rfl
      obtain ⟨x, hx⟩ : ∃ x, x = factorial m := ⟨_, rfl⟩
      obtain ⟨y, hy⟩ : ∃ y, y = factorial (m + 1) := ⟨_, rfl⟩
      rw [← hx] at hf hf1 hfs ⊢
      rw [← hy] at hg hfs
      have hmul : (x : Int) * ((m : Int) + 1) = (y : Int) := by rw [hfs, Int.natCast_mul, Int.mul_comm]; rfl
      have HMUL := Lib.hid hmul
      have HY := Lib.hid hy
      clear hx hy hfs hmul
      go_wp2
      go_round
      case rel => exact ⟨m + 1, by omega, .inl hlt, by go_num, by rw [← HY.out, IntKind.wrap_u64, HMUL.out, Int.emod_eq_of_lt (by omega) (by omega)]⟩
      case measure => simp [intOf] <;> omega
    · have e1 : factorial m = factorial k := by
        rcases Nat.lt_or_ge m k with h | h
        · omega
        · by_cases h2 : m = k
          · rw [h2]
          · have : m = 1 := by omega
            have : k = 0 := by omega
            subst m k; rfl
      have E1 := Lib.hid e1
      clear e1
      go_wp2
      go_ret
      exact ⟨ret_int (by rw [E1.out]), rfl⟩
end Go.Proofs.Ytdnholkhdjnamaa
