/- The reference's lot: Pick, Member, Order; and what the law of the orders calls. -/
import Derived.Test.YtfmigdlkbnjnfaaDoorLot2
namespace Go.Proofs.YtfmigdlkbnjnfaaDoor
open Go.RowKit Bosun

set_option maxHeartbeats 400000 in
theorem rpick_any (d n : Int) (hd0 : 0 ≤ d) (hd : d ≤ 18446744073709551615) (hn2 : n ≤ 9223372036854775807) (w : World) :
    Calls Tryd.prog 5 #[.int .u64 d, .int .i64 n] w fun e w' => e = .returned (.int .i64 (pickI d n)) ∧ w = w' := by
  by_cases hn : 1 ≤ n
  · have e : pickI d n = d % n := by unfold pickI; rw [if_neg (by omega)]
    rw [e]
    have h1 := Int.emod_nonneg d (show n ≠ 0 by omega)
    have h2 := Int.emod_lt_of_pos d (show 0 < n by omega)
    have e2 := IntWalk.wrap64_in (d % n) ⟨by omega, by omega⟩
    clear e
    go_enter Tryd.func5, Tryd.ntmps5
    go_wp2
    go_ret
    exact ⟨rfl, rfl⟩
  · have e : pickI d n = 0 := by unfold pickI; rw [if_pos (by omega)]
    rw [e]
    clear e
    go_enter Tryd.func5, Tryd.ntmps5
    go_wp2
    go_ret
    exact ⟨rfl, rfl⟩

/-- A member that a number draws. -/
def memberI (d : Nat) (s : Nat) : Int := if (members s).length = 0 then -1 else ((members s).getD (d % (members s).length) 0 : Nat)

set_option maxHeartbeats 400000 in
theorem rmember_any (d : Nat) (hd : d < 18446744073709551616) (s : Nat) (hs : s < 18446744073709551616) (w : World) :
    Calls Tryd.prog 7 #[.int .u64 d, .int .u64 s] w fun e w' => e = .returned (.int .i64 (memberI d s)) ∧ Chg [] w w' := by
  have hl64 := membersTo_len s 64
  go_enter Tryd.func7, Tryd.ntmps7
  go_wp2_with fail
  refine (list_any s hs _).mono ?_
  rintro e w1 ⟨v, rfl, H1, H2⟩
  obtain ⟨ao, cap, rfl, hm, hc⟩ := H1.reads
  rw [nats_len] at hm ⊢
  obtain ⟨m, hml⟩ : ∃ m, m = (members s).length := ⟨_, rfl⟩
  have hm64 : m ≤ 64 := by rw [hml]; exact hl64
  rw [← hml]
  by_cases h0 : m = 0
  · have e1 : memberI d s = -1 := by unfold memberI; rw [if_pos (by omega)]
    have E1 := Lib.hid e1
    subst h0
    clear e1 hml hc hm hl64
    go_wp2
    go_ret
    exact ⟨ret_int E1.out.symm, H2⟩
  · obtain ⟨q, hq⟩ : ∃ q, q = d % m := ⟨_, rfl⟩
    have hqm : q < m := by rw [hq]; exact Nat.mod_lt _ (by omega)
    have hp : pickI (d : Int) (m : Int) = (q : Int) := by unfold pickI; rw [if_neg (by omega), hq]; simp
    have HP := Lib.hid hp
    have hqm' : q < (members s).length := by omega
    obtain ⟨g, off, rfl, hcell⟩ := hc q _ (nats_get (members s) hqm')
    obtain ⟨y, hy⟩ : ∃ y, y = (members s)[q] := ⟨_, rfl⟩
    rw [← hy] at hcell
    have e1 : memberI d s = y := by
      unfold memberI
      rw [if_neg (by omega), ← hml, ← hq, List.getD_eq_getElem?_getD, List.getElem?_eq_getElem hqm', hy]
      rfl
    have E1 := Lib.hid e1
    have hne : ((m : Int) == 0) = false := by simp; omega
    clear e1 hy hml hq hp hc hm hl64 H1
    go_wp2_with (go_at_call 5; refine (rpick_any _ _ (by omega) (by omega) (by omega) _).mono ?_; rw [HP.out]; rintro e w2 ⟨rfl, rfl⟩)
    go_ret
    exact ⟨ret_int E1.out.symm, H2⟩

end Go.Proofs.YtfmigdlkbnjnfaaDoor
