/- seat: the reference's May, Target. -/
import Derived.Test.YtalnokbfffhhnaaDoorSeat4
namespace Go.Proofs.YtalnokbfffhhnaaDoor
open Go.RowKit Bosun
theorem rlist_any' (m : Nat) (hm : m < 18446744073709551616) (n : Int) (w : World) :
    Calls Tryd.prog 11 #[.int .u64 (m : Nat), .int .i64 n] w fun e w' => ∃ ao cp, e = .returned (.slice ao (lst m n).length cp) ∧ Reads w' (.slice ao (lst m n).length cp) (nats (lst m n)) ∧ Chg [] w w' := by
  refine (rlist_any m hm n w).mono ?_
  rintro e w' ⟨v, rfl, ho, H⟩
  have hr := ho.reads
  obtain ⟨ao, cp, rfl, _, _⟩ := id hr
  rw [nats_len] at hr ⊢
  exact ⟨ao, cp, rfl, hr, H⟩
theorem reads_cell {w : World} {ao : Option Addr} {k cp : Nat} {L : List Nat} (h : Reads w (.slice ao k cp) (nats L)) {j : Nat} (hj : j < L.length) :
    ∃ g off, ao = some ⟨g, off, none⟩ ∧ w.cell? ⟨g, off + j, none⟩ = some (.int .i64 ((L[j] : Nat) : Int)) := by
  obtain ⟨ao', cp', e, _, hc⟩ := h
  cases e
  exact hc j _ (nats_get L hj)
set_option maxHeartbeats 1000000 in
theorem rmay_any (m : Nat) (hm : m < 18446744073709551616) (n c : Int) (w : World) :
    Calls Tryd.prog 10 #[.int .u64 (m : Nat), .int .i64 n, .int .i64 c] w fun e w' => e = .returned (.bool (decide (∃ i ∈ lst m n, ((i : Nat) : Int) = c))) ∧ Chg [] w w' := by
  have HA := Lib.hid (rlist_any' m hm n)
  have hle := lst_le m n
  obtain ⟨L, hL⟩ : ∃ L, L = lst m n := ⟨_, rfl⟩
  rw [← hL] at HA hle ⊢
  clear hL
  go_enter Tryd.func10, Tryd.ntmps10
  go_wp2_with (go_at_call 11; refine (HA.out _).mono ?_; rintro e w1 ⟨ao, cp, rfl, hr, H1⟩)
  have HR := Lib.hid hr
  clear hr
  go_loopw [8] (fun i wr => ∃ k : Nat, k ≤ L.length ∧ i = .int .i64 k ∧ Hid (∀ j (h : j < L.length), j < k → ((L[j] : Nat) : Int) ≠ c) ∧ w1 = wr)
    (fun i _ => 64 - (intOf i).toNat)
  case atStart => exact ⟨0, by omega, rfl, Lib.hid (fun j _ h => absurd h (by omega)), rfl⟩
  case round =>
    obtain ⟨k, hk, rfl, hno, rfl⟩ := hrel
    by_cases hkL : k < L.length
    · obtain ⟨g, off, rfl, hc⟩ := reads_cell HR.out hkL
      have HK := Lib.hid (fun y (h : y = L[k]) => h)
      obtain ⟨y, hy⟩ : ∃ y, y = L[k] := ⟨_, rfl⟩
      rw [← hy] at hc
      have HY := Lib.hid hy
      clear hy HK
      have b1 : (k : Int) < (L.length : Int) := by omega
      by_cases hq : ((y : Nat) : Int) = c
      · have hR := Lib.hid (show decide (∃ i ∈ L, ((i : Nat) : Int) = c) = true from decide_eq_true ⟨y, by rw [HY.out]; exact List.getElem_mem hkL, hq⟩)
        subst hq
        go_wp2_with fail
        go_ret
        exact ⟨by rw [hR.out]; rfl, H1⟩
      · go_wp2_with fail
        go_roundw
        case rel => exact ⟨k + 1, by omega, by go_num, Lib.hid (fun j h hj => by
            by_cases e : j < k
            · exact hno.out j h e
            · obtain rfl : j = k := by omega
              rw [← HY.out]; exact hq), by trivial⟩
        case measure => simp [intOf] <;> omega
    · obtain rfl : k = L.length := by omega
      have hR := Lib.hid (show decide (∃ i ∈ L, ((i : Nat) : Int) = c) = false from decide_eq_false (fun ⟨i, hi, he⟩ => by
        obtain ⟨j, hj, rfl⟩ := List.mem_iff_getElem.1 hi
        exact hno.out j hj hj he))
      go_wp2_with fail
      go_ret
      exact ⟨by rw [hR.out]; rfl, H1⟩
end Go.Proofs.YtalnokbfffhhnaaDoor
