/- seat: the reference's Spread. -/
import Derived.Test.YtalnokbfffhhnaaDoorSeatS0
namespace Go.Proofs.YtalnokbfffhhnaaDoor
open Go.RowKit Bosun
set_option maxHeartbeats 1000000 in
theorem rspread_any (m : Nat) (hm : m < 18446744073709551616) (n : Int) (t : Int) (c : Nat) (hcl : (if t < 0 then (0 : Int) else min t 64) = (c : Nat)) (w : World) :
    Calls Tryd.prog 16 #[.int .u64 (m : Nat), .int .i64 n, .int .i64 t] w fun e w' => ∃ v, e = .returned v ∧ Reads w' v (nats (sprN (lst m n) c)) ∧ Chg [] w w' := by
  have HA := Lib.hid (rlist_any' m hm n)
  have hle := lst_le m n
  obtain ⟨L, hL⟩ : ∃ L, L = lst m n := ⟨_, rfl⟩
  rw [← hL] at HA hle ⊢
  clear hL
  have hc64 : c ≤ 64 := by split at hcl <;> omega
  have hin : ∀ k, k < c → (k : Int) < t ∧ k < 64 := fun k hk => by split at hcl <;> omega
  have hout : c = 64 ∨ (c < 64 ∧ t ≤ (c : Int)) := by split at hcl <;> omega
  have HIN := Lib.hid hin
  have HOUT := Lib.hid hout
  clear hcl hin hout
  by_cases hz : L.length = 0
  · have hL0 : L = [] := List.length_eq_zero_iff.1 hz
    subst hL0
    clear hz HIN HOUT hc64 hle
    rw [sprN_nil]
    go_enter Tryd.func16, Tryd.ntmps16
    go_wp2_with (go_at_call 11; refine (HA.out _).mono ?_; rintro e w1 ⟨ao, cp, rfl, hr, H1⟩)
    go_loopw [8, 9] (fun v i wr => i = .int .i64 0 ∧ v = .slice none 0 0 ∧ w1 = wr) (fun _ _ _ => 0)
    case atStart => exact ⟨rfl, rfl, rfl⟩
    case round =>
      obtain ⟨rfl, rfl, rfl⟩ := hrel
      by_cases ht : 0 < t
      · go_wp2_with fail
        go_ret
        exact ⟨_, rfl, Reads.nil _ _ _, H1⟩
      · have ht' : t ≤ 0 := by omega
        go_wp2_with fail
        go_ret
        exact ⟨_, rfl, Reads.nil _ _ _, H1⟩
  · have hp : 0 < L.length := by omega
    have HS := Lib.hid (fun k => @sprN_snoc L hp k)
    have HLN := Lib.hid (fun k => @sprN_len L hp k)
    have b1 : (0 : Int) < (L.length : Int) := by omega
    have b2 : ¬ ((L.length : Int) = 0) := by omega
    clear hz
    go_enter Tryd.func16, Tryd.ntmps16
    go_wp2_with (go_at_call 11; refine (HA.out _).mono ?_; rintro e w1 ⟨ao, cp, rfl, hr, H1⟩)
    have HR := Lib.hid hr
    clear hr
    go_loopw [8, 9] (fun v i wr => ∃ k : Nat, k ≤ c ∧ i = .int .i64 k ∧ Bosun.Own wr w1.heap.size 3 v (nats (sprN L k)) ∧ Chg [] w1 wr)
      (fun _ i _ => 64 - (intOf i).toNat)
    case atStart => exact ⟨0, by omega, rfl, by rw [show sprN L 0 = [] by unfold sprN; simp]; exact Bosun.Own.nil _ _ _, Chg.refl _ _⟩
    case round =>
      obtain ⟨k, hk, rfl, hown, H⟩ := hrel
      by_cases hkc : k < c
      · obtain ⟨c1, c2⟩ := HIN.out k hkc
        have hq : k % L.length < L.length := Nat.mod_lt _ hp
        obtain ⟨g, off, rfl, hc⟩ := reads_cell (HR.out.keep H) hq
        have hs := HS.out k
        obtain ⟨y, hy⟩ : ∃ y, y = L[k % L.length] := ⟨_, rfl⟩
        rw [← hy] at hc hs
        clear hy
        obtain ⟨q, hqe⟩ : ∃ q, q = k % L.length := ⟨_, rfl⟩
        have hqi : (k : Int) % (L.length : Int) = (q : Int) := by rw [hqe]; rfl
        have hqt : (k : Int).tmod (L.length : Int) = (q : Int) := by rw [hqe]; rfl
        rw [← hqe] at hc hq
        clear hqe
        have q1 : (q : Int) < (L.length : Int) := by omega
        have HST := Lib.hid hs
        have hlen := HLN.out k
        have HLE := Lib.hid hlen
        have hsz := H.size
        clear hs hlen
        go_wp2_with (refine wpList_app1 rfl (.tmp 27) (.tmp 35) 26 rfl w1.heap.size 3 (.int .i64 0) 8 Tryd.underlying26 infoInt rfl _ _ rfl (hown.alloc _) wr.heap.size 1 (.int .i64 y) rfl (by go_simp) rfl (by rw [nats_len, HLE.out]; unfold maxLen; omega) (by rw [nats_len, HLE.out]; omega) (by simp; omega) ?_; intro v' w5 H8 H9)
        go_roundw
        case rel =>
          have hblk := hown.block
          refine ⟨k + 1, by omega, by go_num, by rw [HST.out, nats_snoc]; exact H8, (H.alloc _).then H9 (fun g hg => .inr ?_)⟩
          have := hblk _ hg; omega
        case measure => simp [intOf] <;> omega
      · obtain rfl : k = c := by omega
        rcases HOUT.out with hx | ⟨hx, hy⟩
        · subst hx
          go_wp2_with fail
          go_ret
          exact ⟨_, rfl, hown.reads, H1.trans H⟩
        · go_wp2_with fail
          go_ret
          exact ⟨_, rfl, hown.reads, H1.trans H⟩
end Go.Proofs.YtalnokbfffhhnaaDoor
