/- seat: the reference's List and load. -/
import Derived.Test.YtalnokbfffhhnaaDoorSeatP
import Derived.Test.YtalnokbfffhhnaaDoorSeat1
namespace Go.Proofs.YtalnokbfffhhnaaDoor
open Go.RowKit Bosun
theorem rhas_nat (m : Nat) (hm : m < 18446744073709551616) (k : Nat) (hk : k < 64) (w : World) :
    Calls Tryd.prog 23 #[.int .u64 (m : Nat), .int .i64 ((k : Nat) : Int)] w fun e w' => e = .returned (.bool (m.testBit k)) ∧ Chg [] w w' := by
  have h := has_any m hm (k : Nat) w
  have e : has m ((k : Nat) : Int) = m.testBit k := by
    unfold has
    have h1 : decide ((0 : Int) ≤ (k : Nat)) = true := decide_eq_true (by omega)
    have h2 : decide (((k : Nat) : Int) < 64) = true := decide_eq_true (by omega)
    rw [h1, h2]; simp
  rw [e] at h; exact h
theorem lst_to (m : Nat) (n : Int) (k : Nat) (h : k ≤ 64) : (membersTo m k).length ≤ 64 := Nat.le_trans (membersTo_len m k) h
set_option maxHeartbeats 400000 in
theorem rlist_any (m : Nat) (hm : m < 18446744073709551616) (n : Int) (w : World) :
    Calls Tryd.prog 11 #[.int .u64 (m : Nat), .int .i64 n] w fun e w' => ∃ v, e = .returned v ∧ Bosun.Own w' w.heap.size 3 v (nats (lst m n)) ∧ Chg [] w w' := by
  rw [lst_eq]
  have hin := Lib.hid (fun k => @limN_in n k)
  have hout := limN_out n
  have hle := limN_le n
  obtain ⟨K, hK⟩ : ∃ K, K = limN n := ⟨_, rfl⟩
  rw [← hK] at hin hout hle ⊢
  clear hK
  have HO := Lib.hid hout
  have HH := Lib.hid (rhas_nat m hm)
  clear hout
  go_enter Tryd.func11, Tryd.ntmps11
  go_wp2_with fail
  go_loopw [5, 6] (fun v i wr => ∃ k : Nat, k ≤ K ∧ i = .int .i64 k ∧ Bosun.Own wr w.heap.size 3 v (nats (membersTo m k)) ∧ Chg [] w wr ∧ w.heap.size ≤ wr.heap.size)
    (fun _ i _ => 64 - (intOf i).toNat)
  case atStart => exact ⟨0, by omega, rfl, Bosun.Own.nil _ _ _, Chg.refl _ _, Nat.le_refl _⟩
  case round =>
    obtain ⟨k, hk, rfl, hown, H, hsz2⟩ := hrel
    by_cases hkK : k < K
    · obtain ⟨c1, c2⟩ := hin.out k hkK
      have hlen := membersTo_len m k
      have HK := Lib.hid (HH.out k c2 wr)
      cases hb : m.testBit k
      · rw [hb] at HK
        have HS := Lib.hid (membersTo_no m k hb)
        clear hb
        go_wp2_with (go_at_call 23; refine HK.out.mono ?_; rintro e w4 ⟨rfl, H4⟩)
        go_roundw
        case rel => exact ⟨k + 1, by omega, by go_num, by rw [HS.out]; exact hown.keep H4, H.trans H4, Nat.le_trans hsz2 H4.size⟩
        case measure => simp [intOf] <;> omega
      · rw [hb] at HK
        have HS := Lib.hid (membersTo_yes m k hb)
        clear hb
        go_wp2_with (first
          | (go_at_call 23; refine HK.out.mono ?_; rintro e w4 ⟨rfl, H4⟩; have hown4 := hown.keep H4; have hsz4 := Nat.le_trans hsz2 H4.size)
          | (refine wpList_app1 rfl (.tmp 19) (.tmp 21) 26 rfl w.heap.size 3 (.int .i64 0) 8 Tryd.underlying26 infoInt rfl _ _ rfl (hown4.alloc _) w4.heap.size 1 (.int .i64 k) rfl (by go_simp) rfl (by rw [nats_len]; unfold maxLen; omega) (by rw [nats_len]; omega) (by simp; omega) ?_; intro v' w5 H8 H9))
        go_roundw
        case rel =>
          have hblk := hown4.block
          refine ⟨k + 1, by omega, by go_num, by rw [HS.out, nats_snoc]; exact H8, ((H.trans H4).alloc _).then H9 (fun g hg => .inr ?_), Nat.le_trans hsz4 (Nat.le_trans (by simp) H9.size)⟩
          have := hblk _ hg; omega
        case measure => simp [intOf] <;> omega
    · obtain rfl : k = K := by omega
      rcases HO.out with hx | ⟨hx, hy⟩
      · subst hx
        go_wp2
        go_ret
        exact ⟨_, rfl, hown, H⟩
      · go_wp2
        go_ret
        exact ⟨_, rfl, hown, H⟩
/-- The reference's load. -/
theorem rload_any (l : List Int) (v : Value) (c : Nat) (w : World) (hv : Reads w v (ints l)) :
    Calls Tryd.prog 26 #[v, .int .i64 (c : Nat)] w fun e w' => e = .returned (.int .i64 (loadI l c)) ∧ w' = w := by
  obtain ⟨ao, cp, rfl, hm, hcell⟩ := hv
  rw [ints_len] at hm ⊢
  unfold maxLen at hm
  by_cases h : c < l.length
  · obtain ⟨g', off, rfl, cc⟩ := hcell c _ (ints_get l h)
    have e : loadI l c = l[c] := by unfold loadI; simp [List.getD, h]
    rw [e]
    obtain ⟨y, hy⟩ : ∃ y, y = l[c] := ⟨_, rfl⟩
    rw [← hy] at cc ⊢
    have d1 : decide ((c : Int) < (l.length : Int)) = true := decide_eq_true (by omega)
    have h' : (c : Int) < (l.length : Int) := by omega
    clear e hy hcell
    go_enter Tryd.func26, Tryd.ntmps26
    go_wp2_with fail
    go_ret
    exact ⟨rfl, rfl⟩
  · have e : loadI l c = 0 := by unfold loadI; simp [List.getD, h]
    rw [e]
    have h' : (l.length : Int) ≤ (c : Int) := by omega
    clear e hcell
    go_enter Tryd.func26, Tryd.ntmps26
    go_wp2_with fail
    go_ret
    exact ⟨rfl, rfl⟩
end Go.Proofs.YtalnokbfffhhnaaDoor
