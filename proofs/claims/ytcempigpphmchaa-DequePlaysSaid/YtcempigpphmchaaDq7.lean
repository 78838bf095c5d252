/- deque: a work is stepped to its end; the page's example; of nil. -/
import Derived.Test.YtcempigpphmchaaDq6
namespace Bosun
open Go
/-- So many steps. -/
def itD : Nat → DOp × List Nat × Nat → DOp × List Nat × Nat
  | 0, s => s
  | n + 1, s => itD n (stepD s.1 s.2.1 s.2.2)
theorem stepD_done {o : DOp} {W : List Nat} {u : Nat} (h : o.done = true) : stepD o W u = (o, W, u) := by unfold stepD; rw [if_pos h]
theorem itD_done {o : DOp} {W : List Nat} {u : Nat} (h : o.done = true) : ∀ n, itD n (o, W, u) = (o, W, u)
  | 0 => rfl
  | n + 1 => by unfold itD; rw [stepD_done h]; exact itD_done h n
theorem itD_succ (n : Nat) : ∀ s, itD (n + 1) s = stepD (itD n s).1 (itD n s).2.1 (itD n s).2.2 := by
  induction n with
  | zero => intro s; rfl
  | succ n ih => intro s; rw [show itD (n + 1 + 1) s = itD (n + 1) (stepD s.1 s.2.1 s.2.2) from rfl, ih]; rfl
theorem itD_add (m : Nat) : ∀ n s, itD (m + n) s = itD n (itD m s) := by
  induction m with
  | zero => intro n s; rw [Nat.zero_add]; rfl
  | succ m ih => intro n s; rw [show m + 1 + n = (m + n) + 1 from by omega]; exact ih n _
end Bosun
namespace Go.Proofs.Ytcempigpphmchaa
open Go.RowKit Bosun
set_option maxHeartbeats 2000000 in
theorem all_any (g : Nat) (o : DOp) (w : World) (h : IsOp w g o) (ok : OkOp o) (bm bw : Nat) (W : List Nat) (u : Nat) (hm : IsMem w bm bw W u) (n1 : g ≠ bm) (n2 : g ≠ bw) :
    Calls Try.prog 57 #[.pointer (some ⟨g, 0, none⟩), .pointer (some ⟨bm, 0, none⟩)] w fun e w' => e = .returned (.bool (itD 8 (o, W, u)).1.done) ∧ IsOp w' g (itD 8 (o, W, u)).1 ∧ OkOp (itD 8 (o, W, u)).1 ∧ IsMem w' bm bw (itD 8 (o, W, u)).2.1 (itD 8 (o, W, u)).2.2 ∧ Chg [g, bm, bw] w w' := by
  obtain ⟨s0, hs0⟩ : ∃ s0 : DOp × List Nat × Nat, s0 = (o, W, u) := ⟨_, rfl⟩
  rw [← hs0]
  have HH := Lib.hid (show IsOp w g s0.1 ∧ OkOp s0.1 ∧ IsMem w bm bw s0.2.1 s0.2.2 from by rw [hs0]; exact ⟨h, ok, hm⟩)
  clear h ok hm hs0
  go_enter Try.func57, Try.ntmps57
  go_wp2_with fail
  go_loopw [5] (fun x5 wr => ∃ (k : Nat) (s : DOp × List Nat × Nat), k ≤ 8 ∧ x5 = .int .i64 k ∧ s = itD k s0 ∧ IsOp wr g s.1 ∧ OkOp s.1 ∧ IsMem wr bm bw s.2.1 s.2.2 ∧ Chg [g, bm, bw] w wr) (fun x5 _ => 8 - (intOf x5).toNat)
  case atStart => exact ⟨0, s0, by omega, rfl, rfl, HH.out.1, HH.out.2.1, HH.out.2.2, Chg.refl _ _⟩
  case round =>
    rename_i wr _
    obtain ⟨k, s, hk, rfl, hs, H, K, M, C⟩ := hrel
    obtain ⟨o1, W1, u1⟩ := s
    have HS := Lib.hid hs
    have HD := Lib.hid (done_any g o1 wr H)
    clear hs
    by_cases hk8 : k < 8
    · cases hd : o1.done with
      | false =>
        rw [hd] at HD
        have HT := Lib.hid (step_any g o1 wr H K bm bw W1 u1 M n1 n2)
        clear hd
        go_wp2_with (first
          | (go_at_call 42; refine HD.out.mono ?_; rintro e w2 ⟨rfl, rfl⟩)
          | (go_at_call 14; refine HT.out.mono ?_; rintro e w3 ⟨rfl, H3, M3, C3⟩))
        go_roundw
        case rel => exact ⟨k + 1, _, by omega, by go_num, by rw [itD_succ, ← HS.out], H3, okStep K M.small, M3, C.then C3 (fun g hg => .inl hg)⟩
        case measure => simp [intOf] <;> omega
      | true =>
        rw [hd] at HD
        have he : itD 8 s0 = (o1, W1, u1) := by
          rw [show 8 = k + (8 - k) from by omega, itD_add, ← HS.out, itD_done hd]
        have HE := Lib.hid he
        have HDN := Lib.hid hd
        clear he hd
        go_wp2_with (go_at_call 42; refine HD.out.mono ?_; rintro e w2 ⟨rfl, rfl⟩)
        go_ret
        rw [HE.out]
        exact ⟨ret_bool HDN.out.symm, H, K, M, C⟩
    · obtain rfl : k = 8 := by omega
      obtain ⟨q, hq⟩ : ∃ q, q = o1.done := ⟨_, rfl⟩
      rw [← hq] at HD
      have HQ := Lib.hid hq
      clear hq
      go_wp2_with (go_at_call 42; refine HD.out.mono ?_; rintro e w2 ⟨rfl, rfl⟩)
      go_ret
      rw [← HS.out]
      exact ⟨ret_bool HQ.out, H, K, M, C⟩
end Go.Proofs.Ytcempigpphmchaa
