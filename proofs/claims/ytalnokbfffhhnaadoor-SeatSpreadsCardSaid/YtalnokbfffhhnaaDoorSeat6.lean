/- seat: the reference's Target. -/
import Derived.Test.YtalnokbfffhhnaaDoorSeat5
namespace Bosun
open Go
/-- The reference's target, of the list. -/
def rtgt (L : List Nat) (n h : Int) : Int :=
  match L with
  | [] => -1
  | a :: L' => if 0 ≤ h ∧ h < n then (match (a :: L').find? (fun x : Nat => decide (h ≤ (x : Int))) with | some x => ((x : Nat) : Int) | none => ((a : Nat) : Int)) else ((a : Nat) : Int)
theorem rtgt_some {L : List Nat} {n h : Int} (hin : 0 ≤ h ∧ h < n) {k : Nat} (hk : k < L.length) (h1 : h ≤ ((L[k] : Nat) : Int)) (h2 : ∀ j (hj : j < L.length), j < k → ((L[j] : Nat) : Int) < h) : rtgt L n h = ((L[k] : Nat) : Int) := by
  have e : L.find? (fun x : Nat => decide (h ≤ (x : Int))) = some L[k] := by
    rw [List.find?_eq_some_iff_getElem]
    refine ⟨by simpa using h1, k, hk, rfl, fun j hj => ?_⟩
    have := h2 j (by omega) hj
    simpa using this
  cases L with
  | nil => simp at hk
  | cons a L' => unfold rtgt; simp only []; rw [if_pos hin, e]
theorem rtgt_none {L : List Nat} {n h : Int} (h0 : 0 < L.length) (h2 : ∀ j (hj : j < L.length), 0 ≤ h → h < n → ((L[j] : Nat) : Int) < h) : rtgt L n h = ((L[0] : Nat) : Int) := by
  cases L with
  | nil => simp at h0
  | cons a L' =>
    unfold rtgt; simp only []
    by_cases hin : 0 ≤ h ∧ h < n
    · have e : (a :: L').find? (fun x : Nat => decide (h ≤ (x : Int))) = none := by
        rw [List.find?_eq_none]
        intro x hx
        obtain ⟨j, hj, rfl⟩ := List.mem_iff_getElem.1 hx
        simpa using h2 j hj hin.1 hin.2
      rw [if_pos hin, e]; rfl
    · rw [if_neg hin]; rfl
theorem leastI_head (s : Nat) : leastI s = match (members s).head? with | some a => ((a : Nat) : Int) | none => -1 := by
  unfold leastI; cases members s <;> rfl
theorem next_is (m : Nat) (n h : Int) (hm : m < 18446744073709551616) : nextI (m &&& allBelow n) (homeI n h) = rtgt (lst m n) n h := by
  have hsl : (m &&& allBelow n) < 18446744073709551616 := Nat.lt_of_le_of_lt Nat.and_le_left hm
  have hz := members_nil_iff (fromN_lt (m &&& allBelow n) (homeI n h))
  have hf := members_from (m &&& allBelow n) (homeI n h)
  unfold lst nextI
  rw [leastI_head, leastI_head]
  obtain ⟨s, hs⟩ : ∃ s, s = m &&& allBelow n := ⟨_, rfl⟩
  rw [← hs] at hz hf ⊢
  obtain ⟨f, hff⟩ : ∃ f, f = fromN s (homeI n h) := ⟨_, rfl⟩
  rw [← hff] at hz hf ⊢
  obtain ⟨L, hL⟩ : ∃ L, L = members s := ⟨_, rfl⟩
  rw [← hL] at hf ⊢
  cases hL' : L with
  | nil =>
    rw [hL'] at hf
    have : f = 0 := hz.1 (by simpa using hf)
    subst this
    simp [rtgt]
  | cons a L' =>
    rw [hL'] at hf
    unfold rtgt; simp only []
    by_cases hin : 0 ≤ h ∧ h < n
    · have e : homeI n h = h := by unfold homeI; rw [if_neg (by omega)]
      rw [e] at hf
      rw [if_pos hin]
      have e2 : (members f).head? = (a :: L').find? (fun x : Nat => decide (h ≤ (x : Int))) := by
        rw [hf, List.head?_filter]
        congr 1; funext x
        by_cases hx : h ≤ (x : Int)
        · rw [decide_eq_true hx, decide_eq_false (by omega)]; rfl
        · rw [decide_eq_false hx, decide_eq_true (by omega)]; rfl
      cases hq : (a :: L').find? (fun x : Nat => decide (h ≤ (x : Int))) with
      | some x =>
        rw [hq] at e2
        have hne : f ≠ 0 := fun h0 => by rw [hz.2 h0] at e2; simp at e2
        rw [if_pos hne, e2]
      | none =>
        rw [hq] at e2
        have h0 : f = 0 := hz.1 (by cases hm : members f with
          | nil => rfl
          | cons b t => rw [hm] at e2; simp at e2)
        rw [if_neg (by simp [h0])]; rfl
    · have e : homeI n h = 0 := by unfold homeI; rw [if_pos (by omega)]
      rw [e] at hf
      rw [if_neg hin]
      have e3 : (a :: L').filter (fun j : Nat => !decide ((j : Int) < 0)) = a :: L' := by
        rw [List.filter_eq_self]; intro x _; simp
      rw [e3] at hf
      have hne : f ≠ 0 := fun h0 => by rw [hz.2 h0] at hf; simp at hf
      rw [if_pos hne, hf]; rfl
end Bosun
namespace Go.Proofs.YtalnokbfffhhnaaDoor
open Go.RowKit Bosun
set_option maxHeartbeats 1000000 in
theorem rtarget_any (m : Nat) (hm : m < 18446744073709551616) (n c : Int) (w : World) :
    Calls Tryd.prog 8 #[.int .u64 (m : Nat), .int .i64 n, .int .i64 c] w fun e w' => e = .returned (.int .i64 (rtgt (lst m n) n c)) ∧ Chg [] w w' := by
  have HA := Lib.hid (rlist_any' m hm n)
  have hle := lst_le m n
  obtain ⟨L, hL⟩ : ∃ L, L = lst m n := ⟨_, rfl⟩
  rw [← hL] at HA hle ⊢
  clear hL
  by_cases hz : L.length = 0
  · have hL0 : L = [] := List.length_eq_zero_iff.1 hz
    subst hL0
    have hq : rtgt [] n c = -1 := rfl
    rw [hq]
    have HB := Lib.hid (fun w => (HA.out w))
    clear HA hz hq hle
    go_enter Tryd.func8, Tryd.ntmps8
    go_wp2_with (go_at_call 11; refine (HB.out _).mono ?_; rintro e w1 ⟨ao, cp, rfl, hr, H1⟩)
    go_ret
    exact ⟨rfl, H1⟩
  · have hpos : 0 < L.length := by omega
    have HS := Lib.hid (fun k (hk : k < L.length) (hin : 0 ≤ c ∧ c < n) => rtgt_some hin hk)
    have HN := Lib.hid (rtgt_none (L := L) (n := n) (h := c) hpos)
    obtain ⟨q, hq⟩ : ∃ q, q = rtgt L n c := ⟨_, rfl⟩
    rw [← hq] at HS HN ⊢
    have hz' : ((L.length : Int) == 0) = false := beq_eq_false_iff_ne.2 (by omega)
    clear hq hz
    go_enter Tryd.func8, Tryd.ntmps8
    go_wp2_with (go_at_call 11; refine (HA.out _).mono ?_; rintro e w1 ⟨ao, cp, rfl, hr, H1⟩)
    have HR := Lib.hid hr
    clear hr
    go_loopw [8] (fun i wr => ∃ k : Nat, k ≤ L.length ∧ i = .int .i64 k ∧ Hid (∀ j (h : j < L.length), j < k → 0 ≤ c → c < n → ((L[j] : Nat) : Int) < c) ∧ w1 = wr)
      (fun i _ => 64 - (intOf i).toNat)
    case atStart => exact ⟨0, by omega, rfl, Lib.hid (fun j _ h => absurd h (by omega)), rfl⟩
    case round =>
      obtain ⟨k, hk, rfl, hno, rfl⟩ := hrel
      by_cases hkL : k < L.length
      · obtain ⟨g, off, rfl, hc⟩ := reads_cell HR.out hkL
        obtain ⟨y, hy⟩ : ∃ y, y = L[k] := ⟨_, rfl⟩
        rw [← hy] at hc
        have HY := Lib.hid hy
        clear hy
        have b1 : (k : Int) < (L.length : Int) := by omega
        have step : ¬ (0 ≤ c ∧ c < n ∧ c ≤ (y : Int)) → (∀ j (h : j < L.length), j < k + 1 → 0 ≤ c → c < n → ((L[j] : Nat) : Int) < c) := fun hn j h hj a b => by
          by_cases e : j < k
          · exact hno.out j h e a b
          · obtain rfl : j = k := by omega
            rw [← HY.out]; exact Int.not_le.1 (fun hh => hn ⟨a, b, hh⟩)
        have ST := Lib.hid step
        clear step
        by_cases d1 : c ≤ (y : Int)
        · by_cases d2 : 0 ≤ c
          · by_cases d3 : c < n
            · have hR := Lib.hid (show q = (y : Int) from by rw [HY.out]; exact HS.out k hkL ⟨d2, d3⟩ (by rw [← HY.out]; exact d1) (fun j hj hjk => hno.out j hj hjk d2 d3))
              go_wp2_with fail
              go_ret
              exact ⟨by rw [hR.out]; rfl, H1⟩
            · have d3' : n ≤ c := by omega
              have ST2 := Lib.hid (ST.out (fun h => d3 h.2.1))
              go_wp2_with fail
              go_roundw
              case rel => exact ⟨k + 1, by omega, by go_num, Lib.hid ST2.out, by trivial⟩
              case measure => simp [intOf] <;> omega
          · have d2' : c < 0 := by omega
            have ST2 := Lib.hid (ST.out (fun h => d2 h.1))
            go_wp2_with fail
            go_roundw
            case rel => exact ⟨k + 1, by omega, by go_num, Lib.hid ST2.out, by trivial⟩
            case measure => simp [intOf] <;> omega
        · have d1' : (y : Int) < c := by omega
          have ST2 := Lib.hid (ST.out (fun h => d1 h.2.2))
          go_wp2_with fail
          go_roundw
          case rel => exact ⟨k + 1, by omega, by go_num, Lib.hid ST2.out, by trivial⟩
          case measure => simp [intOf] <;> omega
      · obtain rfl : k = L.length := by omega
        obtain ⟨g, off, rfl, hc⟩ := reads_cell HR.out hpos
        have hR := Lib.hid (HN.out (fun j hj => hno.out j hj hj))
        obtain ⟨y, hy⟩ : ∃ y, y = L[0] := ⟨_, rfl⟩
        rw [← hy] at hc hR
        rw [Nat.add_zero] at hc
        clear hy
        have b1 : (0 : Int) < (L.length : Int) := by omega
        go_wp2_with fail
        go_ret
        exact ⟨by rw [hR.out]; rfl, H1⟩
end Go.Proofs.YtalnokbfffhhnaaDoor
