/- rack: few, in. -/
import Derived.Test.YtjdbgohfedjifaaDoorBs
import Derived.Test.YtjdbgohfedjifaaDoorMm
namespace Go.Proofs.YtjdbgohfedjifaaDoor
open Go.RowKit Bosun
theorem few_any (ao : Option Addr) (n c : Nat) (hn : n ≤ c) (hm : n ≤ maxLen) (w : World) : Calls Tryd.prog 16 #[.slice ao n c] w fun e w' => e = .returned (.slice ao (min n 20) c) ∧ w = w' := by
  unfold maxLen at hm
  by_cases h : 20 < n
  · rw [Nat.min_eq_right (by omega)]
    go_enter Tryd.func16, Tryd.ntmps16
    go_wp2_with fail
    go_ret
    exact ⟨rfl, rfl⟩
  · rw [Nat.min_eq_left (by omega)]
    go_enter Tryd.func16, Tryd.ntmps16
    go_wp2_with fail
    go_ret
    exact ⟨rfl, rfl⟩
theorem Reads_take {w : World} {ao : Option Addr} {n c k : Nat} {xs : List Value} (h : Reads w (.slice ao n c) xs) (hk : k ≤ n) : Reads w (.slice ao k c) (xs.take k) := by
  obtain ⟨ao', c', hv, hm, hc⟩ := h
  injection hv with e1 e2 e3
  subst e1 e3
  have hl : (xs.take k).length = k := by rw [List.length_take]; omega
  refine ⟨ao, c, by rw [hl], by rw [hl]; omega, fun j x hx => ?_⟩
  rw [List.getElem?_take] at hx
  split at hx
  · exact hc j x hx
  · cases hx
theorem words_take (l : List Nat) (k : Nat) : words (l.take k) = (words l).take k := by simp [words]
theorem few_reads {w : World} {ao : Option Addr} {n c : Nat} {l : List Nat} (h : Reads w (.slice ao n c) (words l)) : n = l.length ∧ n ≤ maxLen ∧ Reads w (.slice ao (min n 20) c) (words (l.take 20)) := by
  have hn : n = l.length := by
    obtain ⟨a', c', hv, _, _⟩ := h
    injection hv with e1 e2 e3
    rw [e2, words_len]
  have hm : n ≤ maxLen := by
    obtain ⟨a', c', hv, hm, _⟩ := h
    injection hv with e1 e2 e3
    rw [e2]; exact hm
  refine ⟨hn, hm, ?_⟩
  have := Reads_take h (Nat.min_le_left n 20)
  rw [words_take, show (words l).take 20 = (words l).take (min n 20) from by
    rw [hn]
    by_cases h2 : l.length ≤ 20
    · rw [Nat.min_eq_left h2, List.take_of_length_le (by rw [words_len]; omega), List.take_of_length_le (by rw [words_len]; omega)]
    · rw [Nat.min_eq_right (by omega)]]
  exact this
theorem mem_take_succ {l : List Nat} {k x : Nat} (hk : k < l.length) : x ∈ l.take (k + 1) ↔ x ∈ l.take k ∨ x = l[k] := by
  rw [List.take_succ_eq_append_getElem hk, List.mem_append, List.mem_singleton]
theorem in_any (v : Value) (l : List Nat) (x : Nat) (w : World) (hv : Reads w v (words l)) :
    Calls Tryd.prog 17 #[v, .int .u64 (x : Nat)] w fun e w' => e = .returned (.bool (decide (x ∈ l))) ∧ w = w' := by
  obtain ⟨ao, cap, rfl, hm, hc⟩ := hv
  rw [words_len] at hm ⊢
  unfold maxLen at hm
  have HC := Lib.hid hc
  clear hc
  go_enter Tryd.func17, Tryd.ntmps17
  go_wp2_with fail
  go_loopw [5] (fun i wr => ∃ k : Nat, k ≤ l.length ∧ i = .int .i64 k ∧ Hid (x ∉ l.take k) ∧ w = wr) (fun i _ => l.length - (intOf i).toNat)
  case atStart => exact ⟨0, by omega, rfl, Lib.hid (by simp), rfl⟩
  case round =>
    obtain ⟨k, hk, rfl, HN, rfl⟩ := hrel
    by_cases hkl : k < l.length
    · have b1 : (k : Int) < (l.length : Int) := by omega
      have b0 : (0 : Int) ≤ (k : Int) := by omega
      obtain ⟨g, off, rfl, hcell⟩ := HC.out k (.int .u64 (l[k] : Nat)) (by simp [words, hkl])
      have HM := Lib.hid (mem_take_succ (x := x) hkl)
      have HIN := Lib.hid (List.getElem_mem hkl)
      obtain ⟨y, hy⟩ : ∃ y, y = l[k] := ⟨_, rfl⟩
      rw [← hy] at hcell HM HIN
      clear hy
      by_cases hxy : y = x
      · have e1 : ((y : Int) == (x : Int)) = true := by simp [hxy]
        have HD := Lib.hid (show decide (x ∈ l) = true by rw [← hxy]; exact decide_eq_true HIN.out)
        clear hxy
        go_wp2_with fail
        go_ret
        exact ⟨ret_bool HD.out.symm, rfl⟩
      · have e1 : ((y : Int) == (x : Int)) = false := by simp; omega
        have HN2 := Lib.hid (show x ∉ l.take (k + 1) by rw [HM.out]; intro h; rcases h with h | h; exact HN.out h; exact hxy h.symm)
        clear hxy
        go_wp2_with fail
        go_roundw
        case rel => exact ⟨k + 1, by omega, by go_num, HN2, by trivial⟩
        case measure => simp [intOf] <;> omega
    · obtain rfl : k = l.length := by omega
      have HD := Lib.hid (show decide (x ∈ l) = false by have h := HN.out; rw [List.take_length] at h; exact decide_eq_false h)
      go_wp2_with fail
      go_ret
      exact ⟨ret_bool HD.out.symm, rfl⟩
end Go.Proofs.YtjdbgohfedjifaaDoor
