/- gauge: not more numbers than are looked at. -/
import Derived.Test.YtknfpnifhpbojaaGau7
import Derived.Test.YtknfpnifhpbojaaGauS
namespace Go.Proofs.Ytknfpnifhpbojaa
open Go.RowKit Bosun
theorem few_any (ao : Option Addr) (n c : Nat) (hn : n ≤ c) (hm : n ≤ maxLen) (w : World) : Calls Try.prog 18 #[.slice ao n c] w fun e w' => e = .returned (.slice ao (min n 40) c) ∧ w = w' := by
  unfold maxLen at hm
  by_cases h : 40 < n
  · rw [Nat.min_eq_right (by omega)]
    go_enter Try.func18, Try.ntmps18
    go_wp2_with fail
    go_ret
    exact ⟨rfl, rfl⟩
  · rw [Nat.min_eq_left (by omega)]
    go_enter Try.func18, Try.ntmps18
    go_wp2_with fail
    go_ret
    exact ⟨rfl, rfl⟩
theorem few_reads {w : World} {ao : Option Addr} {n c : Nat} {l : List Nat} (h : Reads w (.slice ao n c) (fls l)) : n = l.length ∧ n ≤ maxLen ∧ Reads w (.slice ao (min n 40) c) (fls (l.take 40)) := by
  have hn : n = l.length := by
    obtain ⟨a', c', hv, _, _⟩ := h
    injection hv with e1 e2 e3
    rw [e2, fls_len]
  have hm : n ≤ maxLen := by
    obtain ⟨a', c', hv, hm, _⟩ := h
    injection hv with e1 e2 e3
    rw [e2]; exact hm
  refine ⟨hn, hm, ?_⟩
  have := Reads_take h (Nat.min_le_left n 40)
  rw [fls_take, show (fls l).take 40 = (fls l).take (min n 40) from by
    rw [hn]
    by_cases h2 : l.length ≤ 40
    · rw [Nat.min_eq_left h2, List.take_of_length_le (by rw [fls_len]; omega), List.take_of_length_le (by rw [fls_len]; omega)]
    · rw [Nat.min_eq_right (by omega)]]
  exact this
theorem reads_cells {w : World} {ao : Option Addr} {n c : Nat} {l : List Nat} (h : Reads w (.slice ao n c) (fls l)) : ∀ j, j < l.length → ∃ g off, ao = some ⟨g, off, none⟩ ∧ w.cell? ⟨g, off + j, none⟩ = some (.float .f64 (l.getD j 0)) := by
  obtain ⟨a', c', hv, _, hc⟩ := h
  injection hv with e1 e2 e3
  intro j hj
  obtain ⟨g, off, h1, h2⟩ := hc j _ (fls_get l hj)
  exact ⟨g, off, e1.trans h1, by rw [h2, getD_get hj]⟩
end Go.Proofs.Ytknfpnifhpbojaa
