/- bosunref01.Same, over any seat whose program has it. -/
import Derived.Test.YtcoljjbbfjhhpaaProg
import Derived.Test.YtcoljjbbfjhhpaaSets0
import Derived.Test.YtcoljjbbfjhhpaaBase
import Derived.Lib.Hide
import Derived.KernelRfl
namespace Go.Proofs.Ytcoljjbbfjhhpaa
open Go.RowKit Bosun

set_option maxHeartbeats 400000 in
theorem same_any (v u : Value) (l m : List Int) (w : World) (hv : Reads w v (ints l)) (hu : Reads w u (ints m)) :
    Calls Try.prog 20 #[v, u] w fun e w' => e = .returned (.bool (decide (l = m))) ∧ Chg [] w w' := by
  obtain ⟨ao, cap, rfl, hm, hc⟩ := hv
  obtain ⟨bo, dap, rfl, hn, hd⟩ := hu
  rw [ints_len] at hm hn ⊢
  rw [ints_len]
  unfold maxLen at hm hn
  by_cases hlen : l.length = m.length
  · rw [← hlen]
    go_enter Try.func20, Try.ntmps20
    go_wp2
    go_loopw [5] (fun i wr => ∃ k : Nat, k ≤ l.length ∧ i = .int .i64 k ∧ l.take k = m.take k ∧ Chg [] w wr)
      (fun i _ => l.length - (intOf i).toNat)
    case atStart => exact ⟨0, by omega, rfl, rfl, Chg.refl _ _⟩
    case round =>
      obtain ⟨k, hk, rfl, ht, H⟩ := hrel
      have HT := Lib.hid ht
      have HL := Lib.hid hlen
      clear ht
      by_cases hkl : k < l.length
      · have hkm : k < m.length := by omega
        obtain ⟨g, off, rfl, hcell⟩ := hc k _ (ints_get l hkl)
        obtain ⟨g', off', rfl, hdell⟩ := hd k _ (ints_get m hkm)
        have hcell' : wr.cell? ⟨g, off + k, none⟩ = some (.int .i64 l[k]) := by
          rw [World.cell?_of_block (w := w) (H.block g (World.block_lt_of_cell? w _ hcell) (by simp)), hcell]
        have hdell' : wr.cell? ⟨g', off' + k, none⟩ = some (.int .i64 m[k]) := by
          rw [World.cell?_of_block (w := w) (H.block g' (World.block_lt_of_cell? w _ hdell) (by simp)), hdell]
        have HX := Lib.hid (List.take_succ_eq_append_getElem hkl)
        have HY := Lib.hid (List.take_succ_eq_append_getElem hkm)
        clear hcell hdell hc hd hlen
        by_cases he : l[k] = m[k]
        · obtain ⟨x, hx⟩ : ∃ x, x = l[k] := ⟨_, rfl⟩
          rw [← he] at hdell' HY
          rw [← hx] at hcell' hdell' HX HY
          clear hx he
          go_wp2_with fail
          go_quiet (fail)
          go_wp2
          go_roundw
          case rel => exact ⟨k + 1, by omega, by go_num, by rw [HX.out, HY.out, HT.out], H.drewN _⟩
          case measure => simp [intOf] <;> omega
        · have hne : (l[k] == m[k]) = false := by simpa using he
          have hne' : (l[k] != m[k]) = true := by simpa using he
          obtain ⟨x, hx⟩ : ∃ x, x = l[k] := ⟨_, rfl⟩
          obtain ⟨y, hy⟩ : ∃ y, y = m[k] := ⟨_, rfl⟩
          have HD := Lib.hid (show decide (l = m) = false by
            rw [decide_eq_false_iff_not]; intro h; subst h; exact he rfl)
          rw [← hx] at hcell' HX hne hne'
          rw [← hy] at hdell' HY hne hne'
          clear hx hy he
          go_wp2_with fail
          go_quiet (fail)
          go_wp2
          go_ret
          exact ⟨ret_bool HD.out.symm, H.drewN _⟩
      · obtain rfl : k = l.length := by omega
        have HD := Lib.hid (show decide (l = m) = true by
          rw [decide_eq_true_eq]
          have h := HT.out
          rw [List.take_length, HL.out, List.take_length] at h
          exact h)
        clear hc hd hlen
        go_wp2
        go_ret
        exact ⟨ret_bool HD.out.symm, H⟩
  · have HD := Lib.hid (show decide (l = m) = false by
      rw [decide_eq_false_iff_not]; intro h; subst h; exact hlen rfl)
    have hne : ((l.length : Int) != (m.length : Int)) = true := by rw [bne_iff_ne]; omega
    go_enter Try.func20, Try.ntmps20
    go_wp2
    go_ret
    exact ⟨ret_bool HD.out.symm, Chg.refl _ _⟩
end Go.Proofs.Ytcoljjbbfjhhpaa
