/- rack: Hold, sure, Words; what begins (Put, Take). -/
import Derived.Test.YtjdbgohfedjifaaDoorRk9
namespace Bosun
open Go
/-- A level, held. -/
def holdL (l : Int) : Nat := (min (max l 0) 7).toNat
theorem holdL_lt (l : Int) : holdL l < 8 := by unfold holdL; omega
theorem holdL_int (l : Int) : min (max l 0) 7 = (holdL l : Int) := by unfold holdL; omega
end Bosun
namespace Go.Proofs.YtjdbgohfedjifaaDoor
open Go.RowKit Bosun
theorem ghold_any (l : Int) (w : World) : Calls Tryd.prog 36 #[.int .i64 l] w fun e w' => e = .returned (.int .i64 (holdL l : Nat)) ∧ w = w' := by
  have h1 := holdL_int l
  obtain ⟨z, hz⟩ : ∃ z, z = holdL l := ⟨_, rfl⟩
  rw [← hz] at h1 ⊢
  have a1 : max l 0 = if l < 0 then 0 else l := by split <;> omega
  have a2 : min (max l 0) 7 = if 7 < max l 0 then 7 else max l 0 := by split <;> omega
  rw [h1] at a2
  obtain ⟨y, hy⟩ : ∃ y, y = max l 0 := ⟨_, rfl⟩
  rw [← hy] at a1 a2
  have A1 := Lib.hid a1
  have A2 := Lib.hid a2
  clear h1 hz hy a1 a2
  go_enter Tryd.func36, Tryd.ntmps36
  go_wp2_with (first
    | (refine wpList_max rfl (.tmp 3) _ _ _ rfl .i64 l 0 y rfl rfl ?_ ?_; first | exact A1.out | (rw [A1.out]; done) | (rw [A1.out]; split <;> split <;> omega))
    | (refine wpList_min rfl (.tmp 4) _ _ _ rfl .i64 y 7 (z : Int) rfl rfl ?_ ?_; first | exact A2.out | (rw [A2.out]; split <;> split <;> omega)))
  go_ret
  exact ⟨rfl, rfl⟩
theorem rhold5_any (l : Int) (w : World) : Calls Tryd.prog 12 #[.int .i64 l] w fun e w' => e = .returned (.int .i64 (holdL l : Nat)) ∧ w = w' := by
  have h1 : (if l < 0 then 0 else if l > 7 then 7 else l) = (holdL l : Int) := by unfold holdL; split <;> (try split) <;> omega
  have H1 := Lib.hid h1
  clear h1
  go_enter Tryd.func12, Tryd.ntmps12
  by_cases h0 : l < 0
  · go_wp2_with fail
    go_ret
    exact ⟨ret_int (by rw [← H1.out]; split <;> (try split) <;> omega), rfl⟩
  · by_cases h7 : l > 7
    · go_wp2_with fail
      go_ret
      exact ⟨ret_int (by rw [← H1.out]; split <;> (try split) <;> omega), rfl⟩
    · go_wp2_with fail
      go_ret
      exact ⟨ret_int (by rw [← H1.out]; split <;> (try split) <;> omega), rfl⟩
theorem bin_nilF (w : World) : (binOp .eql 45 .nilFunc .nilFunc).run Tryd.prog w = .ok (.bool true) w := by kernel_rfl
set_option maxRecDepth 8000 in
theorem sure_nil (w : World) : Calls Tryd.prog 37 #[.nilFunc] w fun e w' => e = .returned (.func (.func 50) #[] #[]) ∧ w = w' := by
  go_enter Tryd.func37, Tryd.ntmps37
  go_wp2_with fail
  rw [bin_nilF]
  go_wp2_with fail
  go_ret
  exact ⟨rfl, rfl⟩
theorem sure1_any (x : Nat) (w : World) : Calls Tryd.prog 50 #[.int .u64 (x : Nat)] w fun e w' => e = .returned (.bool true) ∧ w = w' := by
  go_enter Tryd.func50, Tryd.ntmps50
  go_wp2_with fail
  go_ret
  exact ⟨rfl, rfl⟩
theorem rwords_any (c : Int) (h0 : -9223372036854775808 ≤ c) (h1 : c ≤ 9223372036854775807) (w : World) :
    Calls Tryd.prog 43 #[.int .i64 c] w fun e w' => e = .returned (.int .i64 (1 + 16 * (2 + (holdN c : Nat)))) ∧ w = w' := by
  have HL := Lib.hid (fun w => words_any c h0 h1 w)
  have hl := (holdN_pow2 c).le
  obtain ⟨n, hn⟩ : ∃ n, n = holdN c := ⟨_, rfl⟩
  rw [← hn] at HL hl ⊢
  clear h0 h1 hn
  go_enter Tryd.func43, Tryd.ntmps43
  go_wp2_with fail
  refine (HL.out _).mono ?_
  rintro e w1 ⟨rfl, rfl⟩
  go_wp2_with fail
  go_ret
  exact ⟨rfl, rfl⟩
set_option maxHeartbeats 4000000 in
theorem rtake_any (W : World) (rb bm bw : Nat) (r : RRack) (M : List Nat) (u : Nat) (h : IsRk W rb r) (hm : IsMem W bm bw M u) (ok : OkRack r) :
    Calls Tryd.prog 13 #[.pointer (some ⟨rb, 0, none⟩)] W fun e W' => ∃ wb, e = .returned (.pointer (some ⟨wb, 0, none⟩)) ∧ Rig W' wb rb bm bw .nilFunc none r takeW M u ∧ Chg [] W W' ∧ W.heap.size ≤ wb := by
  have HH := Lib.hid (And.intro h (And.intro hm ok))
  clear h hm ok
  go_enter Tryd.func13, Tryd.ntmps13
  go_wp2_with fail
  go_ret
  exact ⟨W.heap.size, rfl, ⟨Blk.new _ _ _, Blk.chg HH.out.1 ((Chg.refl [] W).alloc _) (by simp), HH.out.2.1.chg ((Chg.refl [] W).alloc _) (by simp) (by simp), trivial, HH.out.2.2, by decide, fun _ => by decide, by decide⟩, (Chg.refl _ _).alloc _, Nat.le_refl _⟩
set_option maxRecDepth 8000 in
set_option maxHeartbeats 8000000 in
theorem rput_any (W : World) (rb bm bw : Nat) (r : RRack) (M : List Nat) (u : Nat) (h : IsRk W rb r) (hm : IsMem W bm bw M u) (ok : OkRack r) (x : Nat) (hx : x < 18446744073709551616) (level : Int) (pin : Bool) (fv : Value) (f : FuncId) (caps : Array Value)
    (hs : ∀ w, Calls Tryd.prog 37 #[fv] w fun e w' => e = .returned (.func (.func f) #[] caps) ∧ w = w') :
    Calls Tryd.prog 11 #[.pointer (some ⟨rb, 0, none⟩), .int .u64 (x : Nat), .int .i64 level, .bool pin, fv] W fun e W' => ∃ wb g, e = .returned (.pointer (some ⟨wb, 0, none⟩)) ∧ Rig W' wb rb bm bw (.func (.func f) #[] caps) (some g) r (putW r x (holdL level) pin) M u ∧ Chg [] W W' ∧ W.heap.size ≤ wb ∧ W.heap.size ≤ g := by
  have HH := Lib.hid (And.intro h (And.intro hm ok))
  have HS := Lib.hid hs
  have HL := Lib.hid (fun w => ghold_any level w)
  have hl := holdL_lt level
  obtain ⟨l, hl'⟩ : ∃ l, l = holdL level := ⟨_, rfl⟩
  rw [← hl'] at HL hl ⊢
  clear h hm ok hl' hs
  have HAT := Lib.hid (fun (k : Nat) (hk : k < 2) => atOk HH.out.2.2 hk hl)
  go_enter Tryd.func11, Tryd.ntmps11
  have HK := Lib.hid (show ∃ k, k = (if pin = true then 1 else 0) ∧ k < 2 ∧ putW r x l pin = ⟨.pushing, x, l, k, some (newD (r.at k l) r.cap 0 x), 0, 0, false, false, false, false, 0, false, 0⟩ from ⟨_, rfl, by split <;> omega, rfl⟩)
  cases pin
  all_goals
    go_wp2_with (first
      | (go_at_call 36; refine (HL.out _).mono ?_; rintro e w1 ⟨rfl, rfl⟩)
      | (go_at_call 37; refine (HS.out _).mono ?_; rintro e w1 ⟨rfl, rfl⟩))
  all_goals
    obtain ⟨k, hk0, hk2, hkp⟩ := HK.out
    simp at hk0
    have B1 : IsWk (W.alloc (.cells (wkCells rb (.func (.func f) #[] caps) none ⟨.pushing, x, l, k, none, 0, 0, false, false, false, false, 0, false, 0⟩) 81)) W.heap.size rb (.func (.func f) #[] caps) none ⟨.pushing, x, l, k, none, 0, 0, false, false, false, false, 0, false, 0⟩ := Blk.new _ _ _
    have C1 : Chg [] W (W.alloc (.cells (wkCells rb (.func (.func f) #[] caps) none ⟨.pushing, x, l, k, none, 0, 0, false, false, false, false, 0, false, 0⟩) 81)) := (Chg.refl _ _).alloc _
    have R1 : IsRk _ rb r := Blk.chg HH.out.1 C1 (by simp)
    have HW := Lib.hid (wdeque_any W.heap.size rb _ none _ r _ B1 R1 hk2 hl)
    have HB := Lib.hid (And.intro B1 C1)
    have HKP := Lib.hid (And.intro hk2 hkp)
    clear B1 C1 R1 hkp hk2
    subst hk0
    refine HW.out.mono ?_
    rintro e w2 ⟨rfl, C2⟩
    have B2 : IsWk w2 W.heap.size rb (.func (.func f) #[] caps) none ⟨.pushing, x, l, _, none, 0, 0, false, false, false, false, 0, false, 0⟩ := Blk.chg HB.out.1 C2 (by simp)
    have D2 : Chg [] W w2 := HB.out.2.then C2 (by simp)
    clear C2 HW HB
    go_wp2_with fail
    refine (opush_any _ r.cap x w2).mono ?_
    rintro e w3 ⟨g, rfl, O3, C3, hg3⟩
    have B3 : IsWk w3 W.heap.size rb (.func (.func f) #[] caps) none ⟨.pushing, x, l, _, none, 0, 0, false, false, false, false, 0, false, 0⟩ := Blk.chg B2 C3 (by simp)
    have D3 : Chg [] W w3 := D2.then C3 (by simp)
    have c6 : w3.cell? ⟨W.heap.size, 6, none⟩ = some (.pointer none) := by rw [Blk.cell B3]; rfl
    have z6 : w3.frozen? ⟨W.heap.size, 6, none⟩ = false := Blk.frozen B3 _
    have hgd : g ≠ W.heap.size := by have := Blk.lt B2; omega
    have hgw : W.heap.size ≤ g := by have := D2.size; omega
    have HX := Lib.hid (And.intro B3 (And.intro D3 (And.intro O3 (And.intro hgd hgw))))
    clear B2 D2 C3 B3 D3 O3 hgd hgw hg3
    go_wp2_with fail
    go_ret
    refine ⟨W.heap.size, g, rfl, ⟨?_, ?_, ?_, ?_, HH.out.2.2, ?_, fun _ => hl, Nat.zero_le _⟩, ?_, Nat.le_refl _, HX.out.2.2.2.2⟩
    · rw [HKP.out.2]; exact Blk.setCell HX.out.1 6 _
    · exact Blk.chg HH.out.1 (HX.out.2.1.setCell (.inr (Nat.le_refl _)) _) (by simp)
    · exact HH.out.2.1.chg (HX.out.2.1.setCell (.inr (Nat.le_refl _)) _) (by simp) (by simp)
    · rw [HKP.out.2]
      exact ⟨Blk.chg HX.out.2.2.1 ((Chg.refl [W.heap.size] _).setCell (.inl (by simp)) _) (by simp; exact HX.out.2.2.2.1), OkOp.new (HAT.out _ HKP.out.1).1 (HAT.out _ HKP.out.1).2 HH.out.2.2.cap (by decide) hx⟩
    · rw [HKP.out.2]; exact HKP.out.1
    · exact HX.out.2.1.setCell (.inr (Nat.le_refl _)) _
end Go.Proofs.YtjdbgohfedjifaaDoor
