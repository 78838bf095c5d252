/- The package mem: what each call answers, and what it makes of a memory. -/
import Derived.Test.YtjdbgohfedjifaaDoorProg
import Derived.Test.YtjdbgohfedjifaaDoorMemP
import Derived.KernelRfl
namespace Go.Proofs.YtjdbgohfedjifaaDoor
open Go.RowKit Bosun

abbrev IsMem (w : World) (bm bw : Nat) (W : List Nat) (u : Nat) : Prop := MemAt 68 30 w bm bw W u
theorem infoU64 : (Tryd.prog.info? 30).map (fun i => (i.zero, i.size, i.bytes)) = some (some (.int .u64 0), 1, 8) := by kernel_rfl

set_option maxHeartbeats 400000 in
theorem clamp_any (x lo hi : Int) (w : World) :
    Calls Tryd.prog 33 #[.int .i64 x, .int .i64 lo, .int .i64 hi] w fun e w' => e = .returned (.int .i64 (if x < lo then lo else min x hi)) ∧ w = w' := by
  by_cases h : x < lo
  · rw [if_pos h]
    go_enter Tryd.func33, Tryd.ntmps33
    go_wp2
    go_ret
    exact ⟨rfl, rfl⟩
  · rw [if_neg h]
    have m1 : min x hi = if hi < x then hi else x := by split <;> omega
    have M1 := Lib.hid m1
    clear m1
    go_enter Tryd.func33, Tryd.ntmps33
    go_wp2_with (refine wpList_min rfl (.tmp 11) _ _ _ rfl .i64 x hi (min x hi) rfl rfl M1.out ?_)
    go_ret
    exact ⟨rfl, rfl⟩

set_option maxHeartbeats 400000 in
theorem new_any (n : Int) (c : Nat) (hc : c = (min (max n 0) 524288).toNat) (w : World) :
    Calls Tryd.prog 7 #[.int .i64 n] w fun e w' => ∃ bm bw, e = .returned (.pointer (some ⟨bm, 0, none⟩)) ∧ IsMem w' bm bw (List.replicate c 0) 0 ∧ Chg [] w w' ∧ w.heap.size ≤ bm ∧ w.heap.size ≤ bw := by
  have hcl : (if n < 0 then (0 : Int) else min n 524288) = (c : Int) := by split <;> omega
  have HCL := Lib.hid hcl
  have hc2 : c ≤ 524288 := by omega
  clear hcl hc
  go_enter Tryd.func7, Tryd.ntmps7
  go_wp2_with (first
    | (go_at_call 33; refine (clamp_any n 0 524288 _).mono ?_; rw [HCL.out]; rintro e w1 ⟨rfl, rfl⟩)
    | (refine wpList_make1 rfl (.tmp 4) (.tmp 4) 42 rfl 30 (.int .u64 0) 8 Tryd.underlying42 infoU64 rfl .i64 .i64 c rfl rfl (by omega) (by omega) ?_; intro w1 H1 H2 H3))
  go_ret
  refine ⟨w.heap.size + 1, w.heap.size, rfl, ⟨?_, ?_, by omega, Small.zeros c, by omega, by simpa using hc2⟩, H2.alloc _, by omega, Nat.le_refl _⟩
  · rw [← H3]
    have h := Blk.new w1 #[.slice (some ⟨w.heap.size, 0, none⟩) c c, .int .u64 0] 68
    simpa using h
  · rw [← words_replicate]; exact H1.alloc _

set_option maxHeartbeats 400000 in
theorem len_any (bm bw : Nat) (W : List Nat) (u : Nat) (w : World) (h : IsMem w bm bw W u) :
    Calls Tryd.prog 85 #[.pointer (some ⟨bm, 0, none⟩)] w fun e w' => e = .returned (.int .i64 (W.length : Nat)) ∧ w = w' := by
  have c0 := h.c0
  go_enter Tryd.func85, Tryd.ntmps85
  go_wp2
  go_ret
  exact ⟨rfl, rfl⟩

set_option maxHeartbeats 400000 in
theorem mhas_any (bm bw : Nat) (W : List Nat) (u : Nat) (w : World) (h : IsMem w bm bw W u) (a : Int) :
    Calls Tryd.prog 86 #[.pointer (some ⟨bm, 0, none⟩), .int .i64 a] w fun e w' => e = .returned (.bool (hasA W a)) ∧ w = w' := by
  by_cases h0 : 0 ≤ a
  · go_enter Tryd.func86, Tryd.ntmps86
    go_wp2_with (go_at_call 85; refine (len_any bm bw W u _ h).mono ?_; rintro e w1 ⟨rfl, rfl⟩)
    go_ret
    refine ⟨ret_bool ?_, rfl⟩
    unfold hasA
    rw [decide_eq_true h0]
    rfl
  · have e1 : hasA W a = false := hasA_no (by omega)
    have hd : decide (0 ≤ a) = false := by simp; omega
    rw [e1]
    clear e1
    go_enter Tryd.func86, Tryd.ntmps86
    go_wp2_with (go_at_call 85; refine (len_any bm bw W u _ h).mono ?_; rintro e w1 ⟨rfl, rfl⟩)
    go_ret
    exact ⟨rfl, rfl⟩

set_option maxHeartbeats 400000 in
theorem count_deferred (bm bw : Nat) (W : List Nat) (u : Nat) (m : FrameMode) (w : World) (h : IsMem w bm bw W u) :
    CallsD Tryd.prog 87 #[.pointer (some ⟨bm, 0, none⟩)] m w fun e m' w' => m' = m ∧ (e = .returned (.tuple #[]) ∧ IsMem w' bm bw W ((u + 1) % 18446744073709551616) ∧ Chg [bm] w w') := by
  have c1 := h.c1
  have z1 := h.head.frozen 1
  have hu := h.used
  go_enter_d Tryd.func87, Tryd.ntmps87
  go_wp2
  go_end0
  refine ⟨rfl, h.counted _ (Nat.mod_lt _ (by omega)) _ ?_, (Chg.refl _ _).setCell (.inl (by simp)) _⟩
  rw [IntKind.wrap_u64]
  rfl

set_option maxHeartbeats 800000 in
theorem load_any (bm bw : Nat) (W : List Nat) (u : Nat) (w : World) (h : IsMem w bm bw W u) (a : Int) :
    Calls Tryd.prog 67 #[.pointer (some ⟨bm, 0, none⟩), .int .i64 a] w fun e w' => e = .returned (.int .u64 (getA W a : Nat)) ∧ IsMem w' bm bw W (tick W a u) ∧ Chg [bm] w w' := by
  by_cases hh : hasA W a = true
  · obtain ⟨h0, h1⟩ := hasA_iff.1 hh
    obtain ⟨k, rfl⟩ := Int.eq_ofNat_of_zero_le h0
    have hk : k < W.length := by omega
    have HH := Lib.hid hh
    have HG := Lib.hid (getA_yes hk)
    have HT := Lib.hid (tick_yes hk u)
    have c0 := h.c0
    have ck := h.cw hk
    obtain ⟨x, hx⟩ : ∃ x, x = W[k] := ⟨_, rfl⟩
    rw [← hx] at ck HG
    have hlen := h.len
    clear hh hx
    go_enter_defers Tryd.func67, Tryd.ntmps67
    go_wp2_with (go_at_call 86; refine (mhas_any bm bw W u _ h _).mono ?_; rw [HH.out]; rintro e w1 ⟨rfl, rfl⟩)
    refine leaves_cons (f := 87) (args := #[.pointer (some ⟨bm, 0, none⟩)]) (by simp) (by simp [go_sem]) ?_
    refine (count_deferred bm bw W u .returning _ h).mono ?_
    rintro e m' w'' ⟨rfl, rfl, g1, g2⟩
    exact ⟨_, results_tmp rfl _ _ _, by rw [HG.out]; rfl, by rw [HT.out]; exact g1, g2⟩
  · have hf : hasA W a = false := by simpa using hh
    have HF := Lib.hid hf
    have HG := Lib.hid (getA_no hf)
    have HT := Lib.hid (tick_no hf u)
    clear hh hf
    go_enter_defers Tryd.func67, Tryd.ntmps67
    go_wp2_with (go_at_call 86; refine (mhas_any bm bw W u _ h _).mono ?_; rw [HF.out]; rintro e w1 ⟨rfl, rfl⟩)
    exact ⟨_, results_tmp rfl _ _ _, by rw [HG.out]; rfl, by rw [HT.out]; exact h, Chg.refl _ _⟩

set_option maxHeartbeats 800000 in
theorem store_any (bm bw : Nat) (W : List Nat) (u : Nat) (w : World) (h : IsMem w bm bw W u) (a : Int) (x : Nat) (hx : x < 18446744073709551616) :
    Calls Tryd.prog 94 #[.pointer (some ⟨bm, 0, none⟩), .int .i64 a, .int .u64 x] w fun e w' => e = .returned (.tuple #[]) ∧ IsMem w' bm bw (setA W a x) (tick W a u) ∧ Chg [bm, bw] w w' := by
  by_cases hh : hasA W a = true
  · obtain ⟨h0, h1⟩ := hasA_iff.1 hh
    obtain ⟨k, rfl⟩ := Int.eq_ofNat_of_zero_le h0
    have hk : k < W.length := by omega
    have HH := Lib.hid hh
    have HS := Lib.hid (setA_yes hk x)
    have HT := Lib.hid (tick_yes hk u)
    have c0 := h.c0
    have ck := h.cw hk
    have zk := h.row.frozen k
    have hlen := h.len
    clear hh
    go_enter_defers Tryd.func94, Tryd.ntmps94
    go_wp2_with (go_at_call 86; refine (mhas_any bm bw W u _ h _).mono ?_; rw [HH.out]; rintro e w1 ⟨rfl, rfl⟩)
    refine leaves_cons (f := 87) (args := #[.pointer (some ⟨bm, 0, none⟩)]) (by simp) (by simp [go_sem]) ?_
    refine (count_deferred bm bw (W.set k x) u .returning _ (h.stored k x hk hx _ rfl)).mono ?_
    rintro e m' w'' ⟨rfl, rfl, g1, g2⟩
    exact ⟨_, results_none rfl _ _ _, rfl, by rw [HT.out, HS.out]; exact g1, ((Chg.refl _ _).setCell (.inl (by simp)) _).then g2 (fun g hg => .inl (by simp at hg; simp [hg]))⟩
  · have hf : hasA W a = false := by simpa using hh
    have HF := Lib.hid hf
    have HS := Lib.hid (setA_no hf x)
    have HT := Lib.hid (tick_no hf u)
    clear hh hf
    go_enter_defers Tryd.func94, Tryd.ntmps94
    go_wp2_with (go_at_call 86; refine (mhas_any bm bw W u _ h _).mono ?_; rw [HF.out]; rintro e w1 ⟨rfl, rfl⟩)
    exact ⟨_, results_none rfl _ _ _, rfl, by rw [HT.out, HS.out]; exact h, Chg.refl _ _⟩

/-- Does a Cas win? -/
def _root_.Bosun.wins (W : List Nat) (a : Int) (old : Nat) : Bool := hasA W a && decide (getA W a = old)

set_option maxHeartbeats 800000 in
theorem cas_any (bm bw : Nat) (W : List Nat) (u : Nat) (w : World) (h : IsMem w bm bw W u) (a : Int) (old : Nat) (x : Nat) (hx : x < 18446744073709551616) :
    Calls Tryd.prog 97 #[.pointer (some ⟨bm, 0, none⟩), .int .i64 a, .int .u64 old, .int .u64 x] w fun e w' => e = .returned (.bool (wins W a old)) ∧ IsMem w' bm bw (if wins W a old then setA W a x else W) (tick W a u) ∧ Chg [bm, bw] w w' := by
  by_cases hh : hasA W a = true
  · obtain ⟨h0, h1⟩ := hasA_iff.1 hh
    obtain ⟨k, rfl⟩ := Int.eq_ofNat_of_zero_le h0
    have hk : k < W.length := by omega
    have HH := Lib.hid hh
    have HG := Lib.hid (getA_yes hk)
    have HS := Lib.hid (setA_yes hk x)
    have HT := Lib.hid (tick_yes hk u)
    have c0 := h.c0
    have ck := h.cw hk
    have zk := h.row.frozen k
    have hlen := h.len
    obtain ⟨y, hy⟩ : ∃ y, y = W[k] := ⟨_, rfl⟩
    rw [← hy] at ck HG
    by_cases hyo : y = old
    · have e1 : wins W k old = true := by unfold wins; rw [hh, HG.out, hyo]; simp
      have hne : ((y : Int) != (old : Int)) = false := by simp; omega
      rw [e1]
      simp only [if_true]
      clear hh hy e1 hyo
      go_enter_defers Tryd.func97, Tryd.ntmps97
      go_wp2_with (go_at_call 86; refine (mhas_any bm bw W u _ h _).mono ?_; rw [HH.out]; rintro e w1 ⟨rfl, rfl⟩)
      refine leaves_cons (f := 87) (args := #[.pointer (some ⟨bm, 0, none⟩)]) (by simp) (by simp [go_sem]) ?_
      refine (count_deferred bm bw (W.set k x) u .returning _ (h.stored k x hk hx _ rfl)).mono ?_
      rintro e m' w'' ⟨rfl, rfl, g1, g2⟩
      exact ⟨_, results_tmp rfl _ _ _, rfl, by rw [HT.out, HS.out]; exact g1, ((Chg.refl _ _).setCell (.inl (by simp)) _).then g2 (fun g hg => .inl (by simp at hg; simp [hg]))⟩
    · have e1 : wins W k old = false := by unfold wins; rw [HG.out]; simp [hyo]
      have hne : ((y : Int) != (old : Int)) = true := by simp; omega
      rw [e1]
      simp only [Bool.false_eq_true, if_false]
      clear hh hy e1 hyo
      go_enter_defers Tryd.func97, Tryd.ntmps97
      go_wp2_with (go_at_call 86; refine (mhas_any bm bw W u _ h _).mono ?_; rw [HH.out]; rintro e w1 ⟨rfl, rfl⟩)
      refine leaves_cons (f := 87) (args := #[.pointer (some ⟨bm, 0, none⟩)]) (by simp) (by simp [go_sem]) ?_
      refine (count_deferred bm bw W u .returning _ h).mono ?_
      rintro e m' w'' ⟨rfl, rfl, g1, g2⟩
      exact ⟨_, results_tmp rfl _ _ _, rfl, by rw [HT.out]; exact g1, g2.mono (fun g hg => .inl (by simp at hg; simp [hg]))⟩
  · have hf : hasA W a = false := by simpa using hh
    have e1 : wins W a old = false := by unfold wins; rw [hf]; rfl
    rw [e1]
    simp only [Bool.false_eq_true, if_false]
    have HF := Lib.hid hf
    have HT := Lib.hid (tick_no hf u)
    clear hh hf e1
    go_enter_defers Tryd.func97, Tryd.ntmps97
    go_wp2_with (go_at_call 86; refine (mhas_any bm bw W u _ h _).mono ?_; rw [HF.out]; rintro e w1 ⟨rfl, rfl⟩)
    exact ⟨_, results_tmp rfl _ _ _, rfl, by rw [HT.out]; exact h, Chg.refl _ _⟩

end Go.Proofs.YtjdbgohfedjifaaDoor
