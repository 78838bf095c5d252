/- The reference's memory: New, Has, Load, Store, Cas, Add. -/
import Derived.Test.YtcempigpphmchaaMem1
namespace Go.Proofs.Ytcempigpphmchaa
open Go.RowKit Bosun

abbrev IsRef (w : World) (bm bw : Nat) (W : List Nat) (u : Nat) : Prop := MemAt 56 30 w bm bw W u

set_option maxHeartbeats 400000 in
theorem rnew_any (n : Int) (c : Nat) (hc : c = (min (max n 0) 524288).toNat) (w : World) :
    Calls Try.prog 5 #[.int .i64 n] w fun e w' => ∃ bm bw, e = .returned (.pointer (some ⟨bm, 0, none⟩)) ∧ IsRef w' bm bw (List.replicate c 0) 0 ∧ Chg [] w w' ∧ w.heap.size ≤ bm ∧ w.heap.size ≤ bw := by
  have hc2 : c ≤ 524288 := by omega
  have m1 : (c : Int) = if (524288 : Int) < max n 0 then 524288 else max n 0 := by split <;> omega
  have m0 : max n 0 = if n < 0 then 0 else n := by split <;> omega
  have M1 := Lib.hid m1
  have M0 := Lib.hid m0
  clear m1 m0 hc
  go_enter Try.func5, Try.ntmps5
  go_wp2_with (first
    | (refine wpList_max rfl (.tmp 3) _ _ _ rfl .i64 n 0 (max n 0) rfl rfl M0.out ?_)
    | (refine wpList_min rfl (.tmp 4) _ _ _ rfl .i64 (max n 0) 524288 c rfl rfl M1.out ?_)
    | (refine wpList_make1 rfl (.tmp 5) (.tmp 5) 22 rfl 30 (.int .u64 0) 8 Try.underlying22 infoU64 rfl .i64 .i64 c rfl rfl (by omega) (by omega) ?_; intro w1 H1 H2 H3))
  go_ret
  refine ⟨w.heap.size + 1, w.heap.size, rfl, ⟨?_, ?_, by omega, Small.zeros c, by omega, by simpa using hc2⟩, H2.alloc _, by omega, Nat.le_refl _⟩
  · rw [← H3]
    have h := Blk.new w1 #[.slice (some ⟨w.heap.size, 0, none⟩) c c, .int .u64 0] 56
    simpa using h
  · rw [← words_replicate]; exact H1.alloc _

set_option maxHeartbeats 400000 in
theorem rhas_any (bm bw : Nat) (W : List Nat) (u : Nat) (w : World) (h : IsRef w bm bw W u) (a : Int) :
    Calls Try.prog 26 #[.pointer (some ⟨bm, 0, none⟩), .int .i64 a] w fun e w' => e = .returned (.bool (hasA W a)) ∧ w = w' := by
  have c0 := h.c0
  by_cases h0 : 0 ≤ a
  · go_enter Try.func26, Try.ntmps26
    go_wp2
    go_ret
    refine ⟨ret_bool ?_, rfl⟩
    unfold hasA
    rw [decide_eq_true h0]
    rfl
  · have e1 : hasA W a = false := hasA_no (by omega)
    have hd : decide (0 ≤ a) = false := by simp; omega
    rw [e1]
    clear e1
    go_enter Try.func26, Try.ntmps26
    go_wp2
    go_ret
    exact ⟨rfl, rfl⟩

theorem hid_has {W : List Nat} {k : Nat} (h : k < W.length) : Hid (hasA W k = true) := hasA_yes h
theorem u64_wrap_one (u : Nat) : IntKind.u64.wrap ((u : Int) + 1) = ((u + 1) % 18446744073709551616 : Nat) := by
  rw [IntKind.wrap_u64]; rfl
theorem u64_wrap_add (u d : Nat) : IntKind.u64.wrap ((u : Int) + (d : Int)) = ((u + d) % 18446744073709551616 : Nat) := by
  rw [IntKind.wrap_u64]; rfl

set_option maxHeartbeats 800000 in
theorem rload_any (bm bw : Nat) (W : List Nat) (u : Nat) (w : World) (h : IsRef w bm bw W u) (a : Int) :
    Calls Try.prog 63 #[.pointer (some ⟨bm, 0, none⟩), .int .i64 a] w fun e w' => e = .returned (.int .u64 (getA W a : Nat)) ∧ IsRef w' bm bw W (tick W a u) ∧ Chg [bm] w w' := by
  by_cases hh : hasA W a = true
  · obtain ⟨h0, h1⟩ := hasA_iff.1 hh
    obtain ⟨k, rfl⟩ := Int.eq_ofNat_of_zero_le h0
    have hk : k < W.length := by omega
    have HH := Lib.hid hh
    have HG := Lib.hid (getA_yes hk)
    have HT := Lib.hid (tick_yes hk u)
    have c0 := h.c0
    have c1 := h.c1
    have z1 := h.head.frozen 1
    have ck := h.cw hk
    have hne := h.ne
    have hu := h.used
    obtain ⟨x, hx⟩ : ∃ x, x = W[k] := ⟨_, rfl⟩
    rw [← hx] at ck HG
    have hlen := h.len
    clear hh hx
    go_enter Try.func63, Try.ntmps63
    go_wp2_with (go_at_call 26; refine (rhas_any bm bw W u _ h _).mono ?_; rw [HH.out]; rintro e w1 ⟨rfl, rfl⟩)
    go_ret
    exact ⟨by rw [HG.out]; rfl, by rw [HT.out]; exact h.counted _ (Nat.mod_lt _ (by omega)) _ (by rw [u64_wrap_one]), (Chg.refl _ _).setCell (.inl (by simp)) _⟩
  · have hf : hasA W a = false := by simpa using hh
    have HF := Lib.hid hf
    have HG := Lib.hid (getA_no hf)
    have HT := Lib.hid (tick_no hf u)
    clear hh hf
    go_enter Try.func63, Try.ntmps63
    go_wp2_with (go_at_call 26; refine (rhas_any bm bw W u _ h _).mono ?_; rw [HF.out]; rintro e w1 ⟨rfl, rfl⟩)
    go_ret
    exact ⟨by rw [HG.out]; rfl, by rw [HT.out]; exact h, Chg.refl _ _⟩

set_option maxHeartbeats 800000 in
theorem rstore_any (bm bw : Nat) (W : List Nat) (u : Nat) (w : World) (h : IsRef w bm bw W u) (a : Int) (x : Nat) (hx : x < 18446744073709551616) :
    Calls Try.prog 7 #[.pointer (some ⟨bm, 0, none⟩), .int .i64 a, .int .u64 x] w fun e w' => e = .returned (.tuple #[]) ∧ IsRef w' bm bw (setA W a x) (tick W a u) ∧ Chg [bm, bw] w w' := by
  by_cases hh : hasA W a = true
  · obtain ⟨h0, h1⟩ := hasA_iff.1 hh
    obtain ⟨k, rfl⟩ := Int.eq_ofNat_of_zero_le h0
    have hk : k < W.length := by omega
    have HH := Lib.hid hh
    have HS := Lib.hid (setA_yes hk x)
    have HT := Lib.hid (tick_yes hk u)
    have c0 := h.c0
    have c1 := h.c1
    have z1 := h.head.frozen 1
    have ck := h.cw hk
    have zk := h.row.frozen k
    have hne := h.ne
    have hlen := h.len
    have hu := h.used
    clear hh
    go_enter Try.func7, Try.ntmps7
    go_wp2_with (go_at_call 26; refine (rhas_any bm bw W u _ h _).mono ?_; rw [HH.out]; rintro e w1 ⟨rfl, rfl⟩)
    go_end0
    exact ⟨rfl, by rw [HT.out, HS.out]; exact (h.counted _ (Nat.mod_lt _ (by omega)) _ (by rw [u64_wrap_one])).stored k x hk hx _ rfl, ((Chg.refl _ _).setCell (.inl (by simp)) _).setCell (.inl (by simp)) _⟩
  · have hf : hasA W a = false := by simpa using hh
    have HF := Lib.hid hf
    have HS := Lib.hid (setA_no hf x)
    have HT := Lib.hid (tick_no hf u)
    clear hh hf
    go_enter Try.func7, Try.ntmps7
    go_wp2_with (go_at_call 26; refine (rhas_any bm bw W u _ h _).mono ?_; rw [HF.out]; rintro e w1 ⟨rfl, rfl⟩)
    go_end0
    exact ⟨rfl, by rw [HT.out, HS.out]; exact h, Chg.refl _ _⟩

set_option maxHeartbeats 800000 in
theorem rcas_any (bm bw : Nat) (W : List Nat) (u : Nat) (w : World) (h : IsRef w bm bw W u) (a : Int) (old : Nat) (x : Nat) (hx : x < 18446744073709551616) :
    Calls Try.prog 65 #[.pointer (some ⟨bm, 0, none⟩), .int .i64 a, .int .u64 old, .int .u64 x] w fun e w' => e = .returned (.bool (wins W a old)) ∧ IsRef w' bm bw (if wins W a old then setA W a x else W) (tick W a u) ∧ Chg [bm, bw] w w' := by
  by_cases hh : hasA W a = true
  · obtain ⟨h0, h1⟩ := hasA_iff.1 hh
    obtain ⟨k, rfl⟩ := Int.eq_ofNat_of_zero_le h0
    have hk : k < W.length := by omega
    have HH := Lib.hid hh
    have HG := Lib.hid (getA_yes hk)
    have HS := Lib.hid (setA_yes hk x)
    have HT := Lib.hid (tick_yes hk u)
    have c0 := h.c0
    have c1 := h.c1
    have z1 := h.head.frozen 1
    have ck := h.cw hk
    have zk := h.row.frozen k
    have hne := h.ne
    have hlen := h.len
    have hu := h.used
    obtain ⟨y, hy⟩ : ∃ y, y = W[k] := ⟨_, rfl⟩
    rw [← hy] at ck HG
    by_cases hyo : y = old
    · have e1 : wins W k old = true := by unfold wins; rw [hh, HG.out, hyo]; simp
      have hne2 : ((y : Int) != (old : Int)) = false := by simp; omega
      rw [e1]
      simp only [if_true]
      clear hh hy e1 hyo
      go_enter Try.func65, Try.ntmps65
      go_wp2_with (go_at_call 26; refine (rhas_any bm bw W u _ h _).mono ?_; rw [HH.out]; rintro e w1 ⟨rfl, rfl⟩)
      go_ret
      exact ⟨rfl, by rw [HT.out, HS.out]; exact (h.counted _ (Nat.mod_lt _ (by omega)) _ (by rw [u64_wrap_one])).stored k x hk hx _ rfl, ((Chg.refl _ _).setCell (.inl (by simp)) _).setCell (.inl (by simp)) _⟩
    · have e1 : wins W k old = false := by unfold wins; rw [HG.out]; simp [hyo]
      have hne2 : ((y : Int) != (old : Int)) = true := by simp; omega
      rw [e1]
      simp only [Bool.false_eq_true, if_false]
      clear hh hy e1 hyo
      go_enter Try.func65, Try.ntmps65
      go_wp2_with (go_at_call 26; refine (rhas_any bm bw W u _ h _).mono ?_; rw [HH.out]; rintro e w1 ⟨rfl, rfl⟩)
      go_ret
      exact ⟨rfl, by rw [HT.out]; exact h.counted _ (Nat.mod_lt _ (by omega)) _ (by rw [u64_wrap_one]), (Chg.refl _ _).setCell (.inl (by simp)) _⟩
  · have hf : hasA W a = false := by simpa using hh
    have e1 : wins W a old = false := by unfold wins; rw [hf]; rfl
    rw [e1]
    simp only [Bool.false_eq_true, if_false]
    have HF := Lib.hid hf
    have HT := Lib.hid (tick_no hf u)
    clear hh hf e1
    go_enter Try.func65, Try.ntmps65
    go_wp2_with (go_at_call 26; refine (rhas_any bm bw W u _ h _).mono ?_; rw [HF.out]; rintro e w1 ⟨rfl, rfl⟩)
    go_ret
    exact ⟨rfl, by rw [HT.out]; exact h, Chg.refl _ _⟩
end Go.Proofs.Ytcempigpphmchaa
