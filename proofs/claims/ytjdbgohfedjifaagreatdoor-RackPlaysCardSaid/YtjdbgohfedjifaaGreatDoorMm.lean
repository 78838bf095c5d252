/- A memory of words, plainly. No program in sight. -/
import Derived.Test.YtjdbgohfedjifaaGreatDoorBs
import Derived.Test.YtjdbgohfedjifaaGreatDoorProg
import Derived.KernelRfl
namespace Bosun
open Go

def hasA (W : List Nat) (a : Int) : Bool := decide (0 ≤ a) && decide (a < W.length)
def tick (W : List Nat) (a : Int) (u : Nat) : Nat := if hasA W a then (u + 1) % 18446744073709551616 else u
def getA (W : List Nat) (a : Int) : Nat := if hasA W a then W.getD a.toNat 0 else 0
def setA (W : List Nat) (a : Int) (x : Nat) : List Nat := if hasA W a then W.set a.toNat x else W
def Small (W : List Nat) : Prop := ∀ x ∈ W, x < 18446744073709551616

theorem hasA_yes {W : List Nat} {k : Nat} (h : k < W.length) : hasA W k = true := by simp [hasA, h]
theorem hasA_no {W : List Nat} {a : Int} (h : ¬ (0 ≤ a ∧ a < W.length)) : hasA W a = false := by
  unfold hasA
  by_cases h0 : 0 ≤ a
  · have : decide (a < W.length) = false := by simp; omega
    rw [this, Bool.and_false]
  · have : decide (0 ≤ a) = false := by simp; omega
    rw [this, Bool.false_and]
theorem hasA_iff {W : List Nat} {a : Int} : hasA W a = true ↔ 0 ≤ a ∧ a < W.length := by simp [hasA]
theorem getA_yes {W : List Nat} {k : Nat} (h : k < W.length) : getA W k = W[k] := by
  unfold getA; rw [if_pos (hasA_yes h)]; simp [h]
theorem getA_no {W : List Nat} {a : Int} (h : hasA W a = false) : getA W a = 0 := by unfold getA; rw [h]; rfl
theorem setA_yes {W : List Nat} {k : Nat} (h : k < W.length) (x : Nat) : setA W k x = W.set k x := by
  unfold setA; rw [if_pos (hasA_yes h)]; simp
theorem setA_no {W : List Nat} {a : Int} (h : hasA W a = false) (x : Nat) : setA W a x = W := by unfold setA; rw [h]; rfl
theorem tick_yes {W : List Nat} {k : Nat} (h : k < W.length) (u : Nat) : tick W k u = (u + 1) % 18446744073709551616 := by
  unfold tick; rw [if_pos (hasA_yes h)]
theorem tick_no {W : List Nat} {a : Int} (h : hasA W a = false) (u : Nat) : tick W a u = u := by unfold tick; rw [h]; rfl
theorem setA_length (W : List Nat) (a : Int) (x : Nat) : (setA W a x).length = W.length := by unfold setA; split <;> simp
theorem tick_lt {W : List Nat} {a : Int} {u : Nat} (hu : u < 18446744073709551616) : tick W a u < 18446744073709551616 := by
  unfold tick; split
  · exact Nat.mod_lt _ (by omega)
  · exact hu
theorem Small.get {W : List Nat} (h : Small W) {k : Nat} (hk : k < W.length) : W[k] < 18446744073709551616 := h _ (List.getElem_mem hk)
theorem Small.getA {W : List Nat} (h : Small W) (a : Int) : getA W a < 18446744073709551616 := by
  by_cases hh : hasA W a = true
  · obtain ⟨h0, h1⟩ := hasA_iff.1 hh
    obtain ⟨k, rfl⟩ := Int.eq_ofNat_of_zero_le h0
    rw [getA_yes (by omega)]; exact h.get _
  · rw [getA_no (by simpa using hh)]; omega
theorem Small.setA {W : List Nat} (h : Small W) (a : Int) {x : Nat} (hx : x < 18446744073709551616) : Small (setA W a x) := by
  unfold Bosun.setA
  split
  · intro y hy
    rcases List.mem_or_eq_of_mem_set hy with h1 | h1
    · exact h _ h1
    · rw [h1]; exact hx
  · exact h
theorem Small.zeros (n : Nat) : Small (List.replicate n 0) := by
  intro x hx; rw [List.eq_of_mem_replicate hx]; omega
theorem words_set (W : List Nat) (k x : Nat) : (words W).toArray.setIfInBounds k (.int .u64 (x : Nat)) = (words (W.set k x)).toArray := by
  simp [words, List.map_set]
theorem words_replicate (n : Nat) : Array.replicate n (Value.int .u64 0) = (words (List.replicate n 0)).toArray := by
  simp [words]

/-- A memory at bm, its words at bw. T: its type; E: that of a word. -/
structure MemAt (T E : TypeId) (w : World) (bm bw : Nat) (W : List Nat) (u : Nat) : Prop where
  head : Blk w bm #[.slice (some ⟨bw, 0, none⟩) W.length W.length, .int .u64 (u : Nat)] T
  row : Blk w bw (words W).toArray E
  ne : bm ≠ bw
  small : Small W
  used : u < 18446744073709551616
  len : W.length ≤ 524288

section
variable {T E : TypeId} {w w1 : World} {bm bw : Nat} {W : List Nat} {u : Nat}
theorem MemAt.chg {S : List Nat} (h : MemAt T E w bm bw W u) (hc : Chg S w w1) (h1 : bm ∉ S) (h2 : bw ∉ S) : MemAt T E w1 bm bw W u :=
  ⟨h.head.chg hc h1, h.row.chg hc h2, h.ne, h.small, h.used, h.len⟩
theorem MemAt.keep (h : MemAt T E w bm bw W u) (hc : Chg [] w w1) : MemAt T E w1 bm bw W u := h.chg hc (by simp) (by simp)
theorem MemAt.alloc (h : MemAt T E w bm bw W u) (o : Obj) : MemAt T E (w.alloc o) bm bw W u := h.keep ((Chg.refl _ _).alloc o)
theorem MemAt.drew (h : MemAt T E w bm bw W u) : MemAt T E w.drew bm bw W u := h.keep (Chg.refl _ _).drew
theorem MemAt.c0 (h : MemAt T E w bm bw W u) : w.cell? ⟨bm, 0, none⟩ = some (.slice (some ⟨bw, 0, none⟩) W.length W.length) := by rw [h.head.cell]; rfl
theorem MemAt.c1 (h : MemAt T E w bm bw W u) : w.cell? ⟨bm, 1, none⟩ = some (.int .u64 (u : Nat)) := by rw [h.head.cell]; rfl
theorem MemAt.cw (h : MemAt T E w bm bw W u) {k : Nat} (hk : k < W.length) : w.cell? ⟨bw, k, none⟩ = some (.int .u64 (W[k] : Nat)) := by
  rw [h.row.cell, List.getElem?_toArray, words_get W hk]
/-- Behind a count. -/
theorem MemAt.counted (h : MemAt T E w bm bw W u) (u' : Nat) (hu : u' < 18446744073709551616) (v : Value) (hv : v = .int .u64 (u' : Nat)) : MemAt T E (w.setCell ⟨bm, 1, none⟩ v) bm bw W u' := by
  subst hv
  exact ⟨h.head.setCell 1 _, h.row.setCell_other _ (fun e => h.ne (by simpa using e.symm)), h.ne, h.small, hu, h.len⟩
/-- Behind a store of a word. -/
theorem MemAt.stored (h : MemAt T E w bm bw W u) (k x : Nat) (hk : k < W.length) (hx : x < 18446744073709551616) (v : Value) (hv : v = .int .u64 (x : Nat)) : MemAt T E (w.setCell ⟨bw, k, none⟩ v) bm bw (W.set k x) u := by
  subst hv
  refine ⟨?_, ?_, h.ne, ?_, h.used, by rw [List.length_set]; exact h.len⟩
  · rw [List.length_set]; exact h.head.setCell_other _ (fun e => h.ne (by simpa using e))
  · rw [← words_set]; exact h.row.setCell k _
  · rw [← setA_yes hk]; exact h.small.setA _ hx
end
end Bosun

/- The package mem: what each call answers, and what it makes of a memory. -/
namespace Go.Proofs.YtjdbgohfedjifaaGreatDoor
open Go.RowKit Bosun

abbrev IsMem (w : World) (bm bw : Nat) (W : List Nat) (u : Nat) : Prop := MemAt 68 35 w bm bw W u
theorem infoU64 : (Tryz.prog.info? 35).map (fun i => (i.zero, i.size, i.bytes)) = some (some (.int .u64 0), 1, 8) := by kernel_rfl

set_option maxHeartbeats 400000 in
theorem clamp_any (x lo hi : Int) (w : World) :
    Calls Tryz.prog 25 #[.int .i64 x, .int .i64 lo, .int .i64 hi] w fun e w' => e = .returned (.int .i64 (if x < lo then lo else min x hi)) ∧ w = w' := by
  by_cases h : x < lo
  · rw [if_pos h]
    go_enter Tryz.func25, Tryz.ntmps25
    go_wp2
    go_ret
    exact ⟨rfl, rfl⟩
  · rw [if_neg h]
    have m1 : min x hi = if hi < x then hi else x := by split <;> omega
    have M1 := Lib.hid m1
    clear m1
    go_enter Tryz.func25, Tryz.ntmps25
    go_wp2_with (refine wpList_min rfl (.tmp 11) _ _ _ rfl .i64 x hi (min x hi) rfl rfl M1.out ?_)
    go_ret
    exact ⟨rfl, rfl⟩

set_option maxHeartbeats 400000 in
theorem new_any (n : Int) (c : Nat) (hc : c = (min (max n 0) 524288).toNat) (w : World) :
    Calls Tryz.prog 5 #[.int .i64 n] w fun e w' => ∃ bm bw, e = .returned (.pointer (some ⟨bm, 0, none⟩)) ∧ IsMem w' bm bw (List.replicate c 0) 0 ∧ Chg [] w w' ∧ w.heap.size ≤ bm ∧ w.heap.size ≤ bw := by
  have hcl : (if n < 0 then (0 : Int) else min n 524288) = (c : Int) := by split <;> omega
  have HCL := Lib.hid hcl
  have hc2 : c ≤ 524288 := by omega
  clear hcl hc
  go_enter Tryz.func5, Tryz.ntmps5
  go_wp2_with (first
    | (go_at_call 25; refine (clamp_any n 0 524288 _).mono ?_; rw [HCL.out]; rintro e w1 ⟨rfl, rfl⟩)
    | (refine wpList_make1 rfl (.tmp 4) (.tmp 4) 36 rfl 35 (.int .u64 0) 8 Tryz.underlying36 infoU64 rfl .i64 .i64 c rfl rfl (by omega) (by omega) ?_; intro w1 H1 H2 H3))
  go_ret
  refine ⟨w.heap.size + 1, w.heap.size, rfl, ⟨?_, ?_, by omega, Small.zeros c, by omega, by simpa using hc2⟩, H2.alloc _, by omega, Nat.le_refl _⟩
  · rw [← H3]
    have h := Blk.new w1 #[.slice (some ⟨w.heap.size, 0, none⟩) c c, .int .u64 0] 68
    simpa using h
  · rw [← words_replicate]; exact H1.alloc _

set_option maxHeartbeats 400000 in
theorem len_any (bm bw : Nat) (W : List Nat) (u : Nat) (w : World) (h : IsMem w bm bw W u) :
    Calls Tryz.prog 49 #[.pointer (some ⟨bm, 0, none⟩)] w fun e w' => e = .returned (.int .i64 (W.length : Nat)) ∧ w = w' := by
  have c0 := h.c0
  go_enter Tryz.func49, Tryz.ntmps49
  go_wp2
  go_ret
  exact ⟨rfl, rfl⟩

set_option maxHeartbeats 400000 in
theorem mhas_any (bm bw : Nat) (W : List Nat) (u : Nat) (w : World) (h : IsMem w bm bw W u) (a : Int) :
    Calls Tryz.prog 109 #[.pointer (some ⟨bm, 0, none⟩), .int .i64 a] w fun e w' => e = .returned (.bool (hasA W a)) ∧ w = w' := by
  by_cases h0 : 0 ≤ a
  · go_enter Tryz.func109, Tryz.ntmps109
    go_wp2_with (go_at_call 49; refine (len_any bm bw W u _ h).mono ?_; rintro e w1 ⟨rfl, rfl⟩)
    go_ret
    refine ⟨ret_bool ?_, rfl⟩
    unfold hasA
    rw [decide_eq_true h0]
    rfl
  · have e1 : hasA W a = false := hasA_no (by omega)
    have hd : decide (0 ≤ a) = false := by simp; omega
    rw [e1]
    clear e1
    go_enter Tryz.func109, Tryz.ntmps109
    go_wp2_with (go_at_call 49; refine (len_any bm bw W u _ h).mono ?_; rintro e w1 ⟨rfl, rfl⟩)
    go_ret
    exact ⟨rfl, rfl⟩

set_option maxHeartbeats 400000 in
theorem count_deferred (bm bw : Nat) (W : List Nat) (u : Nat) (m : FrameMode) (w : World) (h : IsMem w bm bw W u) :
    CallsD Tryz.prog 110 #[.pointer (some ⟨bm, 0, none⟩)] m w fun e m' w' => m' = m ∧ (e = .returned (.tuple #[]) ∧ IsMem w' bm bw W ((u + 1) % 18446744073709551616) ∧ Chg [bm] w w') := by
  have c1 := h.c1
  have z1 := h.head.frozen 1
  have hu := h.used
  go_enter_d Tryz.func110, Tryz.ntmps110
  go_wp2
  go_end0
  refine ⟨rfl, h.counted _ (Nat.mod_lt _ (by omega)) _ ?_, (Chg.refl _ _).setCell (.inl (by simp)) _⟩
  rw [IntKind.wrap_u64]
  rfl

set_option maxHeartbeats 800000 in
theorem load_any (bm bw : Nat) (W : List Nat) (u : Nat) (w : World) (h : IsMem w bm bw W u) (a : Int) :
    Calls Tryz.prog 90 #[.pointer (some ⟨bm, 0, none⟩), .int .i64 a] w fun e w' => e = .returned (.int .u64 (getA W a : Nat)) ∧ IsMem w' bm bw W (tick W a u) ∧ Chg [bm] w w' := by
  by_cases hh : hasA W a = true
  · obtain ⟨h0, h1⟩ := hasA_iff.1 hh
    obtain ⟨k, rfl⟩ := Int.eq_ofNat_of_zero_le h0
    have hk : k < W.length := by omega
    have HH := Lib.hid hh
    have HG := Lib.hid (getA_yes hk)
    have HT := Lib.hid (tick_yes hk u)
    have c0 := h.c0
    have ck := h.cw hk
    obtain ⟨x, hx⟩ : ∃ x, x = W[k] := ⟨_, rfl⟩
    rw [← hx] at ck HG
    have hlen := h.len
    clear hh hx
    go_enter_defers Tryz.func90, Tryz.ntmps90
    go_wp2_with (go_at_call 109; refine (mhas_any bm bw W u _ h _).mono ?_; rw [HH.out]; rintro e w1 ⟨rfl, rfl⟩)
    refine leaves_cons (f := 110) (args := #[.pointer (some ⟨bm, 0, none⟩)]) (by simp) (by simp [go_sem]) ?_
    refine (count_deferred bm bw W u .returning _ h).mono ?_
    rintro e m' w'' ⟨rfl, rfl, g1, g2⟩
    exact ⟨_, results_tmp rfl _ _ _, by rw [HG.out]; rfl, by rw [HT.out]; exact g1, g2⟩
  · have hf : hasA W a = false := by simpa using hh
    have HF := Lib.hid hf
    have HG := Lib.hid (getA_no hf)
    have HT := Lib.hid (tick_no hf u)
    clear hh hf
    go_enter_defers Tryz.func90, Tryz.ntmps90
    go_wp2_with (go_at_call 109; refine (mhas_any bm bw W u _ h _).mono ?_; rw [HF.out]; rintro e w1 ⟨rfl, rfl⟩)
    exact ⟨_, results_tmp rfl _ _ _, by rw [HG.out]; rfl, by rw [HT.out]; exact h, Chg.refl _ _⟩

set_option maxHeartbeats 800000 in
theorem store_any (bm bw : Nat) (W : List Nat) (u : Nat) (w : World) (h : IsMem w bm bw W u) (a : Int) (x : Nat) (hx : x < 18446744073709551616) :
    Calls Tryz.prog 128 #[.pointer (some ⟨bm, 0, none⟩), .int .i64 a, .int .u64 x] w fun e w' => e = .returned (.tuple #[]) ∧ IsMem w' bm bw (setA W a x) (tick W a u) ∧ Chg [bm, bw] w w' := by
  by_cases hh : hasA W a = true
  · obtain ⟨h0, h1⟩ := hasA_iff.1 hh
    obtain ⟨k, rfl⟩ := Int.eq_ofNat_of_zero_le h0
    have hk : k < W.length := by omega
    have HH := Lib.hid hh
    have HS := Lib.hid (setA_yes hk x)
    have HT := Lib.hid (tick_yes hk u)
    have c0 := h.c0
    have ck := h.cw hk
    have zk := h.row.frozen k
    have hlen := h.len
    clear hh
    go_enter_defers Tryz.func128, Tryz.ntmps128
    go_wp2_with (go_at_call 109; refine (mhas_any bm bw W u _ h _).mono ?_; rw [HH.out]; rintro e w1 ⟨rfl, rfl⟩)
    refine leaves_cons (f := 110) (args := #[.pointer (some ⟨bm, 0, none⟩)]) (by simp) (by simp [go_sem]) ?_
    refine (count_deferred bm bw (W.set k x) u .returning _ (h.stored k x hk hx _ rfl)).mono ?_
    rintro e m' w'' ⟨rfl, rfl, g1, g2⟩
    exact ⟨_, results_none rfl _ _ _, rfl, by rw [HT.out, HS.out]; exact g1, ((Chg.refl _ _).setCell (.inl (by simp)) _).then g2 (fun g hg => .inl (by simp at hg; simp [hg]))⟩
  · have hf : hasA W a = false := by simpa using hh
    have HF := Lib.hid hf
    have HS := Lib.hid (setA_no hf x)
    have HT := Lib.hid (tick_no hf u)
    clear hh hf
    go_enter_defers Tryz.func128, Tryz.ntmps128
    go_wp2_with (go_at_call 109; refine (mhas_any bm bw W u _ h _).mono ?_; rw [HF.out]; rintro e w1 ⟨rfl, rfl⟩)
    exact ⟨_, results_none rfl _ _ _, rfl, by rw [HT.out, HS.out]; exact h, Chg.refl _ _⟩

/-- Does a Cas win? -/
def _root_.Bosun.wins (W : List Nat) (a : Int) (old : Nat) : Bool := hasA W a && decide (getA W a = old)

set_option maxHeartbeats 800000 in
theorem cas_any (bm bw : Nat) (W : List Nat) (u : Nat) (w : World) (h : IsMem w bm bw W u) (a : Int) (old : Nat) (x : Nat) (hx : x < 18446744073709551616) :
    Calls Tryz.prog 131 #[.pointer (some ⟨bm, 0, none⟩), .int .i64 a, .int .u64 old, .int .u64 x] w fun e w' => e = .returned (.bool (wins W a old)) ∧ IsMem w' bm bw (if wins W a old then setA W a x else W) (tick W a u) ∧ Chg [bm, bw] w w' := by
  by_cases hh : hasA W a = true
  · obtain ⟨h0, h1⟩ := hasA_iff.1 hh
    obtain ⟨k, rfl⟩ := Int.eq_ofNat_of_zero_le h0
    have hk : k < W.length := by omega
    have HH := Lib.hid hh
    have HG := Lib.hid (getA_yes hk)
    have HS := Lib.hid (setA_yes hk x)
    have HT := Lib.hid (tick_yes hk u)
    have c0 := h.c0
    have ck := h.cw hk
    have zk := h.row.frozen k
    have hlen := h.len
    obtain ⟨y, hy⟩ : ∃ y, y = W[k] := ⟨_, rfl⟩
    rw [← hy] at ck HG
    by_cases hyo : y = old
    · have e1 : wins W k old = true := by unfold wins; rw [hh, HG.out, hyo]; simp
      have hne : ((y : Int) != (old : Int)) = false := by simp; omega
      rw [e1]
      simp only [if_true]
      clear hh hy e1 hyo
      go_enter_defers Tryz.func131, Tryz.ntmps131
      go_wp2_with (go_at_call 109; refine (mhas_any bm bw W u _ h _).mono ?_; rw [HH.out]; rintro e w1 ⟨rfl, rfl⟩)
      refine leaves_cons (f := 110) (args := #[.pointer (some ⟨bm, 0, none⟩)]) (by simp) (by simp [go_sem]) ?_
      refine (count_deferred bm bw (W.set k x) u .returning _ (h.stored k x hk hx _ rfl)).mono ?_
      rintro e m' w'' ⟨rfl, rfl, g1, g2⟩
      exact ⟨_, results_tmp rfl _ _ _, rfl, by rw [HT.out, HS.out]; exact g1, ((Chg.refl _ _).setCell (.inl (by simp)) _).then g2 (fun g hg => .inl (by simp at hg; simp [hg]))⟩
    · have e1 : wins W k old = false := by unfold wins; rw [HG.out]; simp [hyo]
      have hne : ((y : Int) != (old : Int)) = true := by simp; omega
      rw [e1]
      simp only [Bool.false_eq_true, if_false]
      clear hh hy e1 hyo
      go_enter_defers Tryz.func131, Tryz.ntmps131
      go_wp2_with (go_at_call 109; refine (mhas_any bm bw W u _ h _).mono ?_; rw [HH.out]; rintro e w1 ⟨rfl, rfl⟩)
      refine leaves_cons (f := 110) (args := #[.pointer (some ⟨bm, 0, none⟩)]) (by simp) (by simp [go_sem]) ?_
      refine (count_deferred bm bw W u .returning _ h).mono ?_
      rintro e m' w'' ⟨rfl, rfl, g1, g2⟩
      exact ⟨_, results_tmp rfl _ _ _, rfl, by rw [HT.out]; exact g1, g2.mono (fun g hg => .inl (by simp at hg; simp [hg]))⟩
  · have hf : hasA W a = false := by simpa using hh
    have e1 : wins W a old = false := by unfold wins; rw [hf]; rfl
    rw [e1]
    simp only [Bool.false_eq_true, if_false]
    have HF := Lib.hid hf
    have HT := Lib.hid (tick_no hf u)
    clear hh hf e1
    go_enter_defers Tryz.func131, Tryz.ntmps131
    go_wp2_with (go_at_call 109; refine (mhas_any bm bw W u _ h _).mono ?_; rw [HF.out]; rintro e w1 ⟨rfl, rfl⟩)
    exact ⟨_, results_tmp rfl _ _ _, rfl, by rw [HT.out]; exact h, Chg.refl _ _⟩

set_option maxHeartbeats 400000 in
theorem used_any (bm bw : Nat) (W : List Nat) (u : Nat) (w : World) (h : IsMem w bm bw W u) :
    Calls Tryz.prog 17 #[.pointer (some ⟨bm, 0, none⟩)] w fun e w' => e = .returned (.int .u64 (u : Nat)) ∧ w = w' := by
  have c1 := h.c1
  go_enter Tryz.func17, Tryz.ntmps17
  go_wp2
  go_ret
  exact ⟨rfl, rfl⟩
end Go.Proofs.YtjdbgohfedjifaaGreatDoor

/- The reference's memory: New, Has, Load, Store, Cas, Add. -/
namespace Go.Proofs.YtjdbgohfedjifaaGreatDoor
open Go.RowKit Bosun

abbrev IsRef (w : World) (bm bw : Nat) (W : List Nat) (u : Nat) : Prop := MemAt 59 35 w bm bw W u

set_option maxHeartbeats 400000 in
theorem rnew_any (n : Int) (c : Nat) (hc : c = (min (max n 0) 524288).toNat) (w : World) :
    Calls Tryz.prog 6 #[.int .i64 n] w fun e w' => ∃ bm bw, e = .returned (.pointer (some ⟨bm, 0, none⟩)) ∧ IsRef w' bm bw (List.replicate c 0) 0 ∧ Chg [] w w' ∧ w.heap.size ≤ bm ∧ w.heap.size ≤ bw := by
  have hc2 : c ≤ 524288 := by omega
  have m1 : (c : Int) = if (524288 : Int) < max n 0 then 524288 else max n 0 := by split <;> omega
  have m0 : max n 0 = if n < 0 then 0 else n := by split <;> omega
  have M1 := Lib.hid m1
  have M0 := Lib.hid m0
  clear m1 m0 hc
  go_enter Tryz.func6, Tryz.ntmps6
  go_wp2_with (first
    | (refine wpList_max rfl (.tmp 3) _ _ _ rfl .i64 n 0 (max n 0) rfl rfl M0.out ?_)
    | (refine wpList_min rfl (.tmp 4) _ _ _ rfl .i64 (max n 0) 524288 c rfl rfl M1.out ?_)
    | (refine wpList_make1 rfl (.tmp 5) (.tmp 5) 36 rfl 35 (.int .u64 0) 8 Tryz.underlying36 infoU64 rfl .i64 .i64 c rfl rfl (by omega) (by omega) ?_; intro w1 H1 H2 H3))
  go_ret
  refine ⟨w.heap.size + 1, w.heap.size, rfl, ⟨?_, ?_, by omega, Small.zeros c, by omega, by simpa using hc2⟩, H2.alloc _, by omega, Nat.le_refl _⟩
  · rw [← H3]
    have h := Blk.new w1 #[.slice (some ⟨w.heap.size, 0, none⟩) c c, .int .u64 0] 59
    simpa using h
  · rw [← words_replicate]; exact H1.alloc _

set_option maxHeartbeats 400000 in
theorem rhas_any (bm bw : Nat) (W : List Nat) (u : Nat) (w : World) (h : IsRef w bm bw W u) (a : Int) :
    Calls Tryz.prog 104 #[.pointer (some ⟨bm, 0, none⟩), .int .i64 a] w fun e w' => e = .returned (.bool (hasA W a)) ∧ w = w' := by
  have c0 := h.c0
  by_cases h0 : 0 ≤ a
  · go_enter Tryz.func104, Tryz.ntmps104
    go_wp2
    go_ret
    refine ⟨ret_bool ?_, rfl⟩
    unfold hasA
    rw [decide_eq_true h0]
    rfl
  · have e1 : hasA W a = false := hasA_no (by omega)
    have hd : decide (0 ≤ a) = false := by simp; omega
    rw [e1]
    clear e1
    go_enter Tryz.func104, Tryz.ntmps104
    go_wp2
    go_ret
    exact ⟨rfl, rfl⟩

theorem hid_has {W : List Nat} {k : Nat} (h : k < W.length) : Hid (hasA W k = true) := hasA_yes h
theorem u64_wrap_one (u : Nat) : IntKind.u64.wrap ((u : Int) + 1) = ((u + 1) % 18446744073709551616 : Nat) := by
  rw [IntKind.wrap_u64]; rfl
theorem u64_wrap_add (u d : Nat) : IntKind.u64.wrap ((u : Int) + (d : Int)) = ((u + d) % 18446744073709551616 : Nat) := by
  rw [IntKind.wrap_u64]; rfl

set_option maxHeartbeats 800000 in
theorem rload_any (bm bw : Nat) (W : List Nat) (u : Nat) (w : World) (h : IsRef w bm bw W u) (a : Int) :
    Calls Tryz.prog 72 #[.pointer (some ⟨bm, 0, none⟩), .int .i64 a] w fun e w' => e = .returned (.int .u64 (getA W a : Nat)) ∧ IsRef w' bm bw W (tick W a u) ∧ Chg [bm] w w' := by
  by_cases hh : hasA W a = true
  · obtain ⟨h0, h1⟩ := hasA_iff.1 hh
    obtain ⟨k, rfl⟩ := Int.eq_ofNat_of_zero_le h0
    have hk : k < W.length := by omega
    have HH := Lib.hid hh
    have HG := Lib.hid (getA_yes hk)
    have HT := Lib.hid (tick_yes hk u)
    have c0 := h.c0
    have c1 := h.c1
    have z1 := h.head.frozen 1
    have ck := h.cw hk
    have hne := h.ne
    have hu := h.used
    obtain ⟨x, hx⟩ : ∃ x, x = W[k] := ⟨_, rfl⟩
    rw [← hx] at ck HG
    have hlen := h.len
    clear hh hx
    go_enter Tryz.func72, Tryz.ntmps72
    go_wp2_with (go_at_call 104; refine (rhas_any bm bw W u _ h _).mono ?_; rw [HH.out]; rintro e w1 ⟨rfl, rfl⟩)
    go_ret
    exact ⟨by rw [HG.out]; rfl, by rw [HT.out]; exact h.counted _ (Nat.mod_lt _ (by omega)) _ (by rw [u64_wrap_one]), (Chg.refl _ _).setCell (.inl (by simp)) _⟩
  · have hf : hasA W a = false := by simpa using hh
    have HF := Lib.hid hf
    have HG := Lib.hid (getA_no hf)
    have HT := Lib.hid (tick_no hf u)
    clear hh hf
    go_enter Tryz.func72, Tryz.ntmps72
    go_wp2_with (go_at_call 104; refine (rhas_any bm bw W u _ h _).mono ?_; rw [HF.out]; rintro e w1 ⟨rfl, rfl⟩)
    go_ret
    exact ⟨by rw [HG.out]; rfl, by rw [HT.out]; exact h, Chg.refl _ _⟩

set_option maxHeartbeats 800000 in
theorem rstore_any (bm bw : Nat) (W : List Nat) (u : Nat) (w : World) (h : IsRef w bm bw W u) (a : Int) (x : Nat) (hx : x < 18446744073709551616) :
    Calls Tryz.prog 69 #[.pointer (some ⟨bm, 0, none⟩), .int .i64 a, .int .u64 x] w fun e w' => e = .returned (.tuple #[]) ∧ IsRef w' bm bw (setA W a x) (tick W a u) ∧ Chg [bm, bw] w w' := by
  by_cases hh : hasA W a = true
  · obtain ⟨h0, h1⟩ := hasA_iff.1 hh
    obtain ⟨k, rfl⟩ := Int.eq_ofNat_of_zero_le h0
    have hk : k < W.length := by omega
    have HH := Lib.hid hh
    have HS := Lib.hid (setA_yes hk x)
    have HT := Lib.hid (tick_yes hk u)
    have c0 := h.c0
    have c1 := h.c1
    have z1 := h.head.frozen 1
    have ck := h.cw hk
    have zk := h.row.frozen k
    have hne := h.ne
    have hlen := h.len
    have hu := h.used
    clear hh
    go_enter Tryz.func69, Tryz.ntmps69
    go_wp2_with (go_at_call 104; refine (rhas_any bm bw W u _ h _).mono ?_; rw [HH.out]; rintro e w1 ⟨rfl, rfl⟩)
    go_end0
    exact ⟨rfl, by rw [HT.out, HS.out]; exact (h.counted _ (Nat.mod_lt _ (by omega)) _ (by rw [u64_wrap_one])).stored k x hk hx _ rfl, ((Chg.refl _ _).setCell (.inl (by simp)) _).setCell (.inl (by simp)) _⟩
  · have hf : hasA W a = false := by simpa using hh
    have HF := Lib.hid hf
    have HS := Lib.hid (setA_no hf x)
    have HT := Lib.hid (tick_no hf u)
    clear hh hf
    go_enter Tryz.func69, Tryz.ntmps69
    go_wp2_with (go_at_call 104; refine (rhas_any bm bw W u _ h _).mono ?_; rw [HF.out]; rintro e w1 ⟨rfl, rfl⟩)
    go_end0
    exact ⟨rfl, by rw [HT.out, HS.out]; exact h, Chg.refl _ _⟩

set_option maxHeartbeats 800000 in
theorem rcas_any (bm bw : Nat) (W : List Nat) (u : Nat) (w : World) (h : IsRef w bm bw W u) (a : Int) (old : Nat) (x : Nat) (hx : x < 18446744073709551616) :
    Calls Tryz.prog 124 #[.pointer (some ⟨bm, 0, none⟩), .int .i64 a, .int .u64 old, .int .u64 x] w fun e w' => e = .returned (.bool (wins W a old)) ∧ IsRef w' bm bw (if wins W a old then setA W a x else W) (tick W a u) ∧ Chg [bm, bw] w w' := by
  by_cases hh : hasA W a = true
  · obtain ⟨h0, h1⟩ := hasA_iff.1 hh
    obtain ⟨k, rfl⟩ := Int.eq_ofNat_of_zero_le h0
    have hk : k < W.length := by omega
    have HH := Lib.hid hh
    have HG := Lib.hid (getA_yes hk)
    have HS := Lib.hid (setA_yes hk x)
    have HT := Lib.hid (tick_yes hk u)
    have c0 := h.c0
    have c1 := h.c1
    have z1 := h.head.frozen 1
    have ck := h.cw hk
    have zk := h.row.frozen k
    have hne := h.ne
    have hlen := h.len
    have hu := h.used
    obtain ⟨y, hy⟩ : ∃ y, y = W[k] := ⟨_, rfl⟩
    rw [← hy] at ck HG
    by_cases hyo : y = old
    · have e1 : wins W k old = true := by unfold wins; rw [hh, HG.out, hyo]; simp
      have hne2 : ((y : Int) != (old : Int)) = false := by simp; omega
      rw [e1]
      simp only [if_true]
      clear hh hy e1 hyo
      go_enter Tryz.func124, Tryz.ntmps124
      go_wp2_with (go_at_call 104; refine (rhas_any bm bw W u _ h _).mono ?_; rw [HH.out]; rintro e w1 ⟨rfl, rfl⟩)
      go_ret
      exact ⟨rfl, by rw [HT.out, HS.out]; exact (h.counted _ (Nat.mod_lt _ (by omega)) _ (by rw [u64_wrap_one])).stored k x hk hx _ rfl, ((Chg.refl _ _).setCell (.inl (by simp)) _).setCell (.inl (by simp)) _⟩
    · have e1 : wins W k old = false := by unfold wins; rw [HG.out]; simp [hyo]
      have hne2 : ((y : Int) != (old : Int)) = true := by simp; omega
      rw [e1]
      simp only [Bool.false_eq_true, if_false]
      clear hh hy e1 hyo
      go_enter Tryz.func124, Tryz.ntmps124
      go_wp2_with (go_at_call 104; refine (rhas_any bm bw W u _ h _).mono ?_; rw [HH.out]; rintro e w1 ⟨rfl, rfl⟩)
      go_ret
      exact ⟨rfl, by rw [HT.out]; exact h.counted _ (Nat.mod_lt _ (by omega)) _ (by rw [u64_wrap_one]), (Chg.refl _ _).setCell (.inl (by simp)) _⟩
  · have hf : hasA W a = false := by simpa using hh
    have e1 : wins W a old = false := by unfold wins; rw [hf]; rfl
    rw [e1]
    simp only [Bool.false_eq_true, if_false]
    have HF := Lib.hid hf
    have HT := Lib.hid (tick_no hf u)
    clear hh hf e1
    go_enter Tryz.func124, Tryz.ntmps124
    go_wp2_with (go_at_call 104; refine (rhas_any bm bw W u _ h _).mono ?_; rw [HF.out]; rintro e w1 ⟨rfl, rfl⟩)
    go_ret
    exact ⟨rfl, by rw [HT.out]; exact h, Chg.refl _ _⟩
end Go.Proofs.YtjdbgohfedjifaaGreatDoor

/- Parts of a memory: Part of both, and whether two rows of words are the same. -/
namespace Bosun
/-- The words from a place on, so many. -/
def partLo (a : Int) : Nat := a.toNat
def partHi (a n : Int) : Nat := if n < 1 then 0 else if a < 0 then (n + a).toNat else a.toNat + n.toNat
def partN (W : List Nat) (a n : Int) : List Nat := (W.take (partHi a n)).drop (partLo a)

theorem partTo_yes (W : List Nat) (lo hi k : Nat) (hk : k < W.length) (h1 : lo ≤ k) (h2 : k < hi) : ((W.take (k + 1)).take hi).drop lo = ((W.take k).take hi).drop lo ++ [W[k]] := by
  rw [List.take_take, List.take_take, show min hi (k + 1) = k + 1 from by omega, show min hi k = k from by omega, List.take_succ_eq_append_getElem hk,
    List.drop_append_of_le_length (by rw [List.length_take]; omega)]
theorem partTo_no (W : List Nat) (lo hi k : Nat) (hk : k < W.length) (h : ¬ (lo ≤ k ∧ k < hi)) : ((W.take (k + 1)).take hi).drop lo = ((W.take k).take hi).drop lo := by
  rw [List.take_take, List.take_take]
  by_cases h2 : k < hi
  · rw [show min hi (k + 1) = k + 1 from by omega, show min hi k = k from by omega, List.drop_eq_nil_of_le (by rw [List.length_take]; omega), List.drop_eq_nil_of_le (by rw [List.length_take]; omega)]
  · rw [show min hi (k + 1) = min hi k from by omega]
theorem partN_small {W : List Nat} (h : Small W) (a n : Int) : Small (partN W a n) := fun x hx => h x (List.mem_of_mem_take (List.mem_of_mem_drop hx))
theorem partN_length (W : List Nat) (a n : Int) : (partN W a n).length = min (partHi a n) W.length - partLo a := by
  simp [partN, List.length_take, List.length_drop]
theorem partN_all (W : List Nat) (n : Int) (h : W.length ≤ n) (h1 : 1 ≤ n) : partN W 0 n = W := by
  unfold partN partHi partLo
  rw [if_neg (by omega), if_neg (by omega)]
  simp only [Int.toNat_zero, List.drop_zero, Nat.zero_add]
  exact List.take_of_length_le (by omega)
end Bosun
namespace Go.Proofs.YtjdbgohfedjifaaGreatDoor
open Go.RowKit Bosun

set_option maxHeartbeats 400000 in
theorem msame_any (v u : Value) (l m : List Nat) (w : World) (hv : Reads w v (words l)) (hu : Reads w u (words m)) :
    Calls Tryz.prog 18 #[v, u] w fun e w' => e = .returned (.bool (decide (l = m))) ∧ Chg [] w w' := by
  obtain ⟨ao, cap, rfl, hm, hc⟩ := hv
  obtain ⟨bo, dap, rfl, hn, hd⟩ := hu
  rw [words_len] at hm hn ⊢
  rw [words_len]
  unfold maxLen at hm hn
  by_cases hlen : l.length = m.length
  · rw [← hlen]
    go_enter Tryz.func18, Tryz.ntmps18
    go_wp2
    go_loopw [5] (fun i wr => ∃ k : Nat, k ≤ l.length ∧ i = .int .i64 k ∧ l.take k = m.take k ∧ Chg [] w wr)
      (fun i _ => l.length - (intOf i).toNat)
    case atStart => exact ⟨0, by omega, rfl, rfl, Chg.refl _ _⟩
    case round =>
      obtain ⟨k, hk, rfl, ht, H⟩ := hrel
      have HT := Lib.hid ht
      have HL := Lib.hid hlen
      clear ht
      by_cases hkl : k < l.length
      · have hkm : k < m.length := by omega
        obtain ⟨g, off, rfl, hcell⟩ := hc k _ (words_get l hkl)
        obtain ⟨g', off', rfl, hdell⟩ := hd k _ (words_get m hkm)
        have hcell' : wr.cell? ⟨g, off + k, none⟩ = some (.int .u64 (l[k] : Nat)) := by
          rw [World.cell?_of_block (w := w) (H.block g (World.block_lt_of_cell? w _ hcell) (by simp)), hcell]
        have hdell' : wr.cell? ⟨g', off' + k, none⟩ = some (.int .u64 (m[k] : Nat)) := by
          rw [World.cell?_of_block (w := w) (H.block g' (World.block_lt_of_cell? w _ hdell) (by simp)), hdell]
        have HX := Lib.hid (List.take_succ_eq_append_getElem hkl)
        have HY := Lib.hid (List.take_succ_eq_append_getElem hkm)
        clear hcell hdell hc hd hlen
        by_cases he : l[k] = m[k]
        · obtain ⟨x, hx⟩ : ∃ x, x = l[k] := ⟨_, rfl⟩
          rw [← he] at hdell' HY
          rw [← hx] at hcell' hdell' HX HY
          clear hx he
          go_wp2_with fail
          go_quiet (fail)
          go_wp2
          go_roundw
          case rel => exact ⟨k + 1, by omega, by go_num, by rw [HX.out, HY.out, HT.out], H.drewN _⟩
          case measure => simp [intOf] <;> omega
        · obtain ⟨x, hx⟩ : ∃ x, x = l[k] := ⟨_, rfl⟩
          obtain ⟨y, hy⟩ : ∃ y, y = m[k] := ⟨_, rfl⟩
          have HD := Lib.hid (show decide (l = m) = false by
            rw [decide_eq_false_iff_not]; intro h; subst h; exact he rfl)
          rw [← hx] at hcell' HX he
          rw [← hy] at hdell' HY he
          have hne : ((x : Int) == (y : Int)) = false := by simp; omega
          have hne' : ((x : Int) != (y : Int)) = true := by simp; omega
          clear hx hy he
          go_wp2_with fail
          go_quiet (fail)
          go_wp2
          go_ret
          exact ⟨ret_bool HD.out.symm, H.drewN _⟩
      · obtain rfl : k = l.length := by omega
        have HD := Lib.hid (show decide (l = m) = true by
          rw [decide_eq_true_eq]
          have h := HT.out
          rw [List.take_length, HL.out, List.take_length] at h
          exact h)
        clear hc hd hlen
        go_wp2
        go_ret
        exact ⟨ret_bool HD.out.symm, H⟩
  · have HD := Lib.hid (show decide (l = m) = false by
      rw [decide_eq_false_iff_not]; intro h; subst h; exact hlen rfl)
    have hne : ((l.length : Int) != (m.length : Int)) = true := by rw [bne_iff_ne]; omega
    go_enter Tryz.func18, Tryz.ntmps18
    go_wp2
    go_ret
    exact ⟨ret_bool HD.out.symm, Chg.refl _ _⟩

theorem words_one (l : List Nat) : ∀ v ∈ words l, v.oneCell' = true := by
  intro v hv
  simp only [words, List.mem_map] at hv
  obtain ⟨_, _, rfl⟩ := hv
  rfl

set_option maxHeartbeats 800000 in
theorem part_any (bm bw : Nat) (W : List Nat) (u : Nat) (w : World) (h : IsMem w bm bw W u) (a n : Int) (ha : -9223372036854775808 ≤ a) (ha2 : a ≤ 9223372036854775807) (hn : -9223372036854775808 ≤ n) (hn2 : n ≤ 9223372036854775807) :
    Calls Tryz.prog 19 #[.pointer (some ⟨bm, 0, none⟩), .int .i64 a, .int .i64 n] w fun e w' => ∃ v, e = .returned v ∧ Own w' w.heap.size 35 v (words (partN W a n)) ∧ Chg [] w w' := by
  have hlen := h.len
  have c0 := h.c0
  have hbm := h.head.lt
  have hbw := h.row.lt
  by_cases hn1 : n < 1
  · have e1 : partN W a n = [] := by unfold partN partHi; rw [if_pos hn1]; simp
    rw [e1]
    clear e1
    go_enter Tryz.func19, Tryz.ntmps19
    go_wp2
    go_ret
    exact ⟨_, rfl, Own.nil _ _ _, Chg.refl _ _⟩
  · by_cases hal : W.length ≤ a
    · have e1 : partN W a n = [] := by
        unfold partN partLo; exact List.drop_eq_nil_of_le (by rw [List.length_take]; omega)
      rw [e1]
      clear e1
      go_enter Tryz.func19, Tryz.ntmps19
      go_wp2_with (go_at_call 49; refine (len_any bm bw W u _ h).mono ?_; rintro e w1 ⟨rfl, rfl⟩)
      go_ret
      exact ⟨_, rfl, Own.nil _ _ _, Chg.refl _ _⟩
    · have hpl := partN_length W a n
      obtain ⟨c, hc⟩ : ∃ c, c = (partN W a n).length := ⟨_, rfl⟩
      rw [← hc] at hpl
      have hc2 : c ≤ 524288 := by omega
      have hps : ∀ j, j < c → (words (partN W a n))[j]? = (words W)[partLo a + j]? := by
        intro j hj
        have h1 : partLo a + j < W.length := by omega
        have h2 : partLo a + j < partHi a n := by omega
        rw [words_get _ (by omega), words_get W h1]
        congr 3
        unfold partN
        rw [List.getElem_drop, List.getElem_take]
      have hwl : (words (partN W a n)).length = c := by rw [words_len, hc]
      have HPS := Lib.hid hps
      have HWL := Lib.hid hwl
      clear hps hwl
      by_cases ha0 : 0 ≤ a
      · obtain ⟨k, rfl⟩ := Int.eq_ofNat_of_zero_le ha0
        have hlo : partLo (k : Int) = k := by unfold partLo; simp
        have hcn : (c : Int) = if (W.length : Int) - (k : Int) < n then (W.length : Int) - (k : Int) else n := by
          unfold partHi at hpl; rw [if_neg hn1, if_neg (by omega), hlo] at hpl; split <;> omega
        have hkc : (k : Int) + (c : Int) ≤ (W.length : Int) := by split at hcn <;> omega
        have HCN := Lib.hid hcn
        have HLO := Lib.hid hlo
        have hlk : ¬ W.length = k := by omega
        clear hc hpl hcn hlo
        have hsrc : ∀ (w1 : World), Chg [] w w1 → words (partN W k n) = [] ∨ ∃ g' o', some (⟨bw, k, none⟩ : Addr) = some ⟨g', o', none⟩ ∧ ∀ j v, (words (partN W k n))[j]? = some v → w1.cell? ⟨g', o' + j, none⟩ = some v := by
          intro w1 H2
          refine .inr ⟨bw, k, rfl, fun j v hj => ?_⟩
          have hjc : j < c := by have := (List.getElem?_eq_some_iff.1 hj).1; rw [HWL.out] at this; exact this
          rw [(h.keep H2).row.cell, List.getElem?_toArray, ← hj, HPS.out j hjc, HLO.out]
        have hget : ∀ (cur : Array Value), cur.size = c → (∀ j, cur[j]? = if 0 ≤ j ∧ j < 0 + (words (partN W k n)).length then (words (partN W k n))[j - 0]? else (Array.replicate c (Value.int .u64 0))[j]?) → words (partN W k n) = cur.toList.take c := by
          intro cur hs hj
          apply List.ext_getElem?
          intro j
          have e : cur.toList[j]? = cur[j]? := by simp
          rw [List.getElem?_take, e, hj j, HWL.out]
          by_cases hjc : j < c
          · rw [if_pos hjc, if_pos (by omega)]; rfl
          · rw [if_neg hjc]; exact List.getElem?_eq_none (by rw [HWL.out]; omega)
        have HSRC := Lib.hid hsrc
        have HGET := Lib.hid hget
        clear hsrc hget
        go_enter Tryz.func19, Tryz.ntmps19
        go_wp2_with (first
          | (go_at_call 49; refine (len_any bm bw W u _ h).mono ?_; rintro e w1 ⟨rfl, rfl⟩)
          | (refine wpList_min rfl (.tmp 22) (.tmp 26) _ _ rfl .i64 n ((W.length : Int) - (k : Int)) c rfl rfl HCN.out ?_)
          | (refine wpList_make1 rfl (.tmp 28) (.tmp 28) 36 rfl 35 (.int .u64 0) 8 Tryz.underlying36 infoU64 rfl .i64 .i64 c rfl rfl (by omega) (by omega) ?_; intro w1 H1 H2 H3; have c01 := (h.keep H2).c0; have H3 := Lib.hid H3)
          | (refine wpList_copy1 rfl (.tmp 30) (.tmp 39) 36 36 rfl 35 Tryz.underlying36 (by kernel_rfl) w.heap.size 0 c c (some ⟨bw, k, none⟩) (k + c - k) (W.length - k) rfl rfl _ 35 H1 (words (partN W k n)) (by rw [HWL.out, Nat.add_sub_cancel_left]; exact (Nat.min_self _).symm) (HSRC.out w1 H2) (by rw [HWL.out]; simp) (words_one _) ?_; intro w2 cur H4 H5 H6 H7; have H5 := Lib.hid H5; have H6 := Lib.hid H6))
        go_ret
        have hsc : cur.size = c := by rw [H5.out]; simp
        exact ⟨_, rfl, Own.of_blk H4 (Nat.le_refl _) hsc (Nat.le_refl _) (by unfold maxLen; omega) (HGET.out cur hsc H6.out), H2.then H7 (fun g hg => .inr (by simp at hg; omega))⟩
      · have hlo : partLo a = 0 := by unfold partLo; omega
        obtain ⟨hi, hhi⟩ : ∃ hi, hi = partHi a n := ⟨_, rfl⟩
        have hm1 : (hi : Int) = if n + a < 0 then 0 else n + a := by
          rw [hhi]; unfold partHi; rw [if_neg hn1, if_pos (by omega)]; split <;> omega
        have hcn : (c : Int) = if (W.length : Int) < (hi : Int) then (W.length : Int) else (hi : Int) := by
          rw [← hhi, hlo] at hpl; split <;> omega
        have hkc : (c : Int) ≤ (W.length : Int) := by split at hcn <;> omega
        have HCN := Lib.hid hcn
        have HM1 := Lib.hid hm1
        have HLO := Lib.hid hlo
        have d0 : (a < 0) := by omega
        clear hc hpl hcn hlo hhi hm1
        have hsrc : ∀ (w1 : World), Chg [] w w1 → words (partN W a n) = [] ∨ ∃ g' o', some (⟨bw, 0, none⟩ : Addr) = some ⟨g', o', none⟩ ∧ ∀ j v, (words (partN W a n))[j]? = some v → w1.cell? ⟨g', o' + j, none⟩ = some v := by
          intro w1 H2
          refine .inr ⟨bw, 0, rfl, fun j v hj => ?_⟩
          have hjc : j < c := by have := (List.getElem?_eq_some_iff.1 hj).1; rw [HWL.out] at this; exact this
          rw [(h.keep H2).row.cell, List.getElem?_toArray, ← hj, HPS.out j hjc, HLO.out]
        have hget : ∀ (cur : Array Value), cur.size = c → (∀ j, cur[j]? = if 0 ≤ j ∧ j < 0 + (words (partN W a n)).length then (words (partN W a n))[j - 0]? else (Array.replicate c (Value.int .u64 0))[j]?) → words (partN W a n) = cur.toList.take c := by
          intro cur hs hj
          apply List.ext_getElem?
          intro j
          have e : cur.toList[j]? = cur[j]? := by simp
          rw [List.getElem?_take, e, hj j, HWL.out]
          by_cases hjc : j < c
          · rw [if_pos hjc, if_pos (by omega)]; rfl
          · rw [if_neg hjc]; exact List.getElem?_eq_none (by rw [HWL.out]; omega)
        have HSRC := Lib.hid hsrc
        have HGET := Lib.hid hget
        clear hsrc hget
        go_enter Tryz.func19, Tryz.ntmps19
        go_wp2_with (first
          | (go_at_call 49; refine (len_any bm bw W u _ h).mono ?_; rintro e w1 ⟨rfl, rfl⟩)
          | (refine wpList_max rfl (.tmp 20) _ _ _ rfl .i64 (n + a) 0 (hi : Int) rfl rfl HM1.out ?_)
          | (refine wpList_min rfl (.tmp 22) (.tmp 26) _ _ rfl .i64 (hi : Int) (W.length : Int) c rfl rfl HCN.out ?_)
          | (refine wpList_make1 rfl (.tmp 28) (.tmp 28) 36 rfl 35 (.int .u64 0) 8 Tryz.underlying36 infoU64 rfl .i64 .i64 c rfl rfl (by omega) (by omega) ?_; intro w1 H1 H2 H3; have c01 := (h.keep H2).c0; have H3 := Lib.hid H3)
          | (refine wpList_copy1 rfl (.tmp 30) (.tmp 39) 36 36 rfl 35 Tryz.underlying36 (by kernel_rfl) w.heap.size 0 c c (some ⟨bw, 0, none⟩) c W.length rfl rfl _ 35 H1 (words (partN W a n)) (by rw [HWL.out]; exact (Nat.min_self _).symm) (HSRC.out w1 H2) (by rw [HWL.out]; simp) (words_one _) ?_; intro w2 cur H4 H5 H6 H7; have H5 := Lib.hid H5; have H6 := Lib.hid H6))
        go_ret
        have hsc : cur.size = c := by rw [H5.out]; simp
        exact ⟨_, rfl, Own.of_blk H4 (Nat.le_refl _) hsc (Nat.le_refl _) (by unfold maxLen; omega) (HGET.out cur hsc H6.out), H2.then H7 (fun g hg => .inr (by simp at hg; omega))⟩
end Go.Proofs.YtjdbgohfedjifaaGreatDoor
