/- rack: the page's example. -/
import Derived.Test.YtjdbgohfedjifaaDoorRk11
namespace Go.Proofs.YtjdbgohfedjifaaDoor
open Go.RowKit Bosun
def canB (w : RWork) (M : List Nat) (u : Nat) : Bool :=
  match w.next with
  | .pushing => match w.op with
    | none => false
    | some o => let s := stepD o M u; !(s.1.done && decide (s.1.err = 6))
  | .signing => true
  | .choosing => true
  | .taking => w.op.isSome
  | .emptying => true
  | _ => false
theorem canB_can {w : RWork} {M : List Nat} {u : Nat} (h : canB w M u = true) : Can w M u := by
  unfold canB at h
  unfold Can
  cases hn : w.next <;> rw [hn] at h <;> simp at h ⊢
  · cases ho : w.op with
    | none => rw [ho] at h; simp at h
    | some o => rw [ho] at h; simp at h; exact ⟨o, rfl, fun h1 => by rcases h with h2 | h2; rw [h1] at h2; simp at h2; exact h2⟩
  · exact Option.isSome_iff_exists.1 h
def gT : Nat → Bool := fun _ => true
/-- A work runs to its end, each step of it one that is shown. -/
def goesB : Nat → RRack × RWork × List Nat × Nat → Bool
  | 0, s => s.2.1.done
  | n + 1, s => (s.2.1.done || (decide (s.2.1.steps < 1000000) && canB s.2.1 s.2.2.1 s.2.2.2)) && goesB n (stepR gT s.1 s.2.1 s.2.2.1 s.2.2.2)
theorem goesB_goes : ∀ (n : Nat) (s : RRack × RWork × List Nat × Nat), goesB n s = true → (itR gT n s).2.1.done = true ∧ ∀ k, k < n → (itR gT k s).2.1.done = false → (itR gT k s).2.1.steps < 1000000 ∧ Can (itR gT k s).2.1 (itR gT k s).2.2.1 (itR gT k s).2.2.2
  | 0, s, h => ⟨h, fun k hk => absurd hk (by omega)⟩
  | n + 1, s, h => by
    unfold goesB at h
    rw [Bool.and_eq_true] at h
    obtain ⟨i1, i2⟩ := goesB_goes n _ h.2
    refine ⟨i1, fun k hk hd => ?_⟩
    match k, hk, hd with
    | 0, _, hd =>
      have hd' : s.2.1.done = false := hd
      have h1 := h.1
      rw [hd'] at h1
      simp at h1
      exact ⟨h1.1, canB_can h1.2⟩
    | k + 1, hk, hd => exact i2 k (by omega) hd
/-- A rack and its memory between two works; nothing older is touched. -/
structure Rest (W0 W : World) (rb bm bw : Nat) (r : RRack) (M : List Nat) (u : Nat) : Prop where
  rk : IsRk W rb r
  mem : IsMem W bm bw M u
  ok : OkRack r
  tab : TabW W
  chg : Chg [] W0 W
  l1 : W0.heap.size ≤ rb
  l2 : W0.heap.size ≤ bm
  l3 : W0.heap.size ≤ bw
section
variable {W0 W W1 W2 : World} {wb rb bm bw : Nat} {gv : Value} {ob ob' : Option Nat} {r : RRack} {w : RWork} {M : List Nat} {u : Nat}
theorem Rest.after (h : Rest W0 W rb bm bw r M u) (C1 : Chg [] W W1) (hw : W.heap.size ≤ wb) (ho : ∀ g ∈ ob.toList, W.heap.size ≤ g) (G : Rig W1 wb rb bm bw gv ob r w M u) {s : RRack × RWork × List Nat × Nat}
    (G2 : Rig W2 wb rb bm bw gv ob' s.1 s.2.1 s.2.2.1 s.2.2.2) (C2 : Chg (wb :: rb :: bm :: bw :: ob.toList) W1 W2) : Rest W0 W2 rb bm bw s.1 s.2.2.1 s.2.2.2 := by
  have hsz := h.chg.size
  refine ⟨G2.rk, G2.mem, G2.ok, tab_chg (h.tab.keep C1) C2 (G.ne0 (h.tab.keep C1)), (h.chg.then C1 (by simp)).then C2 fun g hg => ?_, h.l1, h.l2, h.l3⟩
  right
  simp only [List.mem_cons] at hg
  rcases hg with rfl | rfl | rfl | rfl | hg
  · omega
  · exact h.l1
  · exact h.l2
  · exact h.l3
  · have := ho g hg; omega
end
/-- All of a work, from its begin to its end. -/
theorem whole_any {W0 W W1 : World} {wb rb bm bw : Nat} {gv : Value} {ob : Option Nat} {r : RRack} {w : RWork} {M : List Nat} {u : Nat} (h : Rest W0 W rb bm bw r M u) (C1 : Chg [] W W1) (hw : W.heap.size ≤ wb) (ho : ∀ g ∈ ob.toList, W.heap.size ≤ g) (G : Rig W1 wb rb bm bw gv ob r w M u) (hd : w.done = false)
    (n : Nat) (hn : n < 9000) (hg : goesB n (r, w, M, u) = true) (s : RRack × RWork × List Nat × Nat) (hs : itR gT n (r, w, M, u) = s) :
    Calls Tryd.prog 10 #[.pointer (some ⟨wb, 0, none⟩), .pointer (some ⟨bm, 0, none⟩)] W1 fun e W' => e = .returned (.tuple #[.int .u64 ((resR s.2.1).1 : Nat), .int .i64 (resR s.2.1).2.1, .int .i64 (resR s.2.1).2.2]) ∧ Rest W0 W' rb bm bw s.1 s.2.2.1 s.2.2.2 := by
  obtain ⟨a1, a2⟩ := goesB_goes n _ hg
  refine (wall_any W1 wb rb bm bw gv ob r w M u G gT (h.tab.keep C1) hd n hn a1 a2).mono ?_
  rintro e W' ⟨rfl, ob', G2, C2, _⟩
  subst hs
  exact ⟨rfl, h.after C1 hw ho G G2 C2⟩
def e1 : RRack × RWork × List Nat × Nat := itR gT 5 (newR 0 4, putW (newR 0 4) 300 3 false, List.replicate 100 0, 0)
def e2 : RRack × RWork × List Nat × Nat := itR gT 4 (e1.1, putW e1.1 200 1 true, e1.2.2.1, e1.2.2.2)
def e3 : RRack × RWork × List Nat × Nat := itR gT 5 (e2.1, takeW, e2.2.2.1, e2.2.2.2)
def e4 : RRack × RWork × List Nat × Nat := itR gT 3 (e3.1, takeW, e3.2.2.1, e3.2.2.2)
def e5 : RRack × RWork × List Nat × Nat := itR gT 5 (e4.1, takeW, e4.2.2.1, e4.2.2.2)
theorem goes1 : goesB 5 (newR 0 4, putW (newR 0 4) 300 3 false, List.replicate 100 0, 0) = true := by kernel_rfl
theorem goes2 : goesB 4 (e1.1, putW e1.1 200 1 true, e1.2.2.1, e1.2.2.2) = true := by kernel_rfl
theorem goes3 : goesB 5 (e2.1, takeW, e2.2.2.1, e2.2.2.2) = true := by kernel_rfl
theorem goes4 : goesB 3 (e3.1, takeW, e3.2.2.1, e3.2.2.2) = true := by kernel_rfl
theorem goes5 : goesB 5 (e4.1, takeW, e4.2.2.1, e4.2.2.2) = true := by kernel_rfl
theorem best2 : bestR e2.1 = 1 := by kernel_rfl
theorem res3 : resR e3.2.1 = (200, 1, 0) := by kernel_rfl
theorem res4 : resR e4.2.1 = (0, 8, 8) := by kernel_rfl
theorem res5 : resR e5.2.1 = (300, 3, 0) := by kernel_rfl
theorem hold4 : holdN 4 = 4 := by kernel_rfl
set_option maxRecDepth 8000 in
set_option maxHeartbeats 8000000 in
theorem awake_any (W : World) (hT : TabW W) : Calls Tryd.prog 15 #[] W fun e W' => e = .returned (.bool true) ∧ Chg [] W W' := by
  have HT := Lib.hid hT
  clear hT
  go_enter Tryd.func15, Tryd.ntmps15
  go_wp2_with fail
  refine (new_any 100 100 (by omega) W).mono ?_
  rintro e W1 ⟨bm, bw, rfl, M1, C1, l2, l3⟩
  have HX1 := Lib.hid (And.intro M1 (And.intro C1 (And.intro l2 l3)))
  clear M1 C1 l2 l3
  go_wp2_with fail
  refine (rknew_any W1 0 (by omega) (by omega) 4 (by omega) (by omega)).mono ?_
  rw [hold4]
  rintro e W2 ⟨rb, rfl, R2, K2, C2, l1⟩
  have R2' : Rest W W2 rb bm bw (newR 0 4) (List.replicate 100 0) 0 := by
    have := HX1.out.2.1.size
    exact ⟨R2, HX1.out.1.chg C2 (by simp) (by simp), K2, (HT.out.keep HX1.out.2.1).keep C2, HX1.out.2.1.then C2 (by simp), by omega, HX1.out.2.2.1, HX1.out.2.2.2⟩
  have HR2 := Lib.hid R2'
  clear R2' R2 K2 C2 l1 HX1
  go_wp2_with fail
  refine (rput_any W2 rb bm bw _ _ _ HR2.out.rk HR2.out.mem HR2.out.ok 300 (by decide) 3 false .nilFunc _ _ sure_nil).mono ?_
  rintro e W3 ⟨wb, g, rfl, G3, C3, k1, k2⟩
  have HA3 := Lib.hid (whole_any HR2.out C3 k1 (by simp; exact k2) G3 rfl 5 (by decide) goes1 e1 rfl)
  clear G3 C3 k1 k2
  go_wp2_with fail
  refine HA3.out.mono ?_
  rintro e W4 ⟨rfl, R4⟩
  have HR4 := Lib.hid R4
  clear R4 HA3
  go_wp2_with fail
  refine (rput_any W4 rb bm bw _ _ _ HR4.out.rk HR4.out.mem HR4.out.ok 200 (by decide) 1 true .nilFunc _ _ sure_nil).mono ?_
  rintro e W5 ⟨wb5, g5, rfl, G5, C5, k51, k52⟩
  have HA5 := Lib.hid (whole_any HR4.out C5 k51 (by simp; exact k52) G5 rfl 4 (by decide) goes2 e2 rfl)
  clear G5 C5 k51 k52
  go_wp2_with fail
  refine HA5.out.mono ?_
  rintro e W6 ⟨rfl, R6⟩
  have HR6 := Lib.hid R6
  clear R6 HA5
  go_wp2_with fail
  have HB := best_any rb _ W6 HR6.out.rk HR6.out.ok HR6.out.tab
  rw [best2] at HB
  refine HB.mono ?_
  rintro e W7 ⟨rfl, C7⟩
  have R7 : Rest W W7 rb bm bw e2.1 e2.2.2.1 e2.2.2.2 := ⟨Blk.chg HR6.out.rk C7 (by simp), HR6.out.mem.chg C7 (by simp) (by simp), HR6.out.ok, HR6.out.tab.keep C7, HR6.out.chg.then C7 (by simp), HR6.out.l1, HR6.out.l2, HR6.out.l3⟩
  have HR7 := Lib.hid R7
  clear R7 C7 HB
  go_wp2_with fail
  refine (rtake_any W7 rb bm bw _ _ _ HR7.out.rk HR7.out.mem HR7.out.ok).mono ?_
  rintro e W8 ⟨wb8, rfl, G8, C8, k8⟩
  have HA8 := Lib.hid (whole_any HR7.out C8 k8 (by simp) G8 rfl 5 (by decide) goes3 e3 rfl)
  rw [res3] at HA8
  clear G8 C8 k8
  go_wp2_with fail
  refine HA8.out.mono ?_
  rintro e W9 ⟨rfl, R9⟩
  have HR9 := Lib.hid R9
  clear R9 HA8
  go_wp2_with fail
  refine (rtake_any W9 rb bm bw _ _ _ HR9.out.rk HR9.out.mem HR9.out.ok).mono ?_
  rintro e W10 ⟨wb10, rfl, G10, C10, k10⟩
  have HA10 := Lib.hid (whole_any HR9.out C10 k10 (by simp) G10 rfl 3 (by decide) goes4 e4 rfl)
  rw [res4] at HA10
  clear G10 C10 k10
  go_wp2_with fail
  refine HA10.out.mono ?_
  rintro e W11 ⟨rfl, R11⟩
  have HR11 := Lib.hid R11
  clear R11 HA10
  go_wp2_with fail
  refine (rtake_any W11 rb bm bw _ _ _ HR11.out.rk HR11.out.mem HR11.out.ok).mono ?_
  rintro e W12 ⟨wb12, rfl, G12, C12, k12⟩
  have HA12 := Lib.hid (whole_any HR11.out C12 k12 (by simp) G12 rfl 5 (by decide) goes5 e5 rfl)
  rw [res5] at HA12
  clear G12 C12 k12
  go_wp2_with fail
  refine HA12.out.mono ?_
  rintro e W13 ⟨rfl, R13⟩
  have HR13 := Lib.hid R13
  clear R13 HA12
  have HWd := Lib.hid (rwords_any 4 (by omega) (by omega) W13)
  rw [hold4] at HWd
  go_wp2_with (go_at_call 43; refine HWd.out.mono ?_; rintro e w2 ⟨rfl, rfl⟩)
  go_ret
  exact ⟨rfl, HR13.out.chg⟩
end Go.Proofs.YtjdbgohfedjifaaDoor
