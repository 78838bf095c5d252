/- For every old, l and n the law MemWins returns true: of several Cas of one word the first alone wins, and all additions are counted. No conditions. -/
import Derived.Test.YtkmdfcjgjkfdjaaRows
import Derived.Test.YtkmdfcjgjkfdjaaMem2
import Derived.Test.YtkmdfcjgjkfdjaaLaw
namespace Go.Proofs.Ytkmdfcjgjkfdjaa
open Go.RowKit Bosun

theorem wins_0 (y z old : Nat) : wins [y, z] 0 old = decide (y = old) := by
  simp [wins, hasA, getA]

set_option maxHeartbeats 1600000 in
theorem memWins_walk (w : World) (old : Nat) (ho : old < 18446744073709551616) (v : Value) (l : List Nat) (hl : ∀ z ∈ l, z < 18446744073709551616) (hr : Reads w v (words l)) (n : Nat) (hn : n < 256) :
    Calls Try.prog 3 #[.int .u64 old, v, .int .u8 n] w fun e w' => e = .returned (.bool true) ∧ Chg [] w w' := by
  obtain ⟨ao, cap, rfl, hm, hcell⟩ := hr
  rw [words_len] at hm ⊢
  unfold maxLen at hm
  have HCELL := Lib.hid hcell
  clear hcell
  go_enter Try.func3, Try.ntmps3
  go_wp2_with fail
  refine (new_any 2 2 (by decide) _).mono ?_
  rintro e w1 ⟨bm, bw, rfl, M1, C1, h1, h2⟩
  replace M1 : IsMem w1 bm bw [0, 0] 0 := M1
  go_wp2_with fail
  refine (store_any bm bw _ _ _ M1 0 old ho).mono ?_
  rintro e w2 ⟨rfl, M2, C2⟩
  replace M2 : IsMem w2 bm bw [old, 0] 1 := M2
  have hs : ∀ g, g ∈ [bm, bw] → g ∈ ([] : List Nat) ∨ w.heap.size ≤ g := fun g hg => .inr (by simp at hg; omega)
  have hs1 : ∀ g, g ∈ [bm] → g ∈ ([] : List Nat) ∨ w.heap.size ≤ g := fun g hg => .inr (by simp at hg; omega)
  have C12 := C1.then C2 hs
  go_wp2_with fail
  go_loopw [8, 9] (fun y i wr => ∃ (k x : Nat), k ≤ l.length ∧ k ≤ 20 ∧ i = .int .i64 k ∧ y = .int .u64 x ∧ (∃ u, IsMem wr bm bw [x, 0] u) ∧ Chg [] w wr)
    (fun _ i _ => 20 - (intOf i).toNat)
  case atStart => exact ⟨0, old, by omega, by omega, rfl, rfl, ⟨1, M2⟩, C12⟩
  case round =>
    obtain ⟨k, x, hk, hk2, rfl, rfl, ⟨u, M⟩, H⟩ := hrel
    by_cases hkl : k < l.length ∧ k < 20
    · obtain ⟨hkl, hk20⟩ := hkl
      obtain ⟨g, off, rfl, hc⟩ := HCELL.out k _ (words_get l hkl)
      have hc' : wr.cell? ⟨g, off + k, none⟩ = some (.int .u64 (l[k] : Nat)) := by
        rw [World.cell?_of_block (w := w) (H.block g (World.block_lt_of_cell? w _ hc) (by simp)), hc]
      have hz := hl _ (List.getElem_mem hkl)
      obtain ⟨z, hz'⟩ : ∃ z, z = l[k] := ⟨_, rfl⟩
      have hglt := World.block_lt_of_cell? w _ hc
      rw [← hz'] at hc hc' hz
      have hfr : ∀ (w5 : World), Chg [bm, bw] wr w5 → w5.cell? ⟨g, off + k, none⟩ = some (.int .u64 (z : Nat)) := fun w5 h5 => by
        rw [← hc']; refine World.cell?_of_block (w := wr) (h5.block g (World.block_lt_of_cell? wr _ hc') ?_)
        simp only [List.mem_cons, List.not_mem_nil, or_false, not_or]
        exact ⟨by intro e; simp at hglt; omega, by intro e; simp at hglt; omega⟩
      have HFR := Lib.hid hfr
      clear hz' hfr hc hglt
      by_cases hx : x = old
      · have e1 : ((x : Int) == (old : Int)) = true := by simp; omega
        have W0 := Lib.hid (show wins [x, 0] 0 old = true by rw [wins_0, hx]; simp)
        clear hx
        go_wp2_with (go_at_call 8; refine (cas_any bm bw _ _ _ M 0 old z hz).mono ?_; rw [W0.out]; rintro e w3 ⟨rfl, M3, C3⟩; have hc3 := HFR.out w3 C3)
        go_roundw
        case rel => exact ⟨k + 1, z, by omega, by omega, by go_num, rfl, ⟨_, M3⟩, H.then C3 hs⟩
        case measure => simp [intOf] <;> omega
      · have e1 : ((x : Int) == (old : Int)) = false := by simp; omega
        have W0 := Lib.hid (show wins [x, 0] 0 old = false by rw [wins_0]; simp [hx])
        clear hx
        go_wp2_with (go_at_call 8; refine (cas_any bm bw _ _ _ M 0 old z hz).mono ?_; rw [W0.out]; rintro e w3 ⟨rfl, M3, C3⟩; have hc3 := HFR.out w3 C3)
        go_roundw
        case rel => exact ⟨k + 1, x, by omega, by omega, by go_num, rfl, ⟨_, M3⟩, H.then C3 hs⟩
        case measure => simp [intOf] <;> omega
    · rcases (show (k < l.length ∧ decide ((k : Int) < 20) = false) ∨ ¬ k < l.length by by_cases h : k < l.length; exact .inl ⟨h, by simp; omega⟩; exact .inr h) with ⟨hkl2, d20⟩ | hkl2
      all_goals
        clear hkl
        go_wp2
        go_loopw [10] (fun i wq => ∃ (j : Nat), j ≤ n ∧ i = .int .i64 j ∧ (∃ u, IsMem wq bm bw [x, j] u) ∧ Chg [] w wq)
          (fun i _ => n - (intOf i).toNat)
        case atStart => exact ⟨0, by omega, rfl, ⟨u, M⟩, H⟩
        case round =>
          obtain ⟨j, hj, rfl, ⟨u, M⟩, H⟩ := hrel
          by_cases hjn : j < n
          · have G0 := Lib.hid (show getA [x, j] 1 = j from rfl)
            have S0 := Lib.hid (show setA [x, j] 1 ((j + 1) % 18446744073709551616) = [x, j + 1] by
              rw [Nat.mod_eq_of_lt (by omega)]; rfl)
            go_wp2_with (go_at_call 9; refine (add_any bm bw _ _ _ M 1 1).mono ?_; rw [G0.out, S0.out]; rintro e w3 ⟨rfl, M3, C3⟩)
            go_roundw
            case rel => exact ⟨j + 1, by omega, by go_num, ⟨_, M3⟩, H.then C3 hs⟩
            case measure => simp [intOf] <;> omega
          · obtain rfl : j = n := by omega
            have G0 := Lib.hid (show getA [x, j] 0 = x from rfl)
            have G1 := Lib.hid (show getA [x, j] 1 = j from rfl)
            go_wp2_with fail
            refine (load_any bm bw _ _ _ M 0).mono ?_
            rw [G0.out]
            rintro e w3 ⟨rfl, M3, C3⟩
            go_wp2_with fail
            refine (load_any bm bw _ _ _ M3 1).mono ?_
            rw [G1.out]
            rintro e w4 ⟨rfl, M4, C4⟩
            go_wp2_with fail
            refine (awake_any _).mono ?_
            rintro e w5 ⟨rfl, C5⟩
            go_wp2_with fail
            go_ret
            exact ⟨rfl, ((H.then C3 hs1).then C4 hs1).then C5 (by simp)⟩

namespace memWins
open Go.ChangeShapes Go.WideShapes Go.ChangeAt
theorem own : ownKnob Try.prog.godebug = none := by kernel_rfl
theorem laidOut : laidOutB Try.prog = true := by kernel_rfl

set_option maxRecDepth 100000 in
theorem lifted (os : Os) (started : os.Started) (H : Type) (enc : TypeId × Value → H) :
    ReturnsInHanded {} Try.checked os 3 .any (Rows.memWinsSpec.pre6 enc Try.prog Try.f3 Rows.memWinsRow.domain false) (Rows.memWinsSpec.post enc Try.prog Try.f3 false true false false) := by
  refine returnsInHanded_of_change (C := Try.checked) own started (by kernel_rfl) Try.func3
    (ChangeSpec.witness6 (enc := enc) (C := Try.checked) false ⟨#[], #[.int .u64 0, .slice none 0 0, .int .u8 0], []⟩ 8 (by kernel_rfl) (by kernel_rfl) (by kernel_rfl) (by kernel_rfl)) ?_
  intro W base args ds gs before hval0 hW hcnd _
  have hval : ∀ (j : Nat) t v, Try.f3.params[j]? = some t → args[j]? = some v → Value.okWide Try.prog W .any base t v := hval0
  have hW' := hW
  obtain ⟨p, q, hA0, hV, rfl, hfz, hnd⟩ := hW
  have hA : DataW.TrodAll enc Try.prog W 0 (fun _ => true) true Try.f3.params.toList args.toList ds p := hA0
  rw [Try.params3] at hA hval
  obtain ⟨v0, vs0, d0, ds0, p0, q0, hargs, rfl, rfl, h0, r0⟩ := trodAll_cons hA
  obtain ⟨v1, vs1, d1, ds1, p1, q1, rfl, rfl, rfl, h1, r1⟩ := trodAll_cons r0
  obtain ⟨v2, vs2, d2, ds2, p2, q2, rfl, rfl, rfl, h2, r2⟩ := trodAll_cons r1
  obtain ⟨rfl, rfl, rfl⟩ := trodAll_nil r2
  obtain rfl : args = #[v0, v1, v2] := by cases args; simp_all
  obtain ⟨rfl, rfl⟩ := trodVars_none hV
  obtain ⟨a0, rfl, rfl, rfl, w0⟩ := open_int Try.underlying22 (hval 0 22 v0 rfl rfl) h0
  obtain ⟨n0, rfl, hn0⟩ := nat_u64 w0
  obtain ⟨a1, len1, cap1, rfl⟩ := okWide_slice Try.underlying23 (hval 1 23 v1 rfl rfl)
  have k1 := h1
  have lt1 : ∀ x ∈ p1, x.block < W.heap.size := by obtain ⟨m, hm⟩ := k1; exact DataW.trod_lt m _ _ _ hm
  obtain ⟨l1, hl1, hr1⟩ := open_words Try.underlying23 Try.underlying22 (by kernel_rfl) h1
  obtain ⟨a2, rfl, rfl, rfl, w2⟩ := open_int Try.underlying5 (hval 2 5 v2 rfl rfl) h2
  obtain ⟨n2, rfl, hn2⟩ := nat_u8 w2
  clear hA0 hval0
  simp only [List.append_nil] at hW'
  refine (memWins_walk W n0 hn0 _ l1 hl1 hr1 n2 hn2).mono fun e W' ⟨he, hg⟩ => ?_
  subst he
  exact ⟨_, rfl, _, _, _, [], _, [], hW', trodAll_mk1 (shut_bool Try.underlying4 _), (trodAll_cons_mk (shut_int Try.underlying22 w0) (trodAll_cons_mk (Below.trod laidOut (by kernel_rfl) (of_decide_eq_true (by kernel_rfl)) k1 hg.below lt1) (trodAll_cons_mk (shut_int Try.underlying5 w2) trodAll_mk0))), rfl, hg.below.frame _, fun h => by cases h⟩

theorem over : Rows.memWinsRow.holds Try.pinned (OpenSpec.ofChange Rows.memWinsSpec) :=
  OpenClaim.holds_of_wide 3 Try.f3 rfl rfl rfl rfl rfl rfl rfl ⟨rfl, rfl, rfl, rfl, rfl⟩ rfl rfl rfl rfl rfl (by kernel_rfl) Try.func3 (by kernel_rfl)
    (of_decide_eq_true (by kernel_rfl)) (by unfold Func.isWrapper; first | (rw [if_pos (by decide +kernel)]; kernel_rfl) | (rw [if_neg (by decide +kernel)]; exact ⟨rfl, rfl⟩))
    (fun os started H enc _ => lifted os started H enc)
end memWins

theorem memWins_holds : Rows.MemWinsSaid := memWins.over
#print axioms memWins_holds
end Go.Proofs.Ytkmdfcjgjkfdjaa
