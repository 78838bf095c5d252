/- For every l and place the law KinPlays returns true: any calls of threads' ends tell what the page tells. No conditions. -/
import Derived.Test.YtiidlbicdkmloaaRows
import Derived.Test.YtiidlbicdkmloaaKin7
import Derived.Test.YtiidlbicdkmloaaStru
namespace Go.Proofs.Ytiidlbicdkmloaa
open Go.RowKit Bosun
/-- The cells of a bosun/bosunlaw28.Act. -/
def ActRow (r : List Value) : Prop := ∃ (kind : Int) (z : Int) (x : Nat) (l : Bool) (j : Bool), 0 ≤ kind ∧ kind ≤ 255 ∧ -9223372036854775808 ≤ z ∧ z ≤ 9223372036854775807 ∧ x < 18446744073709551616 ∧ r = [.int .u8 kind, .int .i64 z, .int .u64 x, .bool l, .bool j]
theorem ActRow_of {H : Type} {enc : TypeId × Value → H} {W : World} (fuel : Nat) (cs : List Value) (y : DataW H × List MemPlace) (h : DataW.trod enc Try.prog W 0 (fun _ => true) true fuel 32 cs = some y) : ActRow cs ∧ cs.length = 5 := by
  obtain ⟨ys, m, _, _, hl, hl2, hf⟩ := Go.DataW.trod_struct Try.underlying32 h
  have hc_uint8 : Try.prog.cellsOf 5 = 1 := by kernel_rfl
  have hc_int : Try.prog.cellsOf 3 = 1 := by kernel_rfl
  have hc_uint64 : Try.prog.cellsOf 25 = 1 := by kernel_rfl
  have hc_bool : Try.prog.cellsOf 4 = 1 := by kernel_rfl
  have hcl : cs.length = 5 := by rw [hl]; kernel_rfl
  refine ⟨?_, hcl⟩
  clear h hl
  match cs, hcl with
  | [c0, c1, c2, c3, c4], _ =>
    match ys, hl2 with
    | [y0, y1, y2, y3, y4], _ =>
      have h0 := hf 0 _ rfl
      have h1 := hf 1 _ rfl
      have h2 := hf 2 _ rfl
      have h3 := hf 3 _ rfl
      have h4 := hf 4 _ rfl
      clear hf
      simp [hc_uint8, hc_int, hc_uint64, hc_bool] at h0 h1 h2 h3 h4
      obtain ⟨z0, e0, _, s0⟩ := Go.DataW.trod_int Try.underlying5 h0
      have b0 := bounds_u8 s0
      obtain rfl : c0 = .int .u8 z0 := by simpa using e0
      obtain ⟨z1, e1, _, s1⟩ := Go.DataW.trod_int Try.underlying3 h1
      have b1 := bounds_i64 s1
      obtain rfl : c1 = .int .i64 z1 := by simpa using e1
      obtain ⟨z2, e2, _, s2⟩ := Go.DataW.trod_int Try.underlying25 h2
      obtain ⟨m2, rfl, b2⟩ := nat_u64 s2
      obtain rfl : c2 = .int .u64 (m2 : Nat) := by simpa using e2
      obtain ⟨m3, e3, _⟩ := Go.DataW.trod_bool Try.underlying4 h3
      obtain rfl : c3 = .bool m3 := by simpa using e3
      obtain ⟨m4, e4, _⟩ := Go.DataW.trod_bool Try.underlying4 h4
      obtain rfl : c4 = .bool m4 := by simpa using e4
      exact ⟨z0, z1, m2, m3, m4, b0.1, b0.2, b1.1, b1.2, b2, rfl⟩
theorem alloc3 (w : World) : (Instr.alloc 28 true (.tuple #[])).run Try.prog w = .ok (.pointer (some ⟨w.heap.size, 0, none⟩)) (w.alloc (.cells (row3 fun _ => ⟨0, false, 0⟩) 28)) := by kernel_rfl
set_option maxRecDepth 100000 in
set_option maxHeartbeats 16000000 in
theorem kinPlays_walk (w : World) (v : Value) (rows : List (List Value)) (hr : ∀ r ∈ rows, ActRow r) (hv : ReadsS w v 5 rows) (pl : Int) (h0 : -9223372036854775808 ≤ pl) (h1 : pl ≤ 9223372036854775807) :
    Calls Try.prog 3 #[v, .int .i64 pl] w fun e w' => e = .returned (.bool true) ∧ Chg [] w w' := by
  obtain ⟨ao, cap, rfl, hm, hcell⟩ := hv
  unfold maxLen at hm
  have HCELL := Lib.hid hcell
  have HR := Lib.hid hr
  clear hcell hr
  go_enter Try.func3, Try.ntmps3
  go_wp2_with fail
  refine (knew_any _).mono ?_
  rintro e w1 ⟨kb, mb, rfl, K1, C1, g1, g2⟩
  go_wp2_with (refine wpList_new_row rfl 28 rfl _ (alloc3 _) ?_; intro w2 B2 C2 z2)
  have q1 := K1.head.lt
  have q2 := K1.codes.lt
  have hs1 := C1.size
  obtain ⟨rb, hrb⟩ : ∃ rb, rb = w1.heap.size := ⟨_, rfl⟩
  rw [← hrb] at B2 q1 q2 hs1 ⊢
  have P2 : KP w2 kb mb rb 0 0 0 (fun _ => none) (fun _ => ⟨0, false, 0⟩) := ⟨K1.chg C2 (by simp) (by simp), B2, SimK.start, by omega, by omega⟩
  have C12 := C1.then C2 (by simp)
  have hs : ∀ g, g ∈ [kb, mb, rb] → g ∈ ([] : List Nat) ∨ w.heap.size ≤ g := fun g hg => .inr (by simp at hg; omega)
  clear K1 C1 B2 C2 z2 g1 g2 q1 q2 hs1 hrb
  go_loopw [7] (fun x7 wr => ∃ (k : Nat) (al lo : Nat) (c : Int → Option Nat) (S : Nat → K3), k ≤ rows.length ∧ k ≤ 90 ∧ x7 = .int .i64 k ∧ KP wr kb mb rb k al lo c S ∧ Chg [] w wr) (fun x7 _ => 90 - (intOf x7).toNat)
  case atStart => exact ⟨0, 0, 0, _, _, by omega, by omega, rfl, P2, C12⟩
  case round =>
    rename_i wr _
    obtain ⟨k, al, lo, c, S, hk, hk2, rfl, P, H⟩ := hrel
    clear P2 C12
    by_cases hkl : k < rows.length ∧ k < 90
    · obtain ⟨hkl, hk90⟩ := hkl
      obtain ⟨g, off, rfl, hc⟩ := HCELL.out k _ (List.getElem?_eq_getElem hkl)
      obtain ⟨kind, z, x, l, j, a1, a2, a3, a4, a5, hrow⟩ := HR.out _ (List.getElem_mem hkl)
      rw [hrow] at hc
      have hfr : ∀ (i : Nat) y, ([.int .u8 kind, .int .i64 z, .int .u64 x, .bool l, .bool j] : List Value)[i]? = some y → wr.cell? ⟨g, off + k * 5 + i, none⟩ = some y := fun i y hy => by
        rw [World.cell?_of_block (w := w) (H.block g (World.block_lt_of_cell? w _ (hc i _ hy)) (by simp)), hc i _ hy]
      have f0 : wr.cell? ⟨g, off + k * 5, none⟩ = some (.int .u8 kind) := hfr 0 _ rfl
      have f1 := hfr 1 _ rfl
      have f2 := hfr 2 _ rfl
      have f3 := hfr 3 _ rfl
      have f4 := hfr 4 _ rfl
      clear hfr hc hrow
      have HD := Lib.hid (does_any kb mb rb k al lo c S wr P kind z x l j a1 a2 a3 a4 a5 (by omega))
      go_wp2_with fail
      refine HD.out.mono ?_
      rintro e w3 ⟨rfl, al', lo', c', S', P3, C3⟩
      have HA := Lib.hid (fun w h => alive_any kb mb (k + 1) al' lo' c' w h)
      have HL := Lib.hid (fun w h => left_any kb mb (k + 1) al' lo' c' w h)
      have HS1 := Lib.hid (show ∀ w, IsRow w rb S' → Calls Try.prog 9 #[.pointer (some ⟨rb, 0, none⟩), .int .i64 1] w fun e w' => e = .returned (.int .u64 (al' : Nat)) ∧ Chg [] w w' from fun w h => by have := rset_any rb S' 1 w h; rw [← P3.s.set] at this; exact this)
      have HS2 := Lib.hid (show ∀ w, IsRow w rb S' → Calls Try.prog 9 #[.pointer (some ⟨rb, 0, none⟩), .int .i64 2] w fun e w' => e = .returned (.int .u64 (leftS c' 64 : Nat)) ∧ Chg [] w w' from fun w h => by have := rset_any rb S' 2 w h; rw [← P3.s.left] at this; exact this)
      have HO := Lib.hid (fun w h => Over_any kb mb (k + 1) al' lo' c' w h pl h0 h1)
      have HI := Lib.hid (is_any pl)
      have hov := P3.s.over pl
      obtain ⟨lf, hlf⟩ : ∃ lf, lf = leftS c' 64 := ⟨_, rfl⟩
      rw [← hlf] at HL HS2
      clear hlf
      have e1 : ((al' : Int) != (al' : Int)) = false := by simp
      have e2 : ((lf : Int) != (lf : Int)) = false := by simp
      have H3 := H.then C3 hs
      by_cases hz : 0 ≤ pl ∧ pl < 64
      · obtain ⟨p, rfl⟩ := Int.eq_ofNat_of_zero_le hz.1
        have hp : p < 64 := by omega
        rw [decide_eq_true hz] at HI hov
        simp only [Int.toNat_natCast, Bool.true_and] at hov
        have hcell : ∀ w5, Chg [] w3 w5 → w5.cell? ⟨rb, p * 3, none⟩ = some (.int .i64 ((S' p).st : Nat)) := fun w5 h5 => by rw [(P3.r.chg h5 (by simp)).cell, row3_get0 S' hp]
        obtain ⟨s, hs5⟩ : ∃ s, s = (S' p).st := ⟨_, rfl⟩
        rw [← hs5] at hcell hov
        have HC := Lib.hid hcell
        clear hs5 hcell hz
        by_cases e5 : s = 2
        · subst e5
          rw [show ((2 : Nat) == 2) = true from rfl] at hov
          rw [hov] at HO
          clear hov
          go_wp2_with (first
            | (go_at_call 8; refine (HA.out _ P3.k).mono ?_; rintro e w4 ⟨rfl, rfl⟩)
            | (go_at_call 9; ((with_reducible refine (HS1.out _ P3.r).mono ?_); rintro e w4 ⟨rfl, C4⟩; have P4 := P3.keep C4))
            | (go_at_call 10; refine (HL.out _ P4.k).mono ?_; rintro e w5 ⟨rfl, rfl⟩)
            | (go_at_call 9; ((with_reducible refine (HS2.out _ P4.r).mono ?_); rintro e w5 ⟨rfl, C5⟩; have P5 := P4.keep C5; have c5 := HC.out _ (C4.then C5 (by simp))))
            | (go_at_call 11; refine (HO.out _ P5.k).mono ?_; rintro e w6 ⟨rfl, rfl⟩)
            | (go_at_call 12; refine (HI.out _).mono ?_; rintro e w6 ⟨rfl, rfl⟩))
          go_roundw
          case rel => exact ⟨k + 1, _, _, _, _, by omega, by omega, by go_num, P5, (H3.then C4 (by simp)).then C5 (by simp)⟩
          case measure => simp [intOf] <;> omega
        · have e6 : ((s : Int) == 2) = false := by simp; omega
          rw [show (s == 2) = false from by simpa using e5] at hov
          rw [hov] at HO
          clear hov e5
          go_wp2_with (first
            | (go_at_call 8; refine (HA.out _ P3.k).mono ?_; rintro e w4 ⟨rfl, rfl⟩)
            | (go_at_call 9; ((with_reducible refine (HS1.out _ P3.r).mono ?_); rintro e w4 ⟨rfl, C4⟩; have P4 := P3.keep C4))
            | (go_at_call 10; refine (HL.out _ P4.k).mono ?_; rintro e w5 ⟨rfl, rfl⟩)
            | (go_at_call 9; ((with_reducible refine (HS2.out _ P4.r).mono ?_); rintro e w5 ⟨rfl, C5⟩; have P5 := P4.keep C5; have c5 := HC.out _ (C4.then C5 (by simp))))
            | (go_at_call 11; refine (HO.out _ P5.k).mono ?_; rintro e w6 ⟨rfl, rfl⟩)
            | (go_at_call 12; refine (HI.out _).mono ?_; rintro e w6 ⟨rfl, rfl⟩))
          go_roundw
          case rel => exact ⟨k + 1, _, _, _, _, by omega, by omega, by go_num, P5, (H3.then C4 (by simp)).then C5 (by simp)⟩
          case measure => simp [intOf] <;> omega
      · rw [decide_eq_false hz] at HI hov
        rw [show (c' pl).isSome = false from by rw [hov]; rfl] at HO
        clear hov hz
        go_wp2_with (first
          | (go_at_call 8; refine (HA.out _ P3.k).mono ?_; rintro e w4 ⟨rfl, rfl⟩)
          | (go_at_call 9; ((with_reducible refine (HS1.out _ P3.r).mono ?_); rintro e w4 ⟨rfl, C4⟩; have P4 := P3.keep C4))
          | (go_at_call 10; refine (HL.out _ P4.k).mono ?_; rintro e w5 ⟨rfl, rfl⟩)
          | (go_at_call 9; ((with_reducible refine (HS2.out _ P4.r).mono ?_); rintro e w5 ⟨rfl, C5⟩; have P5 := P4.keep C5))
          | (go_at_call 11; refine (HO.out _ P5.k).mono ?_; rintro e w6 ⟨rfl, rfl⟩)
          | (go_at_call 12; refine (HI.out _).mono ?_; rintro e w6 ⟨rfl, rfl⟩))
        go_roundw
        case rel => exact ⟨k + 1, _, _, _, _, by omega, by omega, by go_num, P5, (H3.then C4 (by simp)).then C5 (by simp)⟩
        case measure => simp [intOf] <;> omega
    · rcases (show (k < rows.length ∧ decide ((k : Int) < 90) = false) ∨ ¬ k < rows.length by by_cases h : k < rows.length; exact .inl ⟨h, by simp; omega⟩; exact .inr h) with ⟨hkl2, d90⟩ | hkl2
      all_goals
        clear hkl
        go_wp2_with (go_at_call 13; refine (awake_any _).mono ?_; rintro e w7 ⟨rfl, C7⟩)
        go_ret
        exact ⟨rfl, H.then C7 (by simp)⟩
namespace kinPlays
open Go.ChangeShapes Go.WideShapes Go.ChangeAt
theorem own : ownKnob Try.prog.godebug = none := by kernel_rfl
theorem laidOut : laidOutB Try.prog = true := by kernel_rfl

set_option maxRecDepth 100000 in
theorem lifted (os : Os) (started : os.Started) (H : Type) (enc : TypeId × Value → H) :
    ReturnsInHanded {} Try.checked os 3 .any (Rows.kinPlaysSpec.pre6 enc Try.prog Try.f3 Rows.kinPlaysRow.domain false) (Rows.kinPlaysSpec.post enc Try.prog Try.f3 false true false false) := by
  refine returnsInHanded_of_change (C := Try.checked) own started (by kernel_rfl) Try.func3
    (ChangeSpec.witness6 (enc := enc) (C := Try.checked) false ⟨#[], #[.slice none 0 0, .int .i64 0], []⟩ 8 (by kernel_rfl) (by kernel_rfl) (by kernel_rfl) (by kernel_rfl)) ?_
  intro W base args ds gs before hval0 hW hcnd _
  have hval : ∀ (j : Nat) t v, Try.f3.params[j]? = some t → args[j]? = some v → Value.okWide Try.prog W .any base t v := hval0
  have hW' := hW
  obtain ⟨p, q, hA0, hV, rfl, hfz, hnd⟩ := hW
  have hA : DataW.TrodAll enc Try.prog W 0 (fun _ => true) true Try.f3.params.toList args.toList ds p := hA0
  rw [Try.params3] at hA hval
  obtain ⟨v0, vs0, d0, ds0, p0, q0, hargs, rfl, rfl, h0, r0⟩ := trodAll_cons hA
  obtain ⟨v1, vs1, d1, ds1, p1, q1, rfl, rfl, rfl, h1, r1⟩ := trodAll_cons r0
  obtain ⟨rfl, rfl, rfl⟩ := trodAll_nil r1
  obtain rfl : args = #[v0, v1] := by cases args; simp_all
  obtain ⟨rfl, rfl⟩ := trodVars_none hV
  obtain ⟨a0, len0, cap0, rfl⟩ := okWide_slice Try.underlying22 (hval 0 22 v0 rfl rfl)
  have k0 := h0
  have lt0 : ∀ x ∈ p0, x.block < W.heap.size := by obtain ⟨m, hm⟩ := k0; exact DataW.trod_lt m _ _ _ hm
  obtain ⟨l0, hl0, hr0⟩ := open_elems (Q := ActRow) Try.underlying22 5 (by decide) (by kernel_rfl) (fun fuel cs y hy => ActRow_of fuel cs y hy) h0
  obtain ⟨a1, rfl, rfl, rfl, w1⟩ := open_int Try.underlying3 (hval 1 3 v1 rfl rfl) h1
  have b1 := bounds_i64 w1
  clear hA0 hval0
  simp only [List.append_nil] at hW'
  refine (kinPlays_walk W _ l0 hl0 hr0 a1 b1.1 b1.2).mono fun e W' ⟨he, hg⟩ => ?_
  subst he
  exact ⟨_, rfl, _, _, _, [], _, [], hW', trodAll_mk1 (shut_bool Try.underlying4 _), (trodAll_cons_mk (Below.trod laidOut (by kernel_rfl) (of_decide_eq_true (by kernel_rfl)) k0 hg.below lt0) (trodAll_cons_mk (shut_int Try.underlying3 w1) trodAll_mk0)), rfl, hg.below.frame _, fun h => by cases h⟩

theorem over : Rows.kinPlaysRow.holds Try.pinned (OpenSpec.ofChange Rows.kinPlaysSpec) :=
  OpenClaim.holds_of_wide 3 Try.f3 rfl rfl rfl rfl rfl rfl rfl ⟨rfl, rfl, rfl, rfl, rfl⟩ rfl rfl rfl rfl rfl (by kernel_rfl) Try.func3 (by kernel_rfl)
    (of_decide_eq_true (by kernel_rfl)) (by unfold Func.isWrapper; first | (rw [if_pos (by decide +kernel)]; kernel_rfl) | (rw [if_neg (by decide +kernel)]; exact ⟨rfl, rfl⟩))
    (fun os started H enc _ => lifted os started H enc)
end kinPlays

theorem kinPlays_holds : Rows.KinPlaysSaid := kinPlays.over
#print axioms kinPlays_holds
end Go.Proofs.Ytiidlbicdkmloaa
