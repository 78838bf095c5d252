/- For every n and l the law MemPlays returns true: the walk. -/
import Derived.Test.YtkmdfcjgjkfdjaaMem5
import Derived.Test.YtkmdfcjgjkfdjaaStru
import Derived.Deep.DeepCutAuto
import Derived.Deep.RegionWith
namespace Go.Proofs.Ytkmdfcjgjkfdjaa
open Go.RowKit Bosun

/-- The cells of a bosun/bosunlaw13.Act. -/
def ActRow (r : List Value) : Prop := ∃ (kind : Int) (A : Int) (N : Int) (x : Nat) (old : Nat), 0 ≤ kind ∧ kind ≤ 255 ∧ -9223372036854775808 ≤ A ∧ A ≤ 9223372036854775807 ∧ -9223372036854775808 ≤ N ∧ N ≤ 9223372036854775807 ∧ x < 18446744073709551616 ∧ old < 18446744073709551616 ∧ r = [.int .u8 kind, .int .i64 A, .int .i64 N, .int .u64 x, .int .u64 old]
theorem ActRow_of {H : Type} {enc : TypeId × Value → H} {W : World} (fuel : Nat) (cs : List Value) (y : DataW H × List MemPlace) (h : DataW.trod enc Try.prog W 0 (fun _ => true) true fuel 39 cs = some y) : ActRow cs ∧ cs.length = 5 := by
  obtain ⟨ys, m, _, _, hl, hl2, hf⟩ := Go.DataW.trod_struct Try.underlying39 h
  have hc_uint8 : Try.prog.cellsOf 5 = 1 := by kernel_rfl
  have hc_int : Try.prog.cellsOf 3 = 1 := by kernel_rfl
  have hc_uint64 : Try.prog.cellsOf 22 = 1 := by kernel_rfl
  have hcl : cs.length = 5 := by rw [hl]; kernel_rfl
  refine ⟨?_, hcl⟩
  clear h hl
  match cs, hcl with
  | [c0, c1, c2, c3, c4], _ =>
    match ys, hl2 with
    | [y0, y1, y2, y3, y4], _ =>
      have h0 := hf 0 _ rfl
      have h1 := hf 1 _ rfl
      have h2 := hf 2 _ rfl
      have h3 := hf 3 _ rfl
      have h4 := hf 4 _ rfl
      clear hf
      simp [hc_uint8, hc_int, hc_uint64] at h0 h1 h2 h3 h4
      obtain ⟨z0, e0, _, s0⟩ := Go.DataW.trod_int Try.underlying5 h0
      have b0 := bounds_u8 s0
      obtain rfl : c0 = .int .u8 z0 := by simpa using e0
      obtain ⟨z1, e1, _, s1⟩ := Go.DataW.trod_int Try.underlying3 h1
      have b1 := bounds_i64 s1
      obtain rfl : c1 = .int .i64 z1 := by simpa using e1
      obtain ⟨z2, e2, _, s2⟩ := Go.DataW.trod_int Try.underlying3 h2
      have b2 := bounds_i64 s2
      obtain rfl : c2 = .int .i64 z2 := by simpa using e2
      obtain ⟨z3, e3, _, s3⟩ := Go.DataW.trod_int Try.underlying22 h3
      obtain ⟨m3, rfl, b3⟩ := nat_u64 s3
      obtain rfl : c3 = .int .u64 (m3 : Nat) := by simpa using e3
      obtain ⟨z4, e4, _, s4⟩ := Go.DataW.trod_int Try.underlying22 h4
      obtain ⟨m4, rfl, b4⟩ := nat_u64 s4
      obtain rfl : c4 = .int .u64 (m4 : Nat) := by simpa using e4
      exact ⟨z0, z1, z2, m3, m4, b0.1, b0.2, b1.1, b1.2, b2.1, b2.2, b3, b4, rfl⟩

theorem partN_all (W : List Nat) (h : W.length ≤ 600) : partN W 0 600 = W := by
  unfold partN partLo partHi
  rw [if_neg (by omega), if_neg (by omega), List.take_of_length_le (by simp; omega)]; rfl

set_option maxRecDepth 100000 in
set_option maxHeartbeats 16000000 in
theorem memPlays_walk (w : World) (n0 : Int) (h0 : -9223372036854775808 ≤ n0) (h1 : n0 ≤ 9223372036854775807) (v : Value) (rows : List (List Value)) (hr : ∀ r ∈ rows, ActRow r) (hv : ReadsS w v 5 rows) :
    Calls Try.prog 4 #[.int .i64 n0, v] w fun e w' => e = .returned (.bool true) ∧ Chg [] w w' := by
  obtain ⟨ao, cap, rfl, hm, hcell⟩ := hv
  unfold maxLen at hm
  have HCELL := Lib.hid hcell
  have HR := Lib.hid hr
  clear hcell hr
  go_enter Try.func4, Try.ntmps4
  go_upto_region 1 with (fail)
  go_cut [13] (fun s13 wx => ∃ b : Bool, s13 = .bool b ∧ (b = true → 600 < n0 ∧ n0 < 500000) ∧ w = wx)
  case first =>
    rcases (show (600 < n0 ∧ n0 < 500000) ∨ (600 < n0 ∧ decide (n0 < 500000) = false) ∨ decide (600 < n0) = false from by
      by_cases a1 : 600 < n0
      · by_cases a2 : n0 < 500000
        · exact .inl ⟨a1, a2⟩
        · exact .inr (.inl ⟨a1, by simp; omega⟩)
      · exact .inr (.inr (by simp; omega))) with ⟨a1, a2⟩ | ⟨a1, a2⟩ | a1
    · go_wp2_with fail
      go_meet
      exact ⟨true, rfl, fun _ => ⟨a1, a2⟩, rfl⟩
    · go_wp2_with fail
      go_meet
      exact ⟨false, rfl, (fun e => by cases e), rfl⟩
    · go_wp2_with fail
      go_meet
      exact ⟨false, rfl, (fun e => by cases e), rfl⟩
  case rest =>
  obtain ⟨b, rfl, hb, hwx⟩ := hcut
  subst hwx
  go_upto_if 13 with (fail)
  go_cut [0] (fun s0 wx => ∃ m : Int, -9223372036854775808 ≤ m ∧ m ≤ 9223372036854775807 ∧ s0 = .int .i64 m ∧ w = wx)
  case first =>
    cases b with
    | true =>
      obtain ⟨a1, a2⟩ := hb rfl
      clear hb
      go_wp2_with fail
      go_meet
      exact ⟨n0 % 600, by omega, by omega, rfl, rfl⟩
    | false =>
      clear hb
      go_wp2_with fail
      go_meet
      exact ⟨n0, h0, h1, rfl, rfl⟩
  case rest =>
    obtain ⟨m, hm0, hm1, rfl, hwx⟩ := hcut
    subst hwx
    clear hb h0 h1
    obtain ⟨c, hc⟩ : ∃ c, c = (min (max m 0) 524288).toNat := ⟨_, rfl⟩
    have HC := Lib.hid hc
    have hc2 : c ≤ 524288 := by omega
    clear hc
    go_wp2_with fail
    refine (new_any m c HC.out _).mono ?_
    rintro e w1 ⟨bm, bw, rfl, M1, C1, g1, g2⟩
    go_wp2_with fail
    refine (rnew_any m c HC.out _).mono ?_
    rintro e w2 ⟨rm, rw, rfl, R2, C2, g3, g4⟩
    obtain ⟨W0, hW0⟩ : ∃ W0, W0 = List.replicate c 0 := ⟨_, rfl⟩
    have hlen : W0.length = c := by rw [hW0]; simp
    rw [← hW0] at M1 R2
    clear hW0
    have B2 : Both w2 bm bw rm rw W0 0 := ⟨M1.keep C2, R2, by have := M1.head.lt; omega, by have := M1.head.lt; omega, by have := M1.row.lt; omega, by have := M1.row.lt; omega⟩
    have C12 := C1.then C2 (by simp)
    have hs1 := C1.size
    have hs : ∀ g, g ∈ [bm, bw, rm, rw] → g ∈ ([] : List Nat) ∨ w.heap.size ≤ g := fun g hg => .inr (by simp at hg; omega)
    clear M1 C1 R2 C2 g1 g2 g3 g4 hs1
    have c0 := B2.r.c0
    rw [hlen] at c0
    go_wp2_with fail
    go_region_held3 (fun w' => w'.cell? ⟨rm, 0, none⟩ = some (.slice (some ⟨rw, 0, none⟩) c c)) (first | assumption | exact c0)
      (first
        | (go_at_call 13; refine (len_any bm bw _ _ _ B2.m.drew).mono ?_; rw [hlen]; rintro e w3 ⟨rfl, rfl⟩))
    go_wp2_with fail
    go_loopw [7] (fun i wq => ∃ (k : Nat) (W : List Nat) (u : Nat), k ≤ rows.length ∧ k ≤ 40 ∧ i = .int .i64 k ∧ Both wq bm bw rm rw W u ∧ W.length = c ∧ Chg [] w wq)
      (fun i _ => 40 - (intOf i).toNat)
    case atStart => exact ⟨0, W0, 0, by omega, by omega, rfl, B2.keep (Chg.refl _ _).drew, hlen, C12.drew⟩
    case round =>
      rename_i wr _
      obtain ⟨k, W, u, hk, hk2, rfl, B, hW, H⟩ := hrel
      by_cases hkl : k < rows.length ∧ k < 40
      · obtain ⟨hkl, hk40⟩ := hkl
        obtain ⟨g, off, rfl, hc⟩ := HCELL.out k _ (List.getElem?_eq_getElem hkl)
        obtain ⟨kind, A, N, x, old, a1, a2, a3, a4, a5, a6, a7, a8, hrow⟩ := HR.out _ (List.getElem_mem hkl)
        rw [hrow] at hc
        have f0 : wr.cell? ⟨g, off + k * 5, none⟩ = some (.int .u8 kind) := by
          rw [World.cell?_of_block (w := w) (H.block g (World.block_lt_of_cell? w _ (hc 0 _ rfl)) (by simp)), ← hc 0 _ rfl]; rfl
        have hfr : ∀ (j : Nat) y, ([.int .u8 kind, .int .i64 A, .int .i64 N, .int .u64 x, .int .u64 old] : List Value)[j]? = some y → ∀ w5, Chg [] w w5 → w5.cell? ⟨g, off + k * 5 + j, none⟩ = some y := fun j y hy w5 h5 => by
          rw [World.cell?_of_block (w := w) (h5.block g (World.block_lt_of_cell? w _ (hc j _ hy)) (by simp)), hc j _ hy]
        have HFR := Lib.hid hfr
        clear hc hfr hrow
        by_cases hskip : kind % 5 = 4 ∧ 600 < c
        · obtain ⟨e4, hc6⟩ := hskip
          have e1 : (kind % 5 == 4) = true := by simp [e4]
          have c0 := B.r.c0
          rw [hW] at c0
          go_wp2_with fail
          all_goals
            go_roundw
            case rel => exact ⟨k + 1, W, u, by omega, by omega, by go_num, B, hW, H⟩
            case measure => simp [intOf] <;> omega
        · have e1 : kind % 5 = 4 ∧ decide (600 < (c : Int)) = false ∨ (kind % 5 == 4) = false := by
            by_cases h4 : kind % 5 = 4
            · exact .inl ⟨h4, by simp; omega⟩
            · exact .inr (by simpa using h4)
          have c0 := B.r.c0
          rw [hW] at c0
          rcases e1 with ⟨e1, e2⟩ | e1
          all_goals
            try replace e1 : (kind % 5 == 4) = true := by simp [e1]
            go_wp2_with fail
            have k0 : wr.cell? ⟨g, off + k * 5, none⟩ = some (.int .u8 kind) ∧ wr.cell? ⟨g, off + k * 5 + 1, none⟩ = some (.int .i64 A) ∧ wr.cell? ⟨g, off + k * 5 + 2, none⟩ = some (.int .i64 N) ∧ wr.cell? ⟨g, off + k * 5 + 3, none⟩ = some (.int .u64 x) ∧ wr.cell? ⟨g, off + k * 5 + 4, none⟩ = some (.int .u64 old) :=
              ⟨HFR.out 0 _ rfl _ H, HFR.out 1 _ rfl _ H, HFR.out 2 _ rfl _ H, HFR.out 3 _ rfl _ H, HFR.out 4 _ rfl _ H⟩
            have K0 := Lib.hid k0
            obtain ⟨q0, q1, q2, q3, q4⟩ := k0
            go_region_with
              (first
                | (go_at_call 14; refine (does_any bm bw rm rw W u _ (B.keep (Chg.refl _ _).drew) kind A N x old a1 a2 a3 a4 a5 a6 a7 a8).mono ?_; rintro e w5 ⟨rfl, W5, u5, B5, hl5, C5⟩; have c5 := B5.r.c1; have H5 := H.drew.then C5 hs; have k5 := And.intro (HFR.out 0 _ rfl _ H5) (And.intro (HFR.out 1 _ rfl _ H5) (And.intro (HFR.out 2 _ rfl _ H5) (And.intro (HFR.out 3 _ rfl _ H5) (HFR.out 4 _ rfl _ H5)))); have e5 : ((u5 : Int) == (u5 : Int)) = true := by simp)
                | (go_at_call 15; refine (used_any bm bw _ _ _ B5.m).mono ?_; rintro e w6 ⟨rfl, rfl⟩))
            go_wp2_with fail
            all_goals
              go_roundw
              case rel => exact ⟨k + 1, W5, u5, by omega, by omega, by go_num, B5, hl5.trans hW, H5⟩
              case measure => simp [intOf] <;> omega
      · have c0 := B.r.c0
        rw [hW] at c0
        rcases (show (k < rows.length ∧ decide ((k : Int) < 40) = false) ∨ ¬ k < rows.length by by_cases h : k < rows.length; exact .inl ⟨h, by simp; omega⟩; exact .inr h) with ⟨hkl2, d40⟩ | hkl2
        all_goals
          clear hkl
          have HRD : ∀ w5, IsRef w5 rm rw W u → Reads w5 (.slice (some ⟨rw, 0, none⟩) c c) (words W) := fun w5 h5 => h5.row.reads c c (by simp [words_len, hW]) (by simp [words_len, hW]; unfold maxLen; omega) (by rw [List.take_of_length_le (by simp [words_len, hW])])
          go_wp2_with fail
          rcases (show (600 : Int) < c ∨ (decide (600 < (c : Int)) = false ∧ W.length ≤ 600) by by_cases h : 600 < c; exact .inl (by omega); exact .inr ⟨by simp; omega, by omega⟩) with hcc | ⟨hcc, hcw⟩
          · refine wp_region_quiet_lit (by kernel_rfl) (by kernel_rfl) ?_
            repeat (any_goals (first | go_big_quiet_step (fail) | quiet_step (fail)))
            refine wpQuiet_nil ?_
            rintro _ ⟨nq, rfl⟩
            go_wp2_with fail
            go_ret
            exact ⟨rfl, H.drewN _⟩
          · go_region_held3 (fun w' => w'.cell? ⟨rm, 0, none⟩ = some (.slice (some ⟨rw, 0, none⟩) c c)) (first | assumption | exact c0)
              (first
                | (go_at_call 17; refine (part_any bm bw W u _ B.m.drew 0 600 (by decide) (by decide) (by decide) (by decide)).mono ?_; rw [partN_all W hcw]; rintro e w5 ⟨v5, rfl, O5, C5⟩; have c5 := (B.r.drew.keep C5).c0; rw [hW] at c5)
                | (go_at_call 16; refine (msame_any _ _ W W _ O5.reads (HRD _ (B.r.drew.keep C5))).mono ?_; rw [decide_eq_true rfl]; rintro e w6 ⟨rfl, C6⟩; have c6 := ((B.r.drew.keep C5).keep C6).c0; rw [hW] at c6)
                | (go_at_call 11; refine (awake_any _).mono ?_; rintro e w7 ⟨rfl, C7⟩; have c7 := (((B.r.drew.keep C5).keep C6).keep C7).c0; rw [hW] at c7))
            go_wp2_with fail
            go_ret
            exact ⟨rfl, ((H.drew.then C5 (by simp)).then C6 (by simp)).then C7 (by simp)⟩
end Go.Proofs.Ytkmdfcjgjkfdjaa
