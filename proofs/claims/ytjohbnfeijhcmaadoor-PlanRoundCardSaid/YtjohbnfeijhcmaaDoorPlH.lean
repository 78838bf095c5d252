/- plan: the walk of Gap. -/
import Derived.Test.YtjohbnfeijhcmaaDoorPl9
import Derived.Test.YtjohbnfeijhcmaaDoorPlG
import Derived.Deep.OwnRows
namespace Bosun
open Go
theorem cln_in (l : List Ent) (n : Int) (h : 1 ≤ n) : ∀ e ∈ cln l n, 0 ≤ e.cpu ∧ e.cpu < (n.toNat : Nat) := by
  intro e he
  have := (List.mem_filter.1 he).2
  have hg : e.good n := by simpa using this
  obtain ⟨h1, h2, h3⟩ := hg
  omega
/-- A row of whole numbers. -/
def intRow (n : Nat) (f : Nat → Int) : Array Value := ((List.range n).map fun i => Value.int .i64 (f i)).toArray
theorem intRow_size (n : Nat) (f : Nat → Int) : (intRow n f).size = n := by simp [intRow]
theorem intRow_get (f : Nat → Int) {n j : Nat} (h : j < n) : (intRow n f)[j]? = some (.int .i64 (f j)) := by simp [intRow, h]
theorem intRow_congr {n : Nat} {f g : Nat → Int} (h : ∀ j, j < n → f j = g j) : intRow n f = intRow n g := by
  simp only [intRow]
  congr 1
  refine List.map_congr_left fun j hj => ?_
  rw [h j (by simpa using hj)]
theorem intRow_set (n : Nat) (f : Nat → Int) (k : Nat) (x : Int) : (intRow n f).setIfInBounds k (.int .i64 x) = intRow n (fun j => if j = k then x else f j) := by
  apply Array.ext
  · simp [intRow]
  · intro i h1 h2
    simp only [intRow_size, Array.size_setIfInBounds] at h1
    rw [Array.getElem_setIfInBounds (by simpa [intRow_size] using h1)]
    simp only [intRow, List.getElem_toArray, List.getElem_map, List.getElem_range]
    by_cases h : k = i
    · subst h; simp
    · rw [if_neg h, if_neg (Ne.symm h)]
theorem intRow_zero (n : Nat) : Array.replicate n (Value.int .i64 0) = intRow n (fun _ => 0) := by
  apply Array.ext
  · simp [intRow]
  · intro i h1 h2; simp [intRow]
theorem madeCells_int (n : Nat) : madeCells #[Value.int .i64 0] n = intRow n (fun _ => 0) := by
  rw [madeCells_one, intRow_zero]
end Bosun
namespace Go.Proofs.YtjohbnfeijhcmaaDoor
open Go.RowKit Bosun Go.ChangeShapes Go.WideShapes Go.ChangeAt
theorem infoInt : (Tryd.prog.info? 3).map (fun i => (i.zero, i.size, i.bytes)) = some (some (.int .i64 0), 1, 8) := by kernel_rfl
set_option maxHeartbeats 4000000 in
theorem some_any (n : Int) (w : World) : Calls Tryd.prog 26 #[.int .i64 n] w fun e w' => e = .returned (.bool (decide (1 ≤ n ∧ n ≤ 64))) ∧ w' = w := by
  go_enter Tryd.func26, Tryd.ntmps26
  by_cases h1 : 1 ≤ n
  · go_wp2_with fail
    go_ret
    exact ⟨ret_bool (by by_cases h : n ≤ 64 <;> simp [h, h1]), rfl⟩
  · go_wp2_with fail
    go_ret
    exact ⟨ret_bool (by simp; omega), rfl⟩
set_option maxHeartbeats 8000000 in
theorem gap_any (v : Value) (l : List Ent) (n : Int) (w : World) (hv : ReadsE w v l) (hl : l.length ≤ 10000) :
    Calls Tryd.prog 18 #[v, .int .i64 n] w fun e w' => ∃ r : Int, e = .returned (.int .i64 r) ∧ (¬ (1 ≤ n ∧ n ≤ 64) → r = 0) ∧ ((1 ≤ n ∧ n ≤ 64) → ∃ k : Nat, r = k ∧ IsGap (cln l n) n.toNat k) ∧ Chg [] w w' := by
  by_cases hn : 1 ≤ n ∧ n ≤ 64
  · obtain ⟨m, rfl⟩ : ∃ m : Nat, n = m := ⟨n.toNat, by omega⟩
    have hm1 : 1 ≤ m := by omega
    have hm64 : m ≤ 64 := by omega
    have HC := Lib.hid (clean_any v l m w hv hl)
    have hin := cln_in l m (by omega)
    rw [Int.toNat_natCast] at hin
    have hLl := cln_len l m
    obtain ⟨L, hL⟩ : ∃ L, L = cln l (m : Int) := ⟨_, rfl⟩
    rw [← hL] at HC hin hLl ⊢
    have HN := Lib.hid hn
    have HI := Lib.hid hin
    have HLL := Lib.hid (Nat.le_trans hLl hl)
    have hmk := run_make_row' (P := Tryd.prog) 47 3 (.int .i64 0) 8 Tryd.underlying47 infoInt rfl .i64 .i64 m (by omega) (by omega)
    clear hL hv hl hin hLl
    go_enter Tryd.func18, Tryd.ntmps18
    go_wp2_with fail
    refine (some_any _ _).mono ?_
    rintro e w1 ⟨rfl, rfl⟩
    rw [decide_eq_true HN.out]
    have hn1 : ¬ (m : Int) < 1 := by omega
    go_wp2_with fail
    refine HC.out.mono ?_
    rintro e w2 ⟨u, rfl, O2, C2⟩
    obtain ⟨gx, cap, rfl, O3⟩ := O2.shape
    clear O2
    go_wp2_with fail
    obtain ⟨w3, hw3⟩ : ∃ w3, w3 = w2.alloc (.cells (intRow m (fun _ => 0)) 3) := ⟨_, rfl⟩
    have B3 : Blk w3 w2.heap.size (intRow m (fun _ => 0)) 3 := by rw [hw3]; exact Blk.new w2 _ _
    have C3 : Chg [] w2 w3 := by rw [hw3]; exact (Chg.refl _ _).alloc _
    rw [madeCells_int, ← hw3]
    obtain ⟨B, hB⟩ : ∃ B, B = w2.heap.size := ⟨_, rfl⟩
    rw [← hB] at B3 ⊢
    have HB := Lib.hid (show w2.heap.size ≤ B by rw [hB]; exact Nat.le_refl _)
    have H2 := Lib.hid C2
    have R2 := Lib.hid O3.reads
    clear hw3 hB hmk HC C2 O3
    go_loopw [22] (fun x22 wr => ∃ k : Nat, k ≤ m ∧ x22 = .int .i64 k ∧ Blk wr B (intRow m (fun j => if j < k then -1 else 0)) 3 ∧ Chg [] w2 wr) (fun x22 _ => m - (intOf x22).toNat)
    case atStart => exact ⟨0, by omega, rfl, by simpa using B3, C3⟩
    case round =>
      obtain ⟨k, hk, rfl, BQ, CQ⟩ := hrel
      by_cases hkm : k < m
      · have hkmi : (k : Int) < (m : Int) := by omega
        have q0 : wr.cell? ⟨B, k, none⟩ = some (.int .i64 0) := by rw [BQ.cell, intRow_get _ hkm]; simp
        have qz : wr.frozen? ⟨B, k, none⟩ = false := BQ.frozen _
        go_wp2_with fail
        have BN := BQ.setCell k (.int .i64 (-1))
        rw [intRow_set, intRow_congr (g := fun j => if j < k + 1 then -1 else 0) (fun j _ => by by_cases h1 : j = k <;> by_cases h2 : j < k <;> by_cases h3 : j < k + 1 <;> simp [h1, h2, h3] <;> omega)] at BN
        exact ⟨⟨k + 1, by omega, by go_num, BN, CQ.setCell (.inr HB.out) _⟩, by simp only [intOf]; omega⟩
      · obtain rfl : m = k := by omega
        rw [intRow_congr (g := fun _ => -1) (fun j hj => if_pos hj)] at BQ
        obtain ⟨gx0, cap0, hrv, hmr, hcr⟩ := R2.out
        rw [List.length_map] at hrv hmr
        simp at hrv
        obtain ⟨rfl, rfl⟩ := hrv
        have HCR := Lib.hid hcr
        have hLL := HLL.out
        clear B3 C3 hcr
        go_wp2_with fail
        go_loopw [7, 31] (fun x7 x31 wq => ∃ (i : Nat) (g : Int) (f : Nat → Int), i ≤ L.length ∧ x31 = .int .i64 i ∧ x7 = .int .i64 g ∧ Hid (GapTo L i g) ∧ Hid (∀ c : Nat, c < m → LastOK L i c (f c)) ∧ Blk wq B (intRow m f) 3 ∧ Chg [] w2 wq) (fun _ x31 _ => L.length - (intOf x31).toNat)
        case atStart => exact ⟨0, 1, fun _ => -1, by omega, rfl, rfl, Lib.hid (gapTo_zero L), Lib.hid fun c _ => lastOK_zero L c, BQ, CQ⟩
        case round =>
          clear BQ CQ
          obtain ⟨i, g, f, hi, rfl, rfl, HG, HF, BQ, CQ⟩ := hrel
          by_cases hil : i < L.length
          · obtain ⟨gb, off, rfl, cg⟩ := HCR.out i L[i].cells (by simp [hil])
            have hil2 : (i : Int) < (L.length : Int) := by omega
            obtain ⟨x, hx⟩ : ∃ x, x = L[i] := ⟨_, rfl⟩
            have hxm := HI.out _ (List.getElem_mem hil)
            have HX := Lib.hid (show L[i]? = some x by rw [List.getElem?_eq_getElem hil, hx])
            rw [← hx] at cg hxm
            obtain ⟨c, t, d⟩ := x
            obtain ⟨c, rfl⟩ : ∃ k : Nat, c = k := ⟨c.toNat, by have := hxm.1; simp only at this; omega⟩
            have hcm : c < m := by have := hxm.2; simp only at this; omega
            have hcmi : (c : Int) < (m : Int) := by omega
            have l1 : gb < w2.heap.size := World.block_lt_of_cell? w2 _ (cg 0 _ rfl)
            have f0 : wr.cell? ⟨gb, off + i * 3, none⟩ = some (.int .i64 (c : Nat)) := (World.cell?_of_block (w := w2) (CQ.block gb l1 (by simp))).trans (cg 0 _ rfl)
            have f1 : wr.cell? ⟨gb, off + i * 3 + 1, none⟩ = some (.bool t) := (World.cell?_of_block (w := w2) (CQ.block gb l1 (by simp))).trans (cg 1 _ rfl)
            have f2 : wr.cell? ⟨gb, off + i * 3 + 2, none⟩ = some (.int .u64 (d : Nat)) := (World.cell?_of_block (w := w2) (CQ.block gb l1 (by simp))).trans (cg 2 _ rfl)
            have HLo := Lib.hid (HF.out c hcm)
            clear cg hx hxm
            go_upto_region 14 with (fail)
            obtain ⟨w4, hw4⟩ : ∃ w4, w4 = wr.alloc (.cells #[.int .i64 (c : Nat), .bool t, .int .u64 (d : Nat)] 36) := ⟨_, rfl⟩
            have E4 : Blk w4 wr.heap.size #[.int .i64 (c : Nat), .bool t, .int .u64 (d : Nat)] 36 := by rw [hw4]; exact Blk.new wr _ _
            have B4 : Blk w4 B (intRow m f) 3 := by rw [hw4]; exact BQ.alloc _
            have C4 : Chg [] w2 w4 := by rw [hw4]; exact CQ.alloc _
            rw [← hw4]
            obtain ⟨E, hE⟩ : ∃ E, E = wr.heap.size := ⟨_, rfl⟩
            rw [← hE] at E4 ⊢
            clear hw4 hE CQ BQ f0 f1 f2
            have e0 : w4.cell? ⟨E, 0, none⟩ = some (.int .i64 (c : Nat)) := E4.cell 0
            have b0 : w4.cell? ⟨B, c, none⟩ = some (.int .i64 (f c)) := by rw [B4.cell, intRow_get _ hcm]
            have bz : w4.frozen? ⟨B, c, none⟩ = false := B4.frozen _
            obtain ⟨V, hV⟩ : ∃ V, V = f c := ⟨_, rfl⟩
            rw [← hV] at b0 HLo
            have hv1 := HLo.out.1
            have hv2 := HLo.out.2.1
            have hg1 := HG.out.1
            have hg2 := HG.out.2.1
            have BN := Lib.hid ((B4.setCell c (.int .i64 (i : Nat))))
            have CN := Lib.hid (C4.setCell (a := ⟨B, c, none⟩) (.inr HB.out) (.int .i64 (i : Nat)))
            have HV := Lib.hid hV
            clear hV E4 B4 C4
            go_wp2_with fail
            refine ⟨⟨i + 1, _, fun j => if j = c then i else f j, by omega, by go_num, rfl, Lib.hid (gapTo_succ HX.out HG.out HLo.out), Lib.hid fun j hj => ?_, by rw [← intRow_set]; exact BN.out, CN.out⟩, by simp only [intOf]; omega⟩
            show LastOK L (i + 1) (j : Int) (if j = c then (i : Int) else f j)
            by_cases h : j = c
            · subst h; rw [if_pos rfl]; exact lastOK_same HX.out
            · rw [if_neg h]; exact lastOK_other HX.out (by simp only; omega) (HF.out j hj)
          · obtain rfl : i = L.length := by omega
            have HZ := Lib.hid (endTo_zero HG.out)
            clear HG hi hil
            go_wp2_with fail
            go_loopw [7, 53] (fun x7 x53 wz => ∃ (k : Nat) (g : Int), k ≤ m ∧ x53 = .int .i64 k ∧ x7 = .int .i64 g ∧ Hid (EndTo L k g) ∧ Blk wz B (intRow m f) 3 ∧ Chg [] w2 wz) (fun _ x53 _ => m - (intOf x53).toNat)
            case atStart => exact ⟨0, g, by omega, rfl, rfl, HZ, BQ, CQ⟩
            case round =>
              clear BQ CQ HZ
              obtain ⟨k, g, hk, rfl, rfl, HG, BQ, CQ⟩ := hrel
              by_cases hkm : k < m
              · have hkmi : (k : Int) < (m : Int) := by omega
                have b0 : wr.cell? ⟨B, k, none⟩ = some (.int .i64 (f k)) := by rw [BQ.cell, intRow_get _ hkm]
                have HLo := Lib.hid (HF.out k hkm)
                obtain ⟨V, hV⟩ : ∃ V, V = f k := ⟨_, rfl⟩
                rw [← hV] at b0 HLo
                have hv1 := HLo.out.1
                have hv2 := HLo.out.2.1
                have hg1 := HG.out.1
                have hg2 := HG.out.2.1
                clear hV
                go_wp2_with fail
                exact ⟨⟨k + 1, _, by omega, by go_num, rfl, Lib.hid (endTo_succ HG.out HLo.out), BQ, CQ⟩, by simp only [intOf]; omega⟩
              · obtain rfl : m = k := by omega
                obtain ⟨r, hr1, hr2⟩ := endTo_gap HG.out HI.out
                have HR := Lib.hid hr1
                have CF := Lib.hid (H2.out.then CQ (by simp))
                clear hr1
                go_wp2_with fail
                go_ret
                exact ⟨_, rfl, fun h => absurd HN.out h, fun _ => ⟨r, HR.out, by simpa using hr2⟩, CF.out⟩
  · go_enter Tryd.func18, Tryd.ntmps18
    go_wp2_with fail
    refine (some_any _ _).mono ?_
    rintro e w1 ⟨rfl, rfl⟩
    rw [decide_eq_false hn]
    have HN := Lib.hid hn
    clear hn
    go_wp2_with fail
    go_ret
    exact ⟨0, rfl, fun _ => rfl, fun h => absurd h HN.out, Chg.refl _ _⟩
end Go.Proofs.YtjohbnfeijhcmaaDoor
