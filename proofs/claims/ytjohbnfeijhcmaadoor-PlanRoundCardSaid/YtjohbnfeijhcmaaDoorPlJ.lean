/- plan: the walk of Beat. -/
import Derived.Test.YtjohbnfeijhcmaaDoorPlI
namespace Go.Proofs.YtjohbnfeijhcmaaDoor
open Go.RowKit Bosun Go.ChangeShapes Go.WideShapes Go.ChangeAt
/-- What Beat answers. -/
def BeatSays (l : List Ent) (n r : Int) : Prop := (¬ (1 ≤ n ∧ n ≤ 64) → r = 0) ∧ ((1 ≤ n ∧ n ≤ 64) → ∃ k : Nat, r = k ∧ IsBeat (cln l n) n.toNat k)
theorem beatSays_of {l L : List Ent} {m k : Nat} (hn : 1 ≤ (m : Int) ∧ (m : Int) ≤ 64) (hL : L = cln l (m : Int)) (h : IsBeat L m k) : BeatSays l m k :=
  ⟨fun h => absurd hn h, fun _ => ⟨k, rfl, by rw [← hL]; simpa using h⟩⟩
theorem BeatSays.uniq {l : List Ent} {n r s : Int} (a : BeatSays l n r) (b : BeatSays l n s) : r = s := by
  by_cases h : 1 ≤ n ∧ n ≤ 64
  · obtain ⟨k, rfl, hk⟩ := a.2 h
    obtain ⟨j, rfl, hj⟩ := b.2 h
    rw [hk.uniq hj]
  · rw [a.1 h, b.1 h]
set_option maxHeartbeats 8000000 in
theorem beat_any (v : Value) (l : List Ent) (n : Int) (w : World) (hv : ReadsE w v l) (hl : l.length ≤ 10000) :
    Calls Tryd.prog 19 #[v, .int .i64 n] w fun e w' => ∃ r : Int, e = .returned (.int .i64 r) ∧ BeatSays l n r ∧ Chg [] w w' := by
  by_cases hn : 1 ≤ n ∧ n ≤ 64
  · obtain ⟨m, rfl⟩ : ∃ m : Nat, n = m := ⟨n.toNat, by omega⟩
    have hm1 : 1 ≤ m := by omega
    have hm64 : m ≤ 64 := by omega
    have HC := Lib.hid (fun w1 (h : Chg [] w w1) => clean_any v l m w1 (hv.keep h) hl)
    have hin := cln_in l m (by omega)
    rw [Int.toNat_natCast] at hin
    have hLl := cln_len l m
    obtain ⟨L, hL⟩ : ∃ L, L = cln l (m : Int) := ⟨_, rfl⟩
    have HL : Hid (L = cln l (m : Int)) := hL
    rw [← hL] at HC hin hLl
    have HN := Lib.hid hn
    have HI := Lib.hid hin
    have HLL := Lib.hid (Nat.le_trans hLl hl)
    have hmk := run_make_row' (P := Tryd.prog) 47 3 (.int .i64 0) 8 Tryd.underlying47 infoInt rfl .i64 .i64 m (by omega) (by omega)
    clear hL hv hl hin hLl
    go_enter Tryd.func19, Tryd.ntmps19
    go_wp2_with fail
    refine (some_any _ _).mono ?_
    rintro e w1 ⟨rfl, rfl⟩
    rw [decide_eq_true HN.out]
    have hn1 : ¬ (m : Int) < 1 := by omega
    go_wp2_with fail
    go_big_region
    obtain ⟨w2, hw2⟩ : ∃ w2, w2 = (w1.alloc (.cells (intRow m (fun _ => 0)) 3)).drew := ⟨_, rfl⟩
    have B2 : Blk w2 w1.heap.size (intRow m (fun _ => 0)) 3 := by rw [hw2]; exact Blk.new w1 _ _
    have C2 : Chg [] w1 w2 := by rw [hw2]; exact ((Chg.refl _ _).alloc _).drew
    rw [madeCells_int, ← hw2]
    obtain ⟨B, hB⟩ : ∃ B, B = w1.heap.size := ⟨_, rfl⟩
    rw [← hB] at B2 ⊢
    have HB := Lib.hid hB
    have HC2 := Lib.hid (HC.out w2 C2)
    clear hw2 hB hmk HC
    go_wp2_with fail
    refine HC2.out.mono ?_
    rintro e w3 ⟨u, rfl, O3, C3⟩
    have N3 := O3.fresh (g := B) (.inr B2.lt)
    obtain ⟨gx, cap, rfl, O4⟩ := O3.shape
    have R3 := Lib.hid O4.reads
    have B3 := B2.chg C3 (by simp)
    have H3 := Lib.hid (C2.then C3 (by simp))
    clear O3 O4 C3 C2 B2 HC2
    obtain ⟨gx0, cap0, hrv, hmr, hcr⟩ := R3.out
    rw [List.length_map] at hrv hmr
    simp at hrv
    obtain ⟨rfl, rfl⟩ := hrv
    have HCR := Lib.hid hcr
    have hLL := HLL.out
    clear hcr
    go_wp2_with fail
    go_loopw [5, 18] (fun x5 x18 wq => ∃ (i : Nat) (b : Int) (f : Nat → Int), i ≤ L.length ∧ x18 = .int .i64 i ∧ x5 = .int .i64 b ∧ Hid (BeatTo L m i b) ∧ Hid (∀ c : Nat, c < m → SinceOK L i c (f c)) ∧ Blk wq B (intRow m f) 3 ∧ Chg [B] w3 wq) (fun _ x18 _ => L.length - (intOf x18).toNat)
    case atStart => exact ⟨0, 1, fun _ => 0, by omega, rfl, rfl, Lib.hid (beatTo_zero L m), Lib.hid fun c _ => sinceOK_zero L c, B3, Chg.refl _ _⟩
    case round =>
      clear B3
      obtain ⟨i, b, f, hi, rfl, rfl, HG, HF, BQ, CQ⟩ := hrel
      by_cases hil : i < L.length
      · obtain ⟨gb, off, rfl, cg⟩ := HCR.out i L[i].cells (by simp [hil])
        have hil2 : (i : Int) < (L.length : Int) := by omega
        have hgB : gb ≠ B := fun h => N3 (by simp [Value.ownBlock, h])
        obtain ⟨x, hx⟩ : ∃ x, x = L[i] := ⟨_, rfl⟩
        have hxm := HI.out _ (List.getElem_mem hil)
        have HX := Lib.hid (show L[i]? = some x by rw [List.getElem?_eq_getElem hil, hx])
        rw [← hx] at cg hxm
        obtain ⟨c, t, d⟩ := x
        obtain ⟨c, rfl⟩ : ∃ k : Nat, c = k := ⟨c.toNat, by have := hxm.1; simp only at this; omega⟩
        have hcm : c < m := by have := hxm.2; simp only at this; omega
        have hcmi : (c : Int) < (m : Int) := by omega
        have l1 : gb < w3.heap.size := World.block_lt_of_cell? w3 _ (cg 0 _ rfl)
        have f0 : wr.cell? ⟨gb, off + i * 3, none⟩ = some (.int .i64 (c : Nat)) := (World.cell?_of_block (w := w3) (CQ.block gb l1 (by simpa using hgB))).trans (cg 0 _ rfl)
        have f1 : wr.cell? ⟨gb, off + i * 3 + 1, none⟩ = some (.bool t) := (World.cell?_of_block (w := w3) (CQ.block gb l1 (by simpa using hgB))).trans (cg 1 _ rfl)
        have f2 : wr.cell? ⟨gb, off + i * 3 + 2, none⟩ = some (.int .u64 (d : Nat)) := (World.cell?_of_block (w := w3) (CQ.block gb l1 (by simpa using hgB))).trans (cg 2 _ rfl)
        have HLo := Lib.hid (HF.out c hcm)
        have hol := ownC_len (L.take i) c
        rw [List.length_take] at hol
        have hol2 := HLo.out.2.1
        have HS := Lib.hid (sinceOK_same HX.out (c := c) rfl HLo.out)
        have HT := Lib.hid (beatTo_succ HX.out (c := c) rfl hcm HG.out HS.out)
        clear cg hx hxm
        go_upto_region 7 with (fail)
        obtain ⟨w4, hw4⟩ : ∃ w4, w4 = wr.alloc (.cells #[.int .i64 (c : Nat), .bool t, .int .u64 (d : Nat)] 36) := ⟨_, rfl⟩
        have E4 : Blk w4 wr.heap.size #[.int .i64 (c : Nat), .bool t, .int .u64 (d : Nat)] 36 := by rw [hw4]; exact Blk.new wr _ _
        have B4 : Blk w4 B (intRow m f) 3 := by rw [hw4]; exact BQ.alloc _
        have C4 : Chg [B] w3 w4 := by rw [hw4]; exact CQ.alloc _
        rw [← hw4]
        have hBE : B < wr.heap.size := BQ.lt
        obtain ⟨E, hE⟩ : ∃ E, E = wr.heap.size := ⟨_, rfl⟩
        rw [← hE] at E4 hBE ⊢
        have hEB : E ≠ B := by omega
        clear hw4 hE CQ BQ f0 f1 f2 hBE
        obtain ⟨V, hV⟩ : ∃ V, V = f c := ⟨_, rfl⟩
        rw [← hV] at HLo HS HT hol2
        have hv1 := HLo.out.1
        have hv2 : V ≤ 10000 := by omega
        have e0 : w4.cell? ⟨E, 0, none⟩ = some (.int .i64 (c : Nat)) := E4.cell 0
        have b0 : w4.cell? ⟨B, c, none⟩ = some (.int .i64 V) := by rw [B4.cell, intRow_get _ hcm, hV]
        have bz : w4.frozen? ⟨B, c, none⟩ = false := B4.frozen _
        clear hV hol2 hol
        go_upto_region 8 with (fail)
        have B5 := B4.setCell c (.int .i64 (V + 1))
        have E5 := E4.setCell_other (a := ⟨B, c, none⟩) (.int .i64 (V + 1)) hEB
        have C5 := C4.setCell (a := ⟨B, c, none⟩) (.inl (by simp)) (.int .i64 (V + 1))
        obtain ⟨w5, hw5⟩ : ∃ w5, w5 = w4.setCell ⟨B, c, none⟩ (.int .i64 (V + 1)) := ⟨_, rfl⟩
        rw [← hw5] at B5 E5 C5 ⊢
        rw [intRow_set] at B5
        clear hw5 B4 E4 C4 e0 b0 bz
        have e0 : w5.cell? ⟨E, 0, none⟩ = some (.int .i64 (c : Nat)) := E5.cell 0
        have e1 : w5.cell? ⟨E, 1, none⟩ = some (.bool t) := E5.cell 1
        have b0 : w5.cell? ⟨B, c, none⟩ = some (.int .i64 (V + 1)) := by rw [B5.cell, intRow_get _ hcm]; simp
        have bz : w5.frozen? ⟨B, c, none⟩ = false := B5.frozen _
        have hg1 := HG.out.1
        cases t
        · go_wp2_with fail
          refine ⟨⟨i + 1, _, fun j => if j = c then V + 1 else f j, by omega, by go_num, rfl, Lib.hid HT.out, Lib.hid fun j hj => ?_, B5, C5⟩, by simp only [intOf]; omega⟩
          show SinceOK L (i + 1) j (if j = c then V + 1 else f j)
          by_cases h : j = c
          · subst h; rw [if_pos rfl]; exact HS.out
          · rw [if_neg h]; exact sinceOK_other HX.out (by simp only; omega) (HF.out j hj)
        · go_upto_region 10 with (fail)
          have B6 := B5.setCell c (.int .i64 0)
          have E6 := E5.setCell_other (a := ⟨B, c, none⟩) (.int .i64 0) hEB
          have C6 := C5.setCell (a := ⟨B, c, none⟩) (.inl (by simp)) (.int .i64 0)
          obtain ⟨w6, hw6⟩ : ∃ w6, w6 = w5.setCell ⟨B, c, none⟩ (.int .i64 0) := ⟨_, rfl⟩
          rw [← hw6] at B6 E6 C6 ⊢
          rw [intRow_set] at B6
          clear hw6 B5 E5 C5 e0 e1 b0 bz
          have e0 : w6.cell? ⟨E, 0, none⟩ = some (.int .i64 (c : Nat)) := E6.cell 0
          have b0 : w6.cell? ⟨B, c, none⟩ = some (.int .i64 0) := by rw [B6.cell, intRow_get _ hcm]; simp
          have HB1 : Hid (BeatTo L m (i + 1) b) := by
            have h : BeatTo L m (i + 1) (if b < (0 : Int) + 1 then (0 : Int) + 1 else b) := HT.out
            rw [if_neg (by omega)] at h
            exact h
          go_wp2_with fail
          refine ⟨⟨i + 1, b, fun j => if j = c then 0 else if j = c then V + 1 else f j, by omega, by go_num, by first | rfl | (congr 1; omega) | (congr 1; rw [if_neg (by omega)]), HB1, Lib.hid fun j hj => ?_, B6, C6⟩, by simp only [intOf]; omega⟩
          show SinceOK L (i + 1) j (if j = c then 0 else if j = c then V + 1 else f j)
          by_cases h : j = c
          · subst h; rw [if_pos rfl]; exact HS.out
          · rw [if_neg h, if_neg h]; exact sinceOK_other HX.out (by simp only; omega) (HF.out j hj)
      · obtain rfl : i = L.length := by omega
        obtain ⟨r, hr1, hr2⟩ := beatTo_beat HG.out
        have HR := Lib.hid hr1
        have CF : Hid (Chg [] w1 wr) := Lib.hid (H3.out.then CQ (by intro g hg; obtain rfl := List.mem_singleton.1 hg; exact .inr (by rw [HB.out]; exact Nat.le_refl _)))
        clear hr1
        go_wp2_with fail
        go_ret
        exact ⟨_, rfl, by rw [HR.out]; exact beatSays_of HN.out HL.out hr2, CF.out⟩
  · go_enter Tryd.func19, Tryd.ntmps19
    go_wp2_with fail
    refine (some_any _ _).mono ?_
    rintro e w1 ⟨rfl, rfl⟩
    rw [decide_eq_false hn]
    have HN := Lib.hid hn
    clear hn
    go_wp2_with fail
    go_ret
    exact ⟨0, rfl, ⟨fun _ => rfl, fun h => absurd h HN.out⟩, Chg.refl _ _⟩
end Go.Proofs.YtjohbnfeijhcmaaDoor
