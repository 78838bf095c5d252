/- plan: the walk of PlanFair. -/
import Derived.Test.YtjohbnfeijhcmaaDoorPlK
import Derived.Test.YtjohbnfeijhcmaaDoorPl12
namespace Go.Proofs.YtjohbnfeijhcmaaDoor
open Go.RowKit Bosun Go.ChangeShapes Go.WideShapes Go.ChangeAt
theorem infoBool : (Tryd.prog.info? 4).map (fun i => (i.zero, i.size, i.bytes)) = some (some (.bool false), 1, 1) := by kernel_rfl
theorem madeCells_bool : madeCells #[Value.bool false] 64 = boolRow (fun _ => false) := by
  rw [madeCells_one]
  apply Array.ext
  · simp [boolRow]
  · intro i h1 h2; simp [boolRow]
theorem not_miss_has {L : List Ent} {m W g a c : Nat} (hg : IsGap L m g) (hW : g ≤ W) (ha : a + W ≤ L.length) (hc : c < m) : HasC L c a (a + W) := by
  refine Classical.byContradiction fun h => ?_
  have := (hg.2.2 W (by have := hg.1; omega) (by omega)).1 ⟨a, c, ha, hc, h⟩
  omega
set_option maxRecDepth 8000 in
set_option maxHeartbeats 8000000 in
theorem planFair_walk (w : World) (v : Value) (l : List Ent) (hr : RdE w v l) (n : Int) (mo : Nat) (hmo : mo < 256) :
    Calls Tryd.prog 5 #[v, .int .i64 n, .int .u8 (mo : Nat)] w fun e w' => e = .returned (.bool true) ∧ Chg [] w w' := by
  obtain ⟨L, hL⟩ : ∃ L, L = l.take 60 := ⟨_, rfl⟩
  have hLl : L.length ≤ 60 := by rw [hL, List.length_take]; omega
  have HF := Lib.hid (few_any v l w hr)
  rw [← hL] at HF
  have HG := Lib.hid (fun v w (h : ReadsE w v L) => gap_says v L n w h (by omega))
  have HB := Lib.hid (fun v w (h : ReadsE w v L) => beat_any v L n w h (by omega))
  have HRG := Lib.hid (fun v w (h : ReadsE w v L) => rgap_any v L n w h (by omega))
  have HRB := Lib.hid (fun v w (h : ReadsE w v L) => rbeat_any v L n w h (by omega))
  have HK := Lib.hid (fun v w (h : ReadsE w v L) => rclean_any v L n w h (by omega))
  have HLL := Lib.hid hLl
  have HMO := Lib.hid hmo
  clear hL hLl hr hmo
  go_enter Tryd.func5, Tryd.ntmps5
  go_wp2_with fail
  refine HF.out.mono ?_
  rintro e w1 ⟨u, rfl, R1, C1⟩
  have D1 := Lib.hid R1.1
  have CC1 := Lib.hid C1
  clear R1 C1
  go_wp2_with fail
  refine (HG.out _ _ D1.out).mono ?_
  rintro e w2 ⟨g, rfl, G2, C2⟩
  have D2 := Lib.hid (D1.out.keep C2)
  have CC2 := Lib.hid (CC1.out.then C2 (by simp))
  have HGs := Lib.hid G2
  clear C2 D1 CC1 G2
  go_wp2_with fail
  refine (HB.out _ _ D2.out).mono ?_
  rintro e w3 ⟨b, rfl, G3, C3⟩
  have D3 := Lib.hid (D2.out.keep C3)
  have CC3 := Lib.hid (CC2.out.then C3 (by simp))
  have HBs := Lib.hid G3
  clear C3 D2 CC2 G3
  go_wp2_with fail
  refine (HRG.out _ _ D3.out).mono ?_
  rintro e w4 ⟨g2, rfl, G4, C4⟩
  obtain rfl : g2 = g := G4.uniq HGs.out
  have D4 := Lib.hid (D3.out.keep C4)
  have CC4 := Lib.hid (CC3.out.then C4 (by simp))
  clear C4 D3 CC3 G4
  go_wp2_with fail
  refine (HRB.out _ _ D4.out).mono ?_
  rintro e w5 ⟨b2, rfl, G5, C5⟩
  obtain rfl : b2 = b := G5.uniq HBs.out
  have D5 := Lib.hid (D4.out.keep C5)
  have CC5 := Lib.hid (CC4.out.then C5 (by simp))
  clear C5 D4 CC4 G5
  go_wp2_with fail
  refine (awake_any _).mono ?_
  rintro e w6 ⟨rfl, C6⟩
  have D6 := Lib.hid (D5.out.keep C6)
  have CC6 := Lib.hid (CC5.out.then C6 (by simp))
  clear C6 D5 CC5
  by_cases hn : 1 ≤ n ∧ n ≤ 64
  · obtain ⟨k, rfl, hk⟩ := HGs.out.2 hn
    obtain ⟨m, rfl⟩ : ∃ m : Nat, n = m := ⟨n.toNat, by omega⟩
    rw [Int.toNat_natCast] at hk
    have hin := cln_in L m (by omega)
    rw [Int.toNat_natCast] at hin
    have hcl := cln_len L m
    obtain ⟨M, hM⟩ : ∃ M, M = cln L (m : Int) := ⟨_, rfl⟩
    rw [← hM] at hk HK hin hcl
    have HGG := Lib.hid hk
    have HI := Lib.hid hin
    have hMl : M.length ≤ 60 := by have := HLL.out; omega
    have hk1 := hk.1
    have hk2 := hk.2.1
    have hm1 : ¬ (m : Int) < 1 := by omega
    have hm64 : ¬ 64 < (m : Int) := by omega
    have hm64' : m ≤ 64 := by omega
    clear hM hn hcl hin hk
    go_upto_region 9 with (fail)
    refine (HK.out _ _ D6.out).mono ?_
    rintro e w7 ⟨u7, rfl, O7, C7⟩
    obtain ⟨gx, cap, rfl, O8⟩ := O7.shape
    have R7 := Lib.hid O8.reads
    have CC7 := Lib.hid (CC6.out.then C7 (by simp))
    clear O7 O8 C7 D6 CC6
    by_cases hkM : M.length < k
    · have hke : (k : Int) = (M.length : Int) + 1 := by omega
      have hkMi : (M.length : Int) < (k : Int) := by omega
      clear hk1 hk2 hkM
      go_wp2_with fail
      go_ret
      exact ⟨by first | rfl | simp [hke], CC7.out⟩
    · have hkMi : ¬ (M.length : Int) < (k : Int) := by omega
      go_upto_region 13 with (fail)
      obtain ⟨W, hW⟩ : ∃ W : Nat, W = k + mo % 8 := ⟨_, rfl⟩
      rw [show (k : Int) + (mo : Int) % 8 = (W : Int) by omega]
      have hkW : k ≤ W := by omega
      have hW2 : W ≤ 100 := by omega
      have HH := Lib.hid (fun a c (ha : a + W ≤ M.length) (hc : c < m) => not_miss_has HGG.out hkW ha hc)
      obtain ⟨gx0, cap0, hrv, hmr, hcr⟩ := R7.out
      rw [List.length_map] at hrv hmr
      simp at hrv
      obtain ⟨rfl, rfl⟩ := hrv
      have HCR := Lib.hid hcr
      have hmk : ∀ w : World, (Instr.makeSlice 39 (.int .i64 64) (.int .i64 64)).run Tryd.prog w = .ok (.slice (some ⟨w.heap.size, 0, none⟩) 64 64) (w.alloc (.cells (madeCells #[.bool false] 64) 4)) := fun w => run_make_row' (P := Tryd.prog) 39 4 (.bool false) 1 Tryd.underlying39 infoBool rfl .i64 .i64 64 (by omega) (by omega) w
      clear hcr hmr hW hkW hkM hkMi hk1 hk2
      go_loopw [11] (fun x11 wr => ∃ a : Nat, a ≤ M.length + 1 ∧ x11 = .int .i64 a ∧ Chg [] w7 wr) (fun x11 _ => M.length + 1 - (intOf x11).toNat)
      case atStart => exact ⟨0, by omega, rfl, Chg.refl _ _⟩
      case round =>
        obtain ⟨a, ha, rfl, C⟩ := hrel
        by_cases haW : a + W ≤ M.length
        · have haWi : (a : Int) + (W : Int) ≤ (M.length : Int) := by omega
          go_upto_region 17 with (fail)
          obtain ⟨w8, hw8⟩ : ∃ w8, w8 = wr.alloc (.cells (boolRow (fun _ => false)) 4) := ⟨_, rfl⟩
          have B8 : Blk w8 wr.heap.size (boolRow (fun _ => false)) 4 := by rw [hw8]; exact Blk.new wr _ _
          have C8 : Chg [] w7 w8 := by rw [hw8]; exact C.alloc _
          rw [madeCells_bool, ← hw8]
          obtain ⟨B, hB⟩ : ∃ B, B = wr.heap.size := ⟨_, rfl⟩
          rw [← hB] at B8 ⊢
          have HBs := Lib.hid (show w7.heap.size ≤ B by rw [hB]; exact C.size)
          clear hw8 hB C
          go_loopw [13] (fun x13 wq => ∃ (i : Nat) (f : Nat → Bool), a ≤ i ∧ i ≤ a + W ∧ x13 = .int .i64 i ∧ Hid (∀ j : Nat, j < 64 → (f j = true ↔ HasC M j a i)) ∧ Blk wq B (boolRow f) 4 ∧ Chg [] w7 wq) (fun x13 _ => a + W - (intOf x13).toNat)
          case atStart => exact ⟨a, fun _ => false, by omega, by omega, rfl, Lib.hid fun j _ => ⟨fun h => by simp at h, fun ⟨k, e, h1, h2, _⟩ => by omega⟩, B8, C8⟩
          case round =>
            clear B8 C8
            obtain ⟨i, f, hi1, hi2, rfl, HFj, BQ, CQ⟩ := hrel
            by_cases hiW : i < a + W
            · have hiWi : (i : Int) < (a : Int) + (W : Int) := by omega
              have hil : i < M.length := by omega
              have hili : (i : Int) < (M.length : Int) := by omega
              obtain ⟨gb, off, rfl, cg⟩ := HCR.out i M[i].cells (by simp [hil])
              obtain ⟨x, hx⟩ : ∃ x, x = M[i] := ⟨_, rfl⟩
              have hxm := HI.out _ (List.getElem_mem hil)
              have HX := Lib.hid (show M[i]? = some x by rw [List.getElem?_eq_getElem hil, hx])
              rw [← hx] at cg hxm
              obtain ⟨c, t, d⟩ := x
              obtain ⟨c, rfl⟩ : ∃ k : Nat, c = k := ⟨c.toNat, by have := hxm.1; simp only at this; omega⟩
              have hcm : c < 64 := by have := hxm.2; simp only at this; omega
              have hcmi : (c : Int) < 64 := by omega
              have l1 : gb < w7.heap.size := World.block_lt_of_cell? w7 _ (cg 0 _ rfl)
              have f0 : wr.cell? ⟨gb, off + i * 3, none⟩ = some (.int .i64 (c : Nat)) := (World.cell?_of_block (w := w7) (CQ.block gb l1 (by simp))).trans (cg 0 _ rfl)
              have b0 : wr.cell? ⟨B, c, none⟩ = some (.bool (f c)) := by rw [BQ.cell, boolRow_get _ hcm]
              have bz : wr.frozen? ⟨B, c, none⟩ = false := BQ.frozen _
              have BN := Lib.hid (BQ.setCell c (.bool true))
              have CN := Lib.hid (CQ.setCell (a := ⟨B, c, none⟩) (.inr HBs.out) (.bool true))
              clear cg hx hxm BQ CQ hil
              go_wp2_with fail
              refine ⟨⟨i + 1, fun j => if j = c then true else f j, by omega, by omega, by go_num, Lib.hid fun j hj => ?_, by rw [← boolRow_set]; exact BN.out, CN.out⟩, by simp only [intOf]; omega⟩
              rw [hasC_step HX.out hi1]
              show (if j = c then true else f j) = true ↔ _
              by_cases h : j = c
              · subst h; simp
              · rw [if_neg h, HFj.out j hj]
                constructor
                · exact fun h => .inl h
                · rintro (h2 | h2)
                  · exact h2
                  · exact absurd (show j = c by simp only at h2; omega) h
            · have hie : i = a + W := by omega
              have HF2 : Hid (∀ j : Nat, j < m → f j = true) := Lib.hid fun j hj => (HFj.out j (by omega)).2 (by rw [hie]; exact HH.out a j haW hj)
              have hiWn : ¬ (i : Int) < (a : Int) + (W : Int) := by omega
              clear hie hiW
              go_upto_region 21 with (fail)
              go_loopw [14] (fun x14 wz => ∃ c : Nat, c ≤ m ∧ x14 = .int .i64 c ∧ Blk wz B (boolRow f) 4 ∧ Chg [] w7 wz) (fun x14 _ => m - (intOf x14).toNat)
              case atStart => exact ⟨0, by omega, rfl, BQ, CQ⟩
              case round =>
                clear BQ CQ
                obtain ⟨c, hc, rfl, BQ, CQ⟩ := hrel
                by_cases hcm : c < m
                · have hcmi : (c : Int) < (m : Int) := by omega
                  have b0 : wr.cell? ⟨B, c, none⟩ = some (.bool true) := by rw [BQ.cell, boolRow_get _ (by omega), HF2.out c hcm]
                  go_wp2_with fail
                  exact ⟨⟨c + 1, by omega, by go_num, BQ, CQ⟩, by simp only [intOf]; omega⟩
                · obtain rfl : m = c := by omega
                  go_wp2_with fail
                  exact ⟨⟨a + 1, by omega, by go_num, CQ⟩, by simp only [intOf]; omega⟩
        · have haWi : ¬ (a : Int) + (W : Int) ≤ (M.length : Int) := by omega
          have CF := Lib.hid (CC7.out.then C (by simp))
          go_wp2_with fail
          go_ret
          exact ⟨rfl, CF.out⟩
  · have z1 := HGs.out.1 hn
    have z2 := HBs.out.1 hn
    have HN := Lib.hid hn
    subst z1 z2
    by_cases h1 : n < 1
    · clear hn
      go_wp2_with fail
      go_ret
      exact ⟨rfl, CC6.out⟩
    · have h2 : 64 < n := by omega
      clear hn
      go_wp2_with fail
      go_ret
      exact ⟨rfl, CC6.out⟩
end Go.Proofs.YtjohbnfeijhcmaaDoor
