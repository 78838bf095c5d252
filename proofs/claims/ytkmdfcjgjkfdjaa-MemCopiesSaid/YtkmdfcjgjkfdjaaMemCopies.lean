/- For every l and more the law MemCopies returns true: a copy has the same words and accesses, and is its own; and so is a part. No conditions. -/
import Derived.Test.YtkmdfcjgjkfdjaaRows
import Derived.Test.YtkmdfcjgjkfdjaaMem2
import Derived.Test.YtkmdfcjgjkfdjaaMem7
import Derived.Test.YtkmdfcjgjkfdjaaLaw
import Derived.Test.YtkmdfcjgjkfdjaaStru
import Derived.Deep.DeepCutAuto
import Derived.Deep.RegionWith
namespace Go.Proofs.Ytkmdfcjgjkfdjaa
open Go.RowKit Bosun

/-- The cells of a bosun/bosunlaw13.Act. -/
def ActRow (r : List Value) : Prop := ∃ (kind : Int) (A : Int) (N : Int) (x : Nat) (old : Nat), 0 ≤ kind ∧ kind ≤ 255 ∧ -9223372036854775808 ≤ A ∧ A ≤ 9223372036854775807 ∧ -9223372036854775808 ≤ N ∧ N ≤ 9223372036854775807 ∧ x < 18446744073709551616 ∧ old < 18446744073709551616 ∧ r = [.int .u8 kind, .int .i64 A, .int .i64 N, .int .u64 x, .int .u64 old]
theorem ActRow_of {H : Type} {enc : TypeId × Value → H} {W : World} (fuel : Nat) (cs : List Value) (y : DataW H × List MemPlace) (h : DataW.trod enc Try.prog W 0 (fun _ => true) true fuel 39 cs = some y) : ActRow cs ∧ cs.length = 5 := by
  obtain ⟨ys, m, _, _, hl, hl2, hf⟩ := Go.DataW.trod_struct Try.underlying39 h
  have hc_uint8 : Try.prog.cellsOf 5 = 1 := by kernel_rfl
  have hc_int : Try.prog.cellsOf 3 = 1 := by kernel_rfl
  have hc_uint64 : Try.prog.cellsOf 22 = 1 := by kernel_rfl
  have hcl : cs.length = 5 := by rw [hl]; kernel_rfl
  refine ⟨?_, hcl⟩
  clear h hl
  match cs, hcl with
  | [c0, c1, c2, c3, c4], _ =>
    match ys, hl2 with
    | [y0, y1, y2, y3, y4], _ =>
      have h0 := hf 0 _ rfl
      have h1 := hf 1 _ rfl
      have h2 := hf 2 _ rfl
      have h3 := hf 3 _ rfl
      have h4 := hf 4 _ rfl
      clear hf
      simp [hc_uint8, hc_int, hc_uint64] at h0 h1 h2 h3 h4
      obtain ⟨z0, e0, _, s0⟩ := Go.DataW.trod_int Try.underlying5 h0
      have b0 := bounds_u8 s0
      obtain rfl : c0 = .int .u8 z0 := by simpa using e0
      obtain ⟨z1, e1, _, s1⟩ := Go.DataW.trod_int Try.underlying3 h1
      have b1 := bounds_i64 s1
      obtain rfl : c1 = .int .i64 z1 := by simpa using e1
      obtain ⟨z2, e2, _, s2⟩ := Go.DataW.trod_int Try.underlying3 h2
      have b2 := bounds_i64 s2
      obtain rfl : c2 = .int .i64 z2 := by simpa using e2
      obtain ⟨z3, e3, _, s3⟩ := Go.DataW.trod_int Try.underlying22 h3
      obtain ⟨m3, rfl, b3⟩ := nat_u64 s3
      obtain rfl : c3 = .int .u64 (m3 : Nat) := by simpa using e3
      obtain ⟨z4, e4, _, s4⟩ := Go.DataW.trod_int Try.underlying22 h4
      obtain ⟨m4, rfl, b4⟩ := nat_u64 s4
      obtain rfl : c4 = .int .u64 (m4 : Nat) := by simpa using e4
      exact ⟨z0, z1, z2, m3, m4, b0.1, b0.2, b1.1, b1.2, b2.1, b2.2, b3, b4, rfl⟩


theorem MemC.mono {T : TypeId} {w : World} {b b' bm : Nat} {W : List Nat} {u : Nat} (h : MemC T w b bm W u) (hb : b' ≤ b) : MemC T w b' bm W u := by
  obtain ⟨v, h1, h2, h3⟩ := h
  exact ⟨v, h1, by omega, h3.mono hb⟩
/-- Two copies and a part. -/
structure Cop (w : World) (b c s : Nat) (W : List Nat) (u : Nat) (vp : Value) : Prop where
  c : MemC 50 w b c W u
  s : MemC 37 w b s W u
  p : Own w b 22 vp (words W)
theorem Cop.keep {w w1 : World} {b c s : Nat} {W : List Nat} {u : Nat} {vp : Value} (h : Cop w b c s W u vp) {S : List Nat} (hc : Chg S w w1) (hS : ∀ g ∈ S, g < b) : Cop w1 b c s W u vp :=
  ⟨h.c.keep hc hS, h.s.keep hc hS, h.p.chg hc (fun g hg he => by have := (h.p.block g (by rw [he]; simp)).1; have := hS g hg; omega)⟩
set_option maxRecDepth 100000 in
set_option maxHeartbeats 16000000 in
theorem memCopies_walk (w : World) (v1 : Value) (rows : List (List Value)) (hr : ∀ r ∈ rows, ActRow r) (hv : ReadsS w v1 5 rows) (v2 : Value) (more : List (List Value)) (hr2 : ∀ r ∈ more, ActRow r) (hv2 : ReadsS w v2 5 more) :
    Calls Try.prog 5 #[v1, v2] w fun e w' => e = .returned (.bool true) ∧ Chg [] w w' := by
  obtain ⟨ao, cap, rfl, hm, hcell⟩ := hv
  obtain ⟨ao2, cap2, rfl, hm2, hcell2⟩ := hv2
  unfold maxLen at hm hm2
  have HCELL := Lib.hid hcell
  have HR := Lib.hid hr
  have HCELL2 := Lib.hid hcell2
  have HR2 := Lib.hid hr2
  clear hcell hr hcell2 hr2
  go_enter Try.func5, Try.ntmps5
  go_wp2_with fail
  refine (new_any 8 8 (by decide) _).mono ?_
  rintro e w1 ⟨bm, bw, rfl, M1, C1, g1, g2⟩
  go_wp2_with fail
  refine (rnew_any 8 8 (by decide) _).mono ?_
  rintro e w2 ⟨rm, rw, rfl, R2, C2, g3, g4⟩
  have B2 : Both w2 bm bw rm rw (List.replicate 8 0) 0 := ⟨M1.keep C2, R2, by have := M1.head.lt; omega, by have := M1.head.lt; omega, by have := M1.row.lt; omega, by have := M1.row.lt; omega⟩
  have C12 := C1.then C2 (by simp)
  have hs1 := C1.size
  have hs : ∀ g, g ∈ [bm, bw, rm, rw] → g ∈ ([] : List Nat) ∨ w.heap.size ≤ g := fun g hg => .inr (by simp at hg; omega)
  have HSS := Lib.hid hs
  clear M1 C1 R2 C2 g1 g2 g3 g4 hs1 hs
  go_wp2_with fail
  go_loopw [7] (fun i wq => ∃ (k : Nat) (W : List Nat) (u : Nat), k ≤ rows.length ∧ k ≤ 30 ∧ i = .int .i64 k ∧ Both wq bm bw rm rw W u ∧ W.length = 8 ∧ Chg [] w wq)
    (fun i _ => 30 - (intOf i).toNat)
  case atStart => exact ⟨0, List.replicate 8 0, 0, by omega, by omega, rfl, B2, by simp, C12⟩
  case round =>
    obtain ⟨k, W, u, hk, hk2, rfl, B, hW, H⟩ := hrel
    rcases (show (k < rows.length ∧ k < 30) ∨ (k < rows.length ∧ decide ((k : Int) < 30) = false) ∨ ¬ k < rows.length by simp; omega) with ⟨h1, h2⟩ | ⟨h1, h2⟩ | h1
    · obtain ⟨g, off, rfl, hc⟩ := HCELL.out k _ (List.getElem?_eq_getElem h1)
      obtain ⟨kind, A, N, x, old, a1, a2, a3, a4, a5, a6, a7, a8, hrow⟩ := HR.out _ (List.getElem_mem h1)
      rw [hrow] at hc
      have hfr : ∀ (j : Nat) y, ([.int .u8 kind, .int .i64 A, .int .i64 N, .int .u64 x, .int .u64 old] : List Value)[j]? = some y → wr.cell? ⟨g, off + k * 5 + j, none⟩ = some y := fun j y hy => by
        rw [World.cell?_of_block (w := w) (H.block g (World.block_lt_of_cell? w _ (hc j _ hy)) (by simp)), hc j _ hy]
      have q0 : wr.cell? ⟨g, off + k * 5, none⟩ = some (.int .u8 kind) := hfr 0 _ rfl
      have q1 := hfr 1 _ rfl
      have q2 := hfr 2 _ rfl
      have q3 := hfr 3 _ rfl
      have q4 := hfr 4 _ rfl
      clear hc hfr hrow
      go_wp2_with (go_at_call 14; refine (does_any bm bw rm rw W u _ B kind A N x old a1 a2 a3 a4 a5 a6 a7 a8).mono ?_; rintro e w5 ⟨rfl, W5, u5, B5, hl5, C5⟩)
      go_roundw
      case rel => exact ⟨k + 1, W5, u5, by omega, by omega, by go_num, B5, hl5.trans hW, H.then C5 HSS.out⟩
      case measure => simp [intOf] <;> omega
    all_goals
      go_wp2_with fail
      refine (copy_any bm bw W u _ B.m).mono ?_
      rintro e w3 ⟨cm, rfl, c3, C3⟩
      go_wp2_with fail
      refine (rcopy_any rm rw W u _ (B.r.keep C3) (by omega)).mono ?_
      rintro e w4 ⟨sm, rfl, s4, C4⟩
      have B4 := (B.keep C3).keep C4
      go_wp2_with fail
      refine (part_any bm bw W u _ B4.m 0 8 (by decide) (by decide) (by decide) (by decide)).mono ?_
      rw [partN_all W 8 (by omega) (by omega)]
      rintro e w5 ⟨vp, rfl, p5, C5⟩
      obtain ⟨b, hb⟩ : ∃ b, b = wr.heap.size := ⟨_, rfl⟩
      have z3 := C3.size
      have z4 := C4.size
      have P5 : Cop w5 b cm sm W u vp := ⟨((c3.mono (by omega)).keep C4 (by simp)).keep C5 (by simp), (s4.mono (by omega)).keep C5 (by simp), p5.mono (by omega)⟩
      have B5 := B4.keep C5
      have H5 := ((H.then C3 (by simp)).then C4 (by simp)).then C5 (by simp)
      have hlb : ∀ g ∈ [bm, bw, rm, rw], g < b := fun g hg => by
        have := B.m.head.lt; have := B.m.row.lt; have := B.r.head.lt; have := B.r.row.lt
        simp at hg; omega
      have HLB := Lib.hid hlb
      obtain ⟨ap, cp, hvp, _, _⟩ := p5.reads
      rw [words_len, hW] at hvp
      subst hvp
      clear c3 s4 p5 B4 C3 C4 C5 B H z3 z4 hb hlb
      go_wp2_with fail
      go_loopw [11] (fun i wq => ∃ (k : Nat) (W' : List Nat) (u' : Nat), k ≤ more.length ∧ k ≤ 30 ∧ i = .int .i64 k ∧ Both wq bm bw rm rw W' u' ∧ W'.length = 8 ∧ Cop wq b cm sm W u (.slice ap 8 cp) ∧ Chg [] w wq)
        (fun i _ => 30 - (intOf i).toNat)
      case atStart => exact ⟨0, W, u, by omega, by omega, rfl, B5, hW, P5, H5⟩
      case round =>
        clear B5 P5 H5
        obtain ⟨k2, W', u', hk3, hk4, rfl, B, hW', P, H⟩ := hrel
        rcases (show (k2 < more.length ∧ k2 < 30) ∨ (k2 < more.length ∧ decide ((k2 : Int) < 30) = false) ∨ ¬ k2 < more.length by simp; omega) with ⟨i1, i2⟩ | ⟨i1, i2⟩ | i1
        · obtain ⟨g, off, rfl, hc⟩ := HCELL2.out k2 _ (List.getElem?_eq_getElem i1)
          obtain ⟨kind, A, N, x, old, a1, a2, a3, a4, a5, a6, a7, a8, hrow⟩ := HR2.out _ (List.getElem_mem i1)
          rw [hrow] at hc
          have hfr : ∀ (j : Nat) y, ([.int .u8 kind, .int .i64 A, .int .i64 N, .int .u64 x, .int .u64 old] : List Value)[j]? = some y → wr.cell? ⟨g, off + k2 * 5 + j, none⟩ = some y := fun j y hy => by
            rw [World.cell?_of_block (w := w) (H.block g (World.block_lt_of_cell? w _ (hc j _ hy)) (by simp)), hc j _ hy]
          have q0 : wr.cell? ⟨g, off + k2 * 5, none⟩ = some (.int .u8 kind) := hfr 0 _ rfl
          have q1 := hfr 1 _ rfl
          have q2 := hfr 2 _ rfl
          have q3 := hfr 3 _ rfl
          have q4 := hfr 4 _ rfl
          clear hc hfr hrow
          go_wp2_with (go_at_call 14; refine (does_any bm bw rm rw W' u' _ B kind A N x old a1 a2 a3 a4 a5 a6 a7 a8).mono ?_; rintro e w5 ⟨rfl, W5, u5, B5, hl5, C5⟩)
          go_roundw
          case rel => exact ⟨k2 + 1, W5, u5, by omega, by omega, by go_num, B5, hl5.trans hW', P.keep C5 HLB.out, H.then C5 HSS.out⟩
          case measure => simp [intOf] <;> omega
        all_goals
          obtain ⟨wA, rfl⟩ : ∃ x, x = wr := ⟨_, rfl⟩
          go_wp2_with fail
          refine (part_any bm bw W' u' _ B.m 0 8 (by decide) (by decide) (by decide) (by decide)).mono ?_
          rw [partN_all W' 8 (by omega) (by omega)]
          rintro e w6 ⟨vq, rfl, q6, C6⟩
          have hvq : ∃ gq cq cur, vq = .slice (some ⟨gq, 0, none⟩) 8 cq ∧ wA.heap.size ≤ gq ∧ Blk w6 gq cur 22 ∧ 8 ≤ cur.size ∧ ∀ j, j < 8 → ∃ y : Nat, cur[j]? = some (.int .u64 (y : Nat)) := by
            rcases q6.2 with ⟨_, h0⟩ | ⟨g, cap', cur, rfl, hbg, hb, hn, hc, hs, ht⟩
            · rw [words_len] at h0; omega
            · rw [words_len, hW'] at hn ht ⊢
              refine ⟨g, cap', cur, rfl, hbg, hb, by omega, fun j hj => ?_⟩
              have h1 : (cur.toList.take (8 * 1))[j]? = cur[j]? := by rw [List.getElem?_take, if_pos (by omega), Array.getElem?_toList]
              rw [ht, words_get _ (by omega)] at h1
              exact ⟨_, h1.symm⟩
          obtain ⟨gq, cq, cur, rfl, hgq, Bq, hcs, hcy⟩ := hvq
          have X6 : ∃ cur, Blk w6 gq cur 22 ∧ 8 ≤ cur.size ∧ ∀ j, j < 8 → ∃ y : Nat, cur[j]? = some (.int .u64 (y : Nat)) := ⟨cur, Bq, hcs, hcy⟩
          have BA := B.keep C6
          have PA := P.keep C6 (by simp)
          have HA := H.then C6 (by simp)
          have hgn : bm < gq ∧ bw < gq ∧ rm < gq ∧ rw < gq := by have := B.m.head.lt; have := B.m.row.lt; have := B.r.head.lt; have := B.r.row.lt; omega
          have hgc : ∀ w9, Chg [gq] w6 w9 → Cop w9 b cm sm W u (.slice ap 8 cp) := fun w9 h9 => by
            obtain ⟨vc, c1, c2, c3⟩ := PA.c
            obtain ⟨vs, s1, s2, s3⟩ := PA.s
            obtain ⟨vc', c1', _, c3'⟩ := P.c
            obtain ⟨vs', s1', _, s3'⟩ := P.s
            have e1 : vc = vc' := by have := (c1.inj (c1'.chg C6 (by simp))).1; simpa using this
            have e2 : vs = vs' := by have := (s1.inj (s1'.chg C6 (by simp))).1; simpa using this
            subst e1 e2
            have l1 := c1'.lt
            have l2 := s1'.lt
            refine ⟨⟨vc, c1.chg h9 (by simp; omega), c2, c3.chg h9 (fun g hg he => ?_)⟩, ⟨vs, s1.chg h9 (by simp; omega), s2, s3.chg h9 (fun g hg he => ?_)⟩, PA.p.chg h9 (fun g hg he => ?_)⟩
            · simp at hg; subst hg; have := (c3'.block g (by rw [he]; simp)).2; omega
            · simp at hg; subst hg; have := (s3'.block g (by rw [he]; simp)).2; omega
            · simp at hg; subst hg; have := (P.p.block g (by rw [he]; simp)).2; omega
          have HGC := Lib.hid hgc
          have hwg : w.heap.size ≤ gq := by have := H.size; omega
          clear q6 C6 Bq hcs hcy B P H PA hgc
          go_wp2_with fail
          go_loopw [13] (fun i wq => ∃ j : Nat, j ≤ 8 ∧ i = .int .i64 j ∧ (∃ cur, Blk wq gq cur 22 ∧ 8 ≤ cur.size ∧ ∀ j, j < 8 → ∃ y : Nat, cur[j]? = some (.int .u64 (y : Nat))) ∧ Chg [gq] w6 wq)
            (fun i _ => 8 - (intOf i).toNat)
          case atStart => exact ⟨0, by omega, rfl, X6, Chg.refl _ _⟩
          case round =>
            clear X6
            obtain ⟨j, hj, rfl, ⟨cur, Bq, hcs, hcy⟩, K⟩ := hrel
            by_cases hj8 : j < 8
            · obtain ⟨y, hy⟩ := hcy j hj8
              have cy : wr.cell? ⟨gq, j, none⟩ = some (.int .u64 (y : Nat)) := by rw [Bq.cell]; exact hy
              have HCY := Lib.hid hcy
              have ew : IntKind.u64.wrap ((y : Int) + 1) = ((y + 1) % 18446744073709551616 : Nat) := by rw [IntKind.wrap_u64]; rfl
              obtain ⟨y1, hy1⟩ : ∃ y1, y1 = (y + 1) % 18446744073709551616 := ⟨_, rfl⟩
              rw [← hy1] at ew
              clear hcy hy hy1
              go_wp2_with (first
                | (refine wpList_val_store rfl 22 (.tmp 80) (.tmp 79) rfl gq j rfl (.int .u64 (y1 : Nat)) rfl _ _ Bq (by omega) (by kernel_rfl) rfl ?_; intro w7 B7 C7))
              go_roundw
              case rel =>
                refine ⟨j + 1, by omega, by go_num, ⟨_, B7, by simpa using hcs, fun j2 h2 => ?_⟩, K.trans C7⟩
                rw [Array.getElem?_setIfInBounds]
                by_cases e : j = j2
                · rw [if_pos e, if_pos (by omega)]; exact ⟨y1, rfl⟩
                · rw [if_neg e]; exact HCY.out j2 h2
              case measure => simp [intOf] <;> omega
            · obtain rfl : j = 8 := by omega
              have BB : Both wr bm bw rm rw W' u' := ⟨BA.m.chg K (by simp; omega) (by simp; omega), BA.r.chg K (by simp; omega) (by simp; omega), BA.d1, BA.d2, BA.d3, BA.d4⟩
              have PP := HGC.out wr K
              have HH := HA.then K (fun g hg => .inr (by simp at hg; omega))
              clear BA HA K Bq hcs hcy hgn
              obtain ⟨vs, s1, s2, s3⟩ := PP.s
              have hvs : ∃ gs cs', vs = .slice (some ⟨gs, 0, none⟩) 8 cs' := by
                rcases s3.2 with ⟨_, h0⟩ | ⟨g, cap', cur, rfl, _⟩
                · rw [words_len] at h0; omega
                · exact ⟨g, cap', by rw [words_len, hW]⟩
              obtain ⟨gs, cs', rfl⟩ := hvs
              have hkey : ∀ w9, Chg [] wr w9 → w9.cell? ⟨sm, 0, none⟩ = some (.slice (some ⟨gs, 0, none⟩) 8 cs') ∧ w9.cell? ⟨sm, 1, none⟩ = some (.int .u64 (u : Nat)) ∧ w9.cell? ⟨rm, 0, none⟩ = some (.slice (some ⟨rw, 0, none⟩) 8 8) ∧ w9.cell? ⟨rm, 1, none⟩ = some (.int .u64 (u' : Nat)) := fun w9 h9 => by
                have hx := s1.chg h9 (by simp)
                have hy := (BB.keep h9).r.c0
                rw [hW'] at hy
                exact ⟨by rw [hx.cell]; rfl, by rw [hx.cell]; rfl, hy, (BB.keep h9).r.c1⟩
              have k0 := hkey wr (Chg.refl _ _)
              have HKEY := Lib.hid hkey
              have HS3 := Lib.hid (fun w9 (h9 : Chg [] wr w9) => (s3.keep h9).reads)
              have HP3 := Lib.hid (fun w9 (h9 : Chg [] wr w9) => (PP.p.keep h9).reads)
              have HRD := Lib.hid (show ∀ w5, IsRef w5 rm rw W' u' → Reads w5 (.slice (some ⟨rw, 0, none⟩) 8 8) (words W') from fun w5 h5 => h5.row.reads 8 8 (by simp [words_len, hW']) (by simp [words_len, hW']; unfold maxLen; omega) (by rw [List.take_of_length_le (by simp [words_len, hW'])]))
              have HPA := Lib.hid (partN_all W' 8 (by omega) (by omega))
              have HBB := Lib.hid (fun w9 (h9 : Chg [] wr w9) => BB.keep h9)
              have HPP := Lib.hid (fun w9 (h9 : Chg [] wr w9) => PP.keep h9 (by simp))
              have HWW := Lib.hid hW
              clear hkey s1 s2 s3 BB PP hW
              go_wp2_with fail
              go_region_held3 (fun w' => w'.cell? ⟨sm, 0, none⟩ = some (.slice (some ⟨gs, 0, none⟩) 8 cs') ∧ w'.cell? ⟨sm, 1, none⟩ = some (.int .u64 (u : Nat)) ∧ w'.cell? ⟨rm, 0, none⟩ = some (.slice (some ⟨rw, 0, none⟩) 8 8) ∧ w'.cell? ⟨rm, 1, none⟩ = some (.int .u64 (u' : Nat)))
                (first | assumption | exact k0)
                (first
                  | (go_at_call 16; (with_reducible refine (msame_any (.slice ap 8 cp) (.slice (some ⟨gs, 0, none⟩) 8 cs') W W _ (HP3.out _ (Chg.refl [] _).drew) (HS3.out _ (Chg.refl [] _).drew)).mono ?_); rw [decide_eq_true rfl]; rintro e x1 ⟨rfl, D1⟩; have E1 := D1.undrew; have k1 := HKEY.out x1 E1)
                  | (go_at_call 17; (with_reducible refine (cpart_any b cm W u x1 HWW.out (HPP.out x1 E1).c).mono ?_); rintro e x2 ⟨v2, rfl, p2, D2⟩; have E2 := E1.then D2 (by simp); have k2 := HKEY.out x2 E2)
                  | (go_at_call 16; (with_reducible refine (msame_any v2 (.slice (some ⟨gs, 0, none⟩) 8 cs') W W x2 p2.reads (HS3.out x2 E2)).mono ?_); rw [decide_eq_true rfl]; rintro e x3 ⟨rfl, D3⟩; have E3 := E2.then D3 (by simp); have k3 := HKEY.out x3 E3)
                  | (go_at_call 15; (with_reducible refine (cused_any b cm W u x3 (HPP.out x3 E3).c).mono ?_); rintro e x4 ⟨rfl, rfl⟩)
                  | (go_at_call 17; (with_reducible refine (part_any bm bw W' u' x3 (HBB.out x3 E3).m 0 8 (by decide) (by decide) (by decide) (by decide)).mono ?_); rw [HPA.out]; rintro e x5 ⟨v5, rfl, p5, D5⟩; have E5 := E3.then D5 (by simp); have k5 := HKEY.out x5 E5)
                  | (go_at_call 16; (with_reducible refine (msame_any v5 (.slice (some ⟨rw, 0, none⟩) 8 8) W' W' x5 p5.reads (HRD.out x5 (HBB.out x5 E5).r)).mono ?_); rw [decide_eq_true rfl]; rintro e x6 ⟨rfl, D6⟩; have E6 := E5.then D6 (by simp); have k6 := HKEY.out x6 E6)
                  | (go_at_call 15; (with_reducible refine (used_any bm bw W' u' x6 (HBB.out x6 E6).m).mono ?_); rintro e x7 ⟨rfl, rfl⟩)
                  | (go_at_call 11; (with_reducible refine (awake_any x6).mono ?_); rintro e x8 ⟨rfl, D8⟩; have E8 := E6.then D8 (by simp); have k8 := HKEY.out x8 E8))
              go_wp2_with fail
              go_ret
              exact ⟨rfl, HH.then E8 (by simp)⟩
namespace memCopies
open Go.ChangeShapes Go.WideShapes Go.ChangeAt
theorem own : ownKnob Try.prog.godebug = none := by kernel_rfl
theorem laidOut : laidOutB Try.prog = true := by kernel_rfl

set_option maxRecDepth 100000 in
theorem lifted (os : Os) (started : os.Started) (H : Type) (enc : TypeId × Value → H) :
    ReturnsInHanded {} Try.checked os 5 .any (Rows.memCopiesSpec.pre6 enc Try.prog Try.f5 Rows.memCopiesRow.domain false) (Rows.memCopiesSpec.post enc Try.prog Try.f5 false true false false) := by
  refine returnsInHanded_of_change (C := Try.checked) own started (by kernel_rfl) Try.func5
    (ChangeSpec.witness6 (enc := enc) (C := Try.checked) false ⟨#[], #[.slice none 0 0, .slice none 0 0], []⟩ 8 (by kernel_rfl) (by kernel_rfl) (by kernel_rfl) (by kernel_rfl)) ?_
  intro W base args ds gs before hval0 hW hcnd _
  have hval : ∀ (j : Nat) t v, Try.f5.params[j]? = some t → args[j]? = some v → Value.okWide Try.prog W .any base t v := hval0
  have hW' := hW
  obtain ⟨p, q, hA0, hV, rfl, hfz, hnd⟩ := hW
  have hA : DataW.TrodAll enc Try.prog W 0 (fun _ => true) true Try.f5.params.toList args.toList ds p := hA0
  rw [Try.params5] at hA hval
  obtain ⟨v0, vs0, d0, ds0, p0, q0, hargs, rfl, rfl, h0, r0⟩ := trodAll_cons hA
  obtain ⟨v1, vs1, d1, ds1, p1, q1, rfl, rfl, rfl, h1, r1⟩ := trodAll_cons r0
  obtain ⟨rfl, rfl, rfl⟩ := trodAll_nil r1
  obtain rfl : args = #[v0, v1] := by cases args; simp_all
  obtain ⟨rfl, rfl⟩ := trodVars_none hV
  obtain ⟨a0, len0, cap0, rfl⟩ := okWide_slice Try.underlying32 (hval 0 32 v0 rfl rfl)
  have k0 := h0
  have lt0 : ∀ x ∈ p0, x.block < W.heap.size := by obtain ⟨m, hm⟩ := k0; exact DataW.trod_lt m _ _ _ hm
  obtain ⟨l0, hl0, hr0⟩ := open_elems (Q := ActRow) Try.underlying32 5 (by decide) (by kernel_rfl) (fun fuel cs y hy => ActRow_of fuel cs y hy) h0
  obtain ⟨a1, len1, cap1, rfl⟩ := okWide_slice Try.underlying32 (hval 1 32 v1 rfl rfl)
  have k1 := h1
  have lt1 : ∀ x ∈ p1, x.block < W.heap.size := by obtain ⟨m, hm⟩ := k1; exact DataW.trod_lt m _ _ _ hm
  obtain ⟨l1, hl1, hr1⟩ := open_elems (Q := ActRow) Try.underlying32 5 (by decide) (by kernel_rfl) (fun fuel cs y hy => ActRow_of fuel cs y hy) h1
  clear hA0 hval0
  simp only [List.append_nil] at hW'
  refine (memCopies_walk W _ l0 hl0 hr0 _ l1 hl1 hr1).mono fun e W' ⟨he, hg⟩ => ?_
  subst he
  exact ⟨_, rfl, _, _, _, [], _, [], hW', trodAll_mk1 (shut_bool Try.underlying4 _), (trodAll_cons_mk (Below.trod laidOut (by kernel_rfl) (of_decide_eq_true (by kernel_rfl)) k0 hg.below lt0) (trodAll_cons_mk (Below.trod laidOut (by kernel_rfl) (of_decide_eq_true (by kernel_rfl)) k1 hg.below lt1) trodAll_mk0)), rfl, hg.below.frame _, fun h => by cases h⟩

theorem over : Rows.memCopiesRow.holds Try.pinned (OpenSpec.ofChange Rows.memCopiesSpec) :=
  OpenClaim.holds_of_wide 5 Try.f5 rfl rfl rfl rfl rfl rfl rfl ⟨rfl, rfl, rfl, rfl, rfl⟩ rfl rfl rfl rfl rfl (by kernel_rfl) Try.func5 (by kernel_rfl)
    (of_decide_eq_true (by kernel_rfl)) (by unfold Func.isWrapper; first | (rw [if_pos (by decide +kernel)]; kernel_rfl) | (rw [if_neg (by decide +kernel)]; exact ⟨rfl, rfl⟩))
    (fun os started H enc _ => lifted os started H enc)
end memCopies

theorem memCopies_holds : Rows.MemCopiesSaid := memCopies.over
#print axioms memCopies_holds
end Go.Proofs.Ytkmdfcjgjkfdjaa
