/- For all numbers, all words and all acts the law DequePlays returns true: each step of any works does and tells what the document's does and tells. No conditions. -/
import Derived.Test.YtcempigpphmchaaRows
import Derived.Test.YtcempigpphmchaaDqSP
import Derived.ProofKit
import Derived.OpenShut
import Derived.Deep.DeepCutAuto
import Derived.Test.YtcempigpphmchaaLaw
namespace Go.Proofs.Ytcempigpphmchaa
open Go.RowKit Bosun
set_option maxRecDepth 100000
/-- The cells of a bosun/bosunlaw17.Act. -/
def ActRow (r : List Value) : Prop := ∃ (who : Int) (p : Bool) (x : Nat), 0 ≤ who ∧ who ≤ 255 ∧ x < 18446744073709551616 ∧ r = [.int .u8 who, .bool p, .int .u64 x]
theorem ActRow_of {H : Type} {enc : TypeId × Value → H} {W : World} (fuel : Nat) (cs : List Value) (y : DataW H × List MemPlace) (h : DataW.trod enc Try.prog W 0 (fun _ => true) true fuel 43 cs = some y) : ActRow cs ∧ cs.length = 3 := by
  obtain ⟨ys, m, _, _, hl, hl2, hf⟩ := Go.DataW.trod_struct Try.underlying43 h
  have hc_uint8 : Try.prog.cellsOf 5 = 1 := by kernel_rfl
  have hc_bool : Try.prog.cellsOf 4 = 1 := by kernel_rfl
  have hc_uint64 : Try.prog.cellsOf 30 = 1 := by kernel_rfl
  have hcl : cs.length = 3 := by rw [hl]; kernel_rfl
  refine ⟨?_, hcl⟩
  clear h hl
  match cs, hcl with
  | [c0, c1, c2], _ =>
    match ys, hl2 with
    | [y0, y1, y2], _ =>
      have h0 := hf 0 _ rfl
      have h1 := hf 1 _ rfl
      have h2 := hf 2 _ rfl
      clear hf
      simp [hc_uint8, hc_bool, hc_uint64] at h0 h1 h2
      obtain ⟨z0, e0, _, s0⟩ := Go.DataW.trod_int Try.underlying5 h0
      have b0 := bounds_u8 s0
      obtain rfl : c0 = .int .u8 z0 := by simpa using e0
      obtain ⟨m1, e1, _⟩ := Go.DataW.trod_bool Try.underlying4 h1
      obtain rfl : c1 = .bool m1 := by simpa using e1
      obtain ⟨z2, e2, _, s2⟩ := Go.DataW.trod_int Try.underlying30 h2
      obtain ⟨m2, rfl, b2⟩ := nat_u64 s2
      obtain rfl : c2 = .int .u64 (m2 : Nat) := by simpa using e2
      exact ⟨z0, m1, m2, b0.1, b0.2, b2, rfl⟩
theorem infoOp : (Try.prog.info? 44).map (fun i => (i.zero, i.size, i.bytes)) = some (some (.pointer none), 1, 8) := by kernel_rfl
theorem infoROp : (Try.prog.info? 48).map (fun i => (i.zero, i.size, i.bytes)) = some (some (.pointer none), 1, 8) := by kernel_rfl
theorem wrap_nine (b : Int) : 0 ≤ wrap64 ((IntKind.u64.wrap b).tmod 9) ∧ wrap64 ((IntKind.u64.wrap b).tmod 9) ≤ 8 := by
  have e := IntKind.wrap_u64 b
  have h1 : 0 ≤ IntKind.u64.wrap b := by rw [e]; omega
  generalize IntKind.u64.wrap b = z at *
  rw [Int.tmod_eq_emod_of_nonneg h1]
  rw [IntWalk.wrap64_in _ (by omega)]
  omega
set_option maxHeartbeats 16000000 in
theorem dequePlays_walk (w : World) (b0 : Int) (hb0 : -9223372036854775808 ≤ b0) (hb1 : b0 ≤ 9223372036854775807) (cp : Int) (h0 : -9223372036854775808 ≤ cp) (h1 : cp ≤ 9223372036854775807) (vw : Value) (ws : List Nat) (hws : ∀ z ∈ ws, z < 18446744073709551616) (hrw : Reads w vw (words ws)) (v : Value) (rows : List (List Value)) (hr : ∀ r ∈ rows, ActRow r) (hv : ReadsS w v 3 rows) :
    Calls Try.prog 3 #[.int .i64 b0, .int .i64 cp, vw, v] w fun e w' => e = .returned (.bool true) ∧ Chg [] w w' := by
  obtain ⟨ao, cpp, rfl, hm, hcell⟩ := hv
  obtain ⟨bo, bpp, rfl, hn, hwcell⟩ := hrw
  rw [words_len] at hn ⊢
  unfold maxLen at hm hn
  have HCELL := Lib.hid hcell
  have HWC := Lib.hid hwcell
  have HR := Lib.hid hr
  have HWS := Lib.hid hws
  have hp2 := holdN_pow2 cp
  obtain ⟨cap, hcap⟩ : ∃ cap, cap = holdN cp := ⟨_, rfl⟩
  have HAT := Lib.hid (fun base w => at_any base cp h0 h1 w)
  have HRAT := Lib.hid (fun base w => rat_any base cp h0 h1 w)
  have HWD := Lib.hid (fun w => words_any cp h0 h1 w)
  rw [← hcap] at hp2 HAT HRAT HWD
  have hle := hp2.le
  have HP2 := Lib.hid hp2
  clear hcell hr hws hwcell hcap hp2
  go_enter Try.func3, Try.ntmps3
  go_upto_region 1 with (fail)
  go_cut [23] (fun s wx => ∃ b : Bool, s = .bool b ∧ (b = false → -3 ≤ b0 ∧ b0 ≤ 9) ∧ w = wx)
  case first =>
    as_aux_lemma =>
    rcases (show b0 < -3 ∨ (decide (b0 < -3) = false ∧ 9 < b0) ∨ (decide (b0 < -3) = false ∧ decide (9 < b0) = false) by simp; omega) with a1 | ⟨a1, a2⟩ | ⟨a1, a2⟩
    · go_wp2_with fail
      go_meet
      exact ⟨true, rfl, (fun e => by cases e), rfl⟩
    · go_wp2_with fail
      go_meet
      exact ⟨true, rfl, (fun e => by cases e), rfl⟩
    · go_wp2_with fail
      go_meet
      exact ⟨false, rfl, (fun e => by simp at a1 a2; omega), rfl⟩
  case rest =>
  obtain ⟨b, rfl, hb, hwx⟩ := hcut
  subst hwx
  go_upto_if 23 with (fail)
  go_cut [0] (fun s wx => ∃ base : Int, -3 ≤ base ∧ base ≤ 9 ∧ s = .int .i64 base ∧ w = wx)
  case first =>
    as_aux_lemma =>
    cases b with
    | true =>
      clear hb
      go_wp2_with fail
      go_meet
      have hwb := wrap_nine b0
      exact ⟨wrap64 ((IntKind.u64.wrap b0).tmod 9), by omega, by omega, rfl, rfl⟩
    | false =>
      obtain ⟨a1, a2⟩ := hb rfl
      clear hb
      go_wp2_with fail
      go_meet
      exact ⟨b0, a1, a2, rfl, rfl⟩
  case rest =>
  obtain ⟨base, hm0, hm1, rfl, hwx⟩ := hcut
  subst hwx
  clear hb hb0 hb1
  go_wp2_with fail
  refine (new_any 20 20 (by decide) _).mono ?_
  rintro e w1 ⟨bm, bw, rfl, M1, C1, g1, g2⟩
  go_wp2_with fail
  refine (rnew_any 20 20 (by decide) _).mono ?_
  rintro e w2 ⟨rm, rw, rfl, R2, C2, g3, g4⟩
  have M2 := M1.keep C2
  have l1 := M1.row.lt
  have D2 := C1.then C2 (by simp)
  have z1 := C1.size
  have hlo : w.heap.size ≤ bm ∧ w.heap.size ≤ bw ∧ w.heap.size ≤ rm ∧ w.heap.size ≤ rw := by omega
  have NE := Lib.hid (show bm ≠ rm ∧ bm ≠ rw ∧ bw ≠ rm ∧ bw ≠ rw by refine ⟨?_, ?_, ?_, ?_⟩; exact blk_ne M2.head R2.head (by decide); exact blk_ne M2.head R2.row (by decide); exact blk_ne M2.row R2.head (by decide); omega)
  clear M1 C1 C2 g1 g2 g3 g4 l1 z1
  go_wp2_with fail
  go_loopw [11] (fun x wr => ∃ (i : Nat) (W : List Nat) (u : Nat), i ≤ ws.length ∧ i ≤ 20 ∧ x = .int .i64 i ∧ IsMem wr bm bw W u ∧ IsRef wr rm rw W u ∧ W.length = 20 ∧ Chg [] w wr) (fun x _ => 20 - (intOf x).toNat)
  case atStart => exact ⟨0, _, 0, by omega, by omega, rfl, M2, R2, by simp, D2⟩
  case round =>
    obtain ⟨i, W, u, hi, hi2, rfl, M, R, hl, C⟩ := hrel
    clear M2 R2 D2
    go_upto_region 6 with (fail)
    obtain ⟨q, hq⟩ : ∃ q, q = decide (i < ws.length ∧ i < 20) := ⟨_, rfl⟩
    go_cut [37] (fun s wx => s = .bool q ∧ wr = wx)
    case first =>
      as_aux_lemma =>
      rcases (show (i < ws.length ∧ i < 20) ∨ (i < ws.length ∧ ¬ i < 20) ∨ ¬ i < ws.length by omega) with ⟨a1, a2⟩ | ⟨a1, a2⟩ | a1
      · obtain rfl : q = true := by rw [hq]; exact decide_eq_true ⟨a1, a2⟩
        have d2 : decide ((i : Int) < 20) = true := by simp; omega
        clear hq M R
        go_wp2_with fail
        go_meet
        exact ⟨rfl, rfl⟩
      · obtain rfl : q = false := by rw [hq]; exact decide_eq_false (by omega)
        have d2 : decide ((i : Int) < 20) = false := by simp; omega
        clear hq M R
        go_wp2_with fail
        go_meet
        exact ⟨rfl, rfl⟩
      · obtain rfl : q = false := by rw [hq]; exact decide_eq_false (by omega)
        have d2 : decide ((i : Int) < (ws.length : Int)) = false := by simp; omega
        clear hq M R
        go_wp2_with fail
        go_meet
        exact ⟨rfl, rfl⟩
    case rest =>
    obtain ⟨rfl, hwx⟩ := hcut
    subst hwx
    by_cases hk : i < ws.length ∧ i < 20
    · obtain rfl : q = true := by rw [hq]; exact decide_eq_true hk
      clear hq
      obtain ⟨hk1, hk2⟩ := hk
      obtain ⟨g, off, rfl, hc⟩ := HWC.out i _ (words_get ws hk1)
      have hx := HWS.out _ (List.getElem_mem hk1)
      have hc' : wr.cell? ⟨g, off + i, none⟩ = some (.int .u64 (ws[i] : Nat)) := by
        rw [World.cell?_of_block (w := w) (C.block g (World.block_lt_of_cell? w _ hc) (by simp)), hc]
      have hgl := World.block_lt_of_cell? w _ hc
      obtain ⟨x, hxe⟩ : ∃ x, x = ws[i] := ⟨_, rfl⟩
      rw [← hxe] at hc' hx
      have S1 := Lib.hid (store_any bm bw W u wr M i x hx)
      have HRf := Lib.hid R
      clear hc hxe M R
      go_wp2_with fail
      refine S1.out.mono ?_
      rintro e w3 ⟨rfl, M3, C3⟩
      have ne := NE.out
      have R3 := HRf.out.chg C3 (not2 ne.1.symm ne.2.2.1.symm) (not2 ne.2.1.symm ne.2.2.2.symm)
      have hc3 : w3.cell? ⟨g, off + i, none⟩ = some (.int .u64 (x : Nat)) := by
        rw [World.cell?_of_block (w := wr) (C3.block g (World.block_lt_of_cell? wr _ hc') (by simp; omega)), hc']
      have S2 := Lib.hid (rstore_any rm rw W u w3 R3 i x hx)
      have C03 := C.then C3 (fun g hg => .inr (by simp at hg; omega))
      clear hc' R3 C3 ne
      go_wp2_with fail
      refine S2.out.mono ?_
      rintro e w4 ⟨rfl, R4, C4⟩
      have ne := NE.out
      have M4 := M3.chg C4 (not2 ne.1 ne.2.1) (not2 ne.2.2.1 ne.2.2.2)
      have C04 := C03.then C4 (fun g hg => .inr (by simp at hg; omega))
      clear M3 ne hc3 C4 C03
      go_wp2_with fail
      go_roundw
      case rel => exact ⟨i + 1, _, _, by omega, by omega, by go_num, M4, R4, by rw [setA_length]; exact hl, C04⟩
      case measure => simp [intOf] <;> omega
    · obtain rfl : q = false := by rw [hq]; exact decide_eq_false hk
      clear hq hk HWC HWS hi hi2
      have HM := Lib.hid (And.intro M (And.intro R (And.intro hl C)))
      clear M R hl C
      have wc2 : IntKind.i64.wrap ((cap : Int) + 2) = 2 + (cap : Int) := by rw [IntKind.wrap_i64]; omega
      go_wp2_with (first
        | (go_at_call 8; refine (HAT.out base _).mono ?_; rintro e w5 ⟨rfl, C5⟩)
        | (go_at_call 9; refine (HRAT.out base _).mono ?_; rintro e w6 ⟨rfl, C6⟩))
      obtain ⟨db, hdb⟩ : ∃ db, db = w5.heap.size := ⟨_, rfl⟩
      obtain ⟨rb, hrb⟩ : ∃ rb, rb = w6.heap.size := ⟨_, rfl⟩
      have D5 : Blk (w5.alloc (.cells #[.int .i64 base, .int .i64 (cap : Nat)] 33)) db #[.int .i64 base, .int .i64 (cap : Nat)] 33 := by rw [hdb]; exact Blk.new _ _ _
      have C05 := (C5.alloc (.cells #[.int .i64 base, .int .i64 (cap : Nat)] 33)).then C6 (by simp)
      have D6 := D5.chg C6 (by simp)
      have l6 := D6.lt
      generalize hw7 : w6.alloc (.cells #[.int .i64 base, .int .i64 (cap : Nat)] 36) = w7
      have D7 : Blk w7 db #[.int .i64 base, .int .i64 (cap : Nat)] 33 := by rw [← hw7]; exact D6.alloc _
      have E7 : Blk w7 rb #[.int .i64 base, .int .i64 (cap : Nat)] 36 := by rw [← hw7, hrb]; exact Blk.new _ _ _
      have C07 : Chg [] wr w7 := by rw [← hw7]; exact C05.alloc _
      have hdr : wr.heap.size ≤ db ∧ db < rb := by have := C5.size; rw [hdb, hrb]; rw [hdb] at l6; exact ⟨this, l6⟩
      rw [← hdb, ← hrb]
      clear hdb hrb hw7 D5 D6 C5 C6 C05 l6 HAT HRAT
      have k0 : w7.cell? ⟨db, 0, none⟩ = some (.int .i64 base) := D7.cell 0
      have k1 : w7.cell? ⟨db, 1, none⟩ = some (.int .i64 (cap : Nat)) := D7.cell 1
      have k2 : w7.cell? ⟨rb, 1, none⟩ = some (.int .i64 (cap : Nat)) := E7.cell 1
      go_region_held3 (fun w' => w'.cell? ⟨db, 0, none⟩ = some (.int .i64 base) ∧ w'.cell? ⟨db, 1, none⟩ = some (.int .i64 (cap : Nat)) ∧ w'.cell? ⟨rb, 1, none⟩ = some (.int .i64 (cap : Nat))) (first | assumption | exact ⟨k0, k1, k2⟩)
        (first
          | (go_at_call 10; refine (cap_any base cap _).mono ?_; rintro e w8 ⟨rfl, C8⟩; have D8 := D7.chg C8.undrew (by simp); have E8 := E7.chg C8.undrew (by simp); have m0 : w8.cell? ⟨db, 0, none⟩ = some (.int .i64 base) ∧ w8.cell? ⟨db, 1, none⟩ = some (.int .i64 (cap : Nat)) ∧ w8.cell? ⟨rb, 1, none⟩ = some (.int .i64 (cap : Nat)) := ⟨D8.cell 0, D8.cell 1, E8.cell 1⟩)
          | (go_at_call 11; refine (HWD.out _).mono ?_; rintro e y ⟨rfl, rfl⟩))
      clear k0 k1 k2
      go_wp2_with (first
        | (refine wpList_make1 rfl (.const (.int .i64 6)) (.const (.int .i64 6)) 40 rfl 44 (.pointer none) 8 Try.underlying40 infoOp rfl .i64 .i64 6 rfl rfl (by omega) (by omega) ?_; intro w9 A9 C9 z9)
        | (refine wpList_make1 rfl (.const (.int .i64 6)) (.const (.int .i64 6)) 41 rfl 48 (.pointer none) 8 Try.underlying41 infoROp rfl .i64 .i64 6 rfl rfl (by omega) (by omega) ?_; intro w10 B10 C10 z10))
      have P10 : SP w w10 w10.heap.size bm bw rm rw db rb w8.heap.size w9.heap.size base cap (fun _ => none) (fun _ => 0) (fun _ => 0) W u := by
        obtain ⟨hM, hR2, hl2, hC⟩ := HM.out
        have c8 := C8.undrew
        have C08 := (C07.trans c8).trans C9
        have C0 := C08.trans C10
        have s1 := (C07.trans c8).size
        have s2 := E8.lt
        have q1 := hM.head.lt
        have q2 := hM.row.lt
        have q3 := hR2.head.lt
        have q4 := hR2.row.lt
        have q5 := hC.size
        refine ⟨hM.keep C0, hR2.keep C0, (D8.chg C9 (by simp)).chg C10 (by simp), (E8.chg C9 (by simp)).chg C10 (by simp), by rw [← ptrA_none (fun _ => 0)]; exact A9.chg C10 (by simp), by rw [← ptrA_none (fun _ => 0)]; exact B10, (fun k _ o h => by cases h), (fun j k _ _ _ h => absurd rfl h), NE.out.2.2.2, hl2, ?_, ?_, Nat.le_refl _, hC.trans C0⟩
        · clear NE; omega
        · clear NE; omega
      obtain ⟨lim, hlim⟩ : ∃ lim, lim = w10.heap.size := ⟨_, rfl⟩
      obtain ⟨ab, hab⟩ : ∃ ab, ab = w8.heap.size := ⟨_, rfl⟩
      obtain ⟨bb, hbb⟩ : ∃ bb, bb = w8.heap.size + 1 := ⟨_, rfl⟩
      rw [← hlim, z9, ← hbb, ← hab] at P10
      rw [← hbb, ← hab]
      have hmb : -3 ≤ base ∧ base ≤ 9 := ⟨hm0, hm1⟩
      clear hlim hab hbb A9 B10 C9 C10 z9 z10 D8 E8 m0 C8 D7 E7 C07 hdr HM NE HWD wc2 hlo hm0 hm1
      go_loopw [16] (fun x wr => ∃ (i : Nat) (A : Nat → Option DOp) (gb hb : Nat → Nat) (W : List Nat) (u : Nat), i ≤ rows.length ∧ i ≤ 90 ∧ x = .int .i64 i ∧ SP w wr lim bm bw rm rw db rb ab bb base cap A gb hb W u) (fun x _ => 90 - (intOf x).toNat)
      case atStart => exact ⟨0, _, _, _, _, _, by omega, by omega, rfl, P10⟩
      case round =>
        obtain ⟨i, A, gb, hb, W, u, hi, hi2, rfl, P⟩ := hrel
        have HP := Lib.hid P
        clear P P10
        go_upto_region 17 with (fail)
        obtain ⟨q, hq⟩ : ∃ q, q = decide (i < rows.length ∧ i < 90) := ⟨_, rfl⟩
        go_cut [82] (fun s wx => s = .bool q ∧ wr = wx)
        case first =>
          as_aux_lemma =>
          rcases (show (i < rows.length ∧ i < 90) ∨ (i < rows.length ∧ ¬ i < 90) ∨ ¬ i < rows.length by omega) with ⟨a1, a2⟩ | ⟨a1, a2⟩ | a1
          · obtain rfl : q = true := by rw [hq]; exact decide_eq_true ⟨a1, a2⟩
            have d2 : decide ((i : Int) < 90) = true := decide_eq_true (by omega)
            clear hq
            go_wp2_with fail
            go_meet
            exact ⟨by first | rfl | rw [d2], rfl⟩
          · obtain rfl : q = false := by rw [hq]; exact decide_eq_false (by omega)
            have d2 : decide ((i : Int) < 90) = false := by simp; omega
            clear hq
            go_wp2_with fail
            go_meet
            exact ⟨rfl, rfl⟩
          · obtain rfl : q = false := by rw [hq]; exact decide_eq_false (by omega)
            have d2 : decide ((i : Int) < (rows.length : Int)) = false := by simp; omega
            clear hq
            go_wp2_with fail
            go_meet
            exact ⟨rfl, rfl⟩
        case rest =>
        obtain ⟨rfl, hwx⟩ := hcut
        subst hwx
        by_cases hkl : i < rows.length ∧ i < 90
        · obtain rfl : q = true := by rw [hq]; exact decide_eq_true hkl
          obtain ⟨hkl, hi90⟩ := hkl
          clear hq
          obtain ⟨g, off, rfl, hc⟩ := HCELL.out i _ (List.getElem?_eq_getElem hkl)
          obtain ⟨who, pq, x, a1, a2, a3, hrow⟩ := HR.out _ (List.getElem_mem hkl)
          rw [hrow] at hc
          have hgw : g < w.heap.size := World.block_lt_of_cell? w _ (hc 0 _ rfl)
          have hfr : ∀ (j : Nat) y, ([.int .u8 who, .bool pq, .int .u64 x] : List Value)[j]? = some y → ∀ w5, Chg [] w w5 → w5.cell? ⟨g, off + i * 3 + j, none⟩ = some y := fun j y hy w5 h5 => by
            rw [World.cell?_of_block (w := w) (h5.block g hgw (by simp)), hc j _ hy]
          have HF := Lib.hid (fun w5 h5 => And.intro (hfr 0 _ rfl w5 h5) (And.intro (hfr 1 _ rfl w5 h5) (hfr 2 _ rfl w5 h5)))
          simp only [Nat.add_zero] at HF
          obtain ⟨k, ek, hk⟩ : ∃ k : Nat, who % 6 = (k : Int) ∧ k < 6 := ⟨(who % 6).toNat, by omega, by omega⟩
          clear hfr hc hrow
          have f0 : wr.cell? ⟨g, off + i * 3, none⟩ = some (.int .u8 who) := (HF.out wr HP.out.chg).1
          go_upto_region 20 with (fail)
          have f1 : wr.cell? ⟨g, off + i * 3 + 1, none⟩ = some (.bool pq) := (HF.out wr HP.out.chg).2.1
          have ca : wr.cell? ⟨ab, k, none⟩ = some (.pointer (if (A k).isSome then some ⟨gb k, 0, none⟩ else none)) := by rw [HP.out.arr.cell, ptrA_get _ _ hk]
          have cb : wr.cell? ⟨bb, k, none⟩ = some (.pointer (if (A k).isSome then some ⟨hb k, 0, none⟩ else none)) := by rw [HP.out.brr.cell, ptrA_get _ _ hk]
          have hk6 : (k : Int) < 6 := by omega
          obtain ⟨bg, hbg⟩ : ∃ bg, bg = (match A k with | none => true | some o => o.done && (!pq || decide (k = 0))) := ⟨_, rfl⟩
          go_cut [126] (fun s wx => s = .bool bg ∧ wr = wx)
          case first =>
            as_aux_lemma =>
            cases hA : A k with
            | none =>
              rw [hA] at ca hbg
              simp only [Option.isSome_none, Bool.false_eq_true, if_false] at ca
              dsimp only at hbg
              subst hbg
              clear hA cb
              go_wp2_with fail
              go_meet
              exact ⟨rfl, rfl⟩
            | some o =>
              rw [hA] at ca cb hbg
              simp only [Option.isSome_some, if_true] at ca cb
              dsimp only at hbg
              have c8 := (HP.out.ops k hk o hA).2.1.c8
              obtain ⟨dn, hdn⟩ : ∃ dn, dn = o.done := ⟨_, rfl⟩
              rw [← hdn] at c8 hbg
              clear hA hdn
              cases dn
              · rw [Bool.false_and] at hbg
                subst hbg
                go_wp2_with fail
                go_meet
                exact ⟨rfl, rfl⟩
              · rw [Bool.true_and] at hbg
                cases pq
                · rw [Bool.not_false, Bool.true_or] at hbg
                  subst hbg
                  go_wp2_with fail
                  go_meet
                  exact ⟨rfl, rfl⟩
                · rw [Bool.not_true, Bool.false_or] at hbg
                  by_cases k0 : k = 0
                  · obtain rfl : bg = true := by rw [hbg]; exact decide_eq_true k0
                    have dk : ((k : Int) == 0) = true := by rw [k0]; rfl
                    clear hbg k0
                    go_wp2_with fail
                    go_meet
                    exact ⟨by first | rfl | rw [dk], rfl⟩
                  · obtain rfl : bg = false := by rw [hbg]; exact decide_eq_false k0
                    have dk : ((k : Int) == 0) = false := beq_eq_false_iff_ne.2 (by omega)
                    clear hbg k0
                    go_wp2_with fail
                    go_meet
                    exact ⟨by first | rfl | rw [dk], rfl⟩
          case rest =>
          obtain ⟨rfl, hwx⟩ := hcut
          subst hwx
          go_upto_if 126 with (fail)
          have f2 : wr.cell? ⟨g, off + i * 3 + 2, none⟩ = some (.int .u64 (x : Nat)) := (HF.out wr HP.out.chg).2.2
          go_cut [17] (fun s wx => s = .int .i64 (k : Nat) ∧ ∃ (A : Nat → Option DOp) (gb hb : Nat → Nat) (W : List Nat) (u : Nat), Hid (SP w wx lim bm bw rm rw db rb ab bb base cap A gb hb W u))
          case first =>
            as_aux_lemma =>
            cases bg
            · as_aux_lemma => -- a step of both
              obtain ⟨o, hA⟩ : ∃ o, A k = some o := by
                cases hA : A k with
                | none => rw [hA] at hbg; cases hbg
                | some o => exact ⟨o, rfl⟩
              rw [hA] at ca cb
              simp only [Option.isSome_some, if_true] at ca cb
              obtain ⟨iop, jop, ok, lg1, lg2⟩ := HP.out.ops k hk o hA
              have HIJ := Lib.hid (And.intro iop (And.intro jop ok))
              have low := HP.out.low
              have NA := Lib.hid HP.out.nab
              have NB := Lib.hid HP.out.nbb
              have NM := Lib.hid HP.out.nmem
              have NGH := Lib.hid (blk_ne iop jop (by decide) : gb k ≠ hb k)
              have HT := Lib.hid (step_any (gb k) o wr.drew (iop.chg (Chg.refl [] _).drew (by simp)) ok bm bw W u HP.out.mem.drew (by omega) (by omega))
              have HRT := Lib.hid (fun w2 h hm => rstep_any (hb k) o w2 h ok rm rw W u hm (by omega) (by omega))
              have Nab : ab ∉ [gb k, bm, bw] := not3 (by omega) NA.out.1 NA.out.2.1
              have Nbb : bb ∉ [gb k, bm, bw] := not3 (by omega) NB.out.1 NB.out.2.1
              have Nab2 : ab ∉ [hb k, rm, rw] := not3 (by omega) NA.out.2.2.1 NA.out.2.2.2.1
              have Nbb2 : bb ∉ [hb k, rm, rw] := not3 (by omega) NB.out.2.2.1 NB.out.2.2.2.1
              have Nhb : hb k ∉ [gb k, bm, bw] := not3 NGH.out.symm (by omega) (by omega)
              have Nrm : rm ∉ [gb k, bm, bw] := not3 (by omega) NM.out.1.symm NM.out.2.2.1.symm
              have Nrw : rw ∉ [gb k, bm, bw] := not3 (by omega) NM.out.2.1.symm HP.out.wne.symm
              have NN := Lib.hid (And.intro Nab (And.intro Nbb (And.intro Nab2 (And.intro Nbb2 (And.intro Nhb (And.intro Nrm Nrw))))))
              have HAK := Lib.hid hA
              have HST := Lib.hid (fun w1 w2 hi hm hc hj hr hd => HP.out.step hk hA (w1 := w1) (w2 := w2) hi hm hc hj hr hd)
              unfold Stepped at HT
              unfold RStepped at HRT
              have CK := Lib.hid (fun (w2 : World) (h : w2.heap[ab]? = wr.heap[ab]?) (h' : w2.heap[bb]? = wr.heap[bb]?) => show w2.cell? ⟨ab, k, none⟩ = some (.pointer (some ⟨gb k, 0, none⟩)) ∧ w2.cell? ⟨bb, k, none⟩ = some (.pointer (some ⟨hb k, 0, none⟩)) from ⟨(World.cell?_of_block (w := wr) h).trans ca, (World.cell?_of_block (w := wr) h').trans cb⟩)
              have la : ab < wr.heap.size := HP.out.arr.lt
              have lb : bb < wr.heap.size := HP.out.brr.lt
              have OKS := Lib.hid (okStep ok HP.out.mem.small (u := u))
              obtain ⟨o', ho'⟩ : ∃ o', o' = (stepD o W u).1 := ⟨_, rfl⟩
              obtain ⟨W', hW'⟩ : ∃ W', W' = (stepD o W u).2.1 := ⟨_, rfl⟩
              obtain ⟨u', hu'⟩ : ∃ u', u' = (stepD o W u).2.2 := ⟨_, rfl⟩
              rw [← ho', ← hW', ← hu'] at HT HRT HST
              rw [← ho'] at OKS
              obtain ⟨dn, hdn⟩ : ∃ dn, dn = o'.done := ⟨_, rfl⟩
              rw [← hdn] at HT HRT
              clear iop jop ok ho' hW' hu' hdn Nab Nbb Nab2 Nbb2 Nhb Nrm Nrw hA hbg f0 f1 f2 low
              go_wp2_with fail
              go_region_held3 (fun w' => w'.cell? ⟨ab, k, none⟩ = some (.pointer (some ⟨gb k, 0, none⟩)) ∧ w'.cell? ⟨bb, k, none⟩ = some (.pointer (some ⟨hb k, 0, none⟩))) (first | assumption | exact ⟨ca, cb⟩)
                (first
                  | (go_at_call 14; refine HT.out.mono ?_; rintro e w2 ⟨rfl, H2, M2, C2⟩; have D2 := C2.undrew; have k2 := CK.out w2 (D2.block ab la NN.out.1) (D2.block bb lb NN.out.2.1); have S2 := Lib.hid (HRT.out w2 (HIJ.out.2.1.chg D2 NN.out.2.2.2.2.1) (HP.out.ref.chg D2 NN.out.2.2.2.2.2.1 NN.out.2.2.2.2.2.2)))
                  | (go_at_call 15; refine S2.out.mono ?_; rintro e w3 ⟨rfl, H3, R3, C3⟩; have k3 := CK.out w3 ((C3.block ab (Nat.lt_of_lt_of_le la D2.size) NN.out.2.2.1).trans (D2.block ab la NN.out.1)) ((C3.block bb (Nat.lt_of_lt_of_le lb D2.size) NN.out.2.2.2.1).trans (D2.block bb lb NN.out.2.1)); have P3 := Lib.hid (HST.out w2 w3 H2 M2 D2 H3 R3 C3); have HLK := Lib.hid (let p := P3.out.ops k hk o' (updA_same A k o'); like_any (gb k) (hb k) o' w3 p.1 p.2.1 p.2.2.1 bm bw rm rw W' u' P3.out.mem P3.out.ref))
                  | (go_at_call 13; refine HLK.out.mono ?_; rintro e w4 ⟨rfl, C4⟩; have P4 := Lib.hid (P3.out.keep C4); have k4 : w4.cell? ⟨ab, k, none⟩ = some (.pointer (some ⟨gb k, 0, none⟩)) ∧ w4.cell? ⟨bb, k, none⟩ = some (.pointer (some ⟨hb k, 0, none⟩)) := (by obtain ⟨x1, x2⟩ := k3; exact ⟨cell_keep C4 x1, cell_keep C4 x2⟩)))
              go_wp2_with fail
              go_meet
              exact ⟨rfl, _, _, _, _, _, P4⟩
            · as_aux_lemma => -- two new works
              have HBG := Lib.hid (fun w => begin_all base cap k who pq x w)
              have okn := OkOp.new (base := base) (cap := cap) (kind := kindOf k pq) (x := wordOf k pq x) (by omega) (by omega) HP2.out (by unfold kindOf; split <;> (try split) <;> omega) (by unfold wordOf; split <;> omega)
              have OKN := Lib.hid okn
              obtain ⟨o, ho⟩ : ∃ o, o = newD base cap (kindOf k pq) (wordOf k pq x) := ⟨_, rfl⟩
              rw [← ho] at HBG OKN
              unfold Began at HBG
              have NA := Lib.hid HP.out.nab
              have NB := Lib.hid HP.out.nbb
              have lo := HP.out.lo
              have la : ab < wr.heap.size := HP.out.arr.lt
              have lb : bb < wr.heap.size := HP.out.brr.lt
              have nga : g ≠ ab := by omega
              have ngb : g ≠ bb := by omega
              have HS0 : ∀ w2 : World, w2.heap[db]? = wr.heap[db]? → w2.heap[rb]? = wr.heap[rb]? → w2.heap[g]? = wr.heap[g]? → w2.cell? ⟨db, 0, none⟩ = some (.int .i64 base) ∧ w2.cell? ⟨db, 1, none⟩ = some (.int .i64 (cap : Nat)) ∧ w2.cell? ⟨rb, 0, none⟩ = some (.int .i64 base) ∧ w2.cell? ⟨rb, 1, none⟩ = some (.int .i64 (cap : Nat)) ∧ w2.cell? ⟨g, off + i * 3, none⟩ = some (.int .u8 who) ∧ w2.cell? ⟨g, off + i * 3 + 1, none⟩ = some (.bool pq) ∧ w2.cell? ⟨g, off + i * 3 + 2, none⟩ = some (.int .u64 (x : Nat)) := fun w2 e1 e2 e3 =>
                ⟨(World.cell?_of_block (w := wr) e1).trans (HP.out.d.cell 0), (World.cell?_of_block (w := wr) e1).trans (HP.out.d.cell 1), (World.cell?_of_block (w := wr) e2).trans (HP.out.r.cell 0), (World.cell?_of_block (w := wr) e2).trans (HP.out.r.cell 1), (World.cell?_of_block (w := wr) e3).trans f0, (World.cell?_of_block (w := wr) e3).trans f1, (World.cell?_of_block (w := wr) e3).trans f2⟩
              have HSC := Lib.hid (fun (w2 : World) (C : Chg [ab, bb] wr w2) => HS0 w2 (C.block db HP.out.d.lt (not2 NA.out.2.2.2.2.1.symm NB.out.2.2.2.2.1.symm)) (C.block rb HP.out.r.lt (not2 NA.out.2.2.2.2.2.1.symm NB.out.2.2.2.2.2.1.symm)) (C.block g (by have := HP.out.chg.size; omega) (not2 nga ngb)))
              have k1 := HSC.out wr (Chg.refl _ _)
              have HNEW := Lib.hid (fun w1 g r w' hc hg hr h h' hw => HP.out.new hk (w1 := w1) (w' := w') (g := g) (r := r) (o := o) hc hg hr h h' OKN.out hw)
              have HK := Lib.hid hk
              clear okn ho HS0 hbg lo ca cb hk
              go_wp2_with fail
              go_region_held3 (fun w' => w'.cell? ⟨db, 0, none⟩ = some (.int .i64 base) ∧ w'.cell? ⟨db, 1, none⟩ = some (.int .i64 (cap : Nat)) ∧ w'.cell? ⟨rb, 0, none⟩ = some (.int .i64 base) ∧ w'.cell? ⟨rb, 1, none⟩ = some (.int .i64 (cap : Nat)) ∧ w'.cell? ⟨g, off + i * 3, none⟩ = some (.int .u8 who) ∧ w'.cell? ⟨g, off + i * 3 + 1, none⟩ = some (.bool pq) ∧ w'.cell? ⟨g, off + i * 3 + 2, none⟩ = some (.int .u64 (x : Nat))) (first | assumption | exact k1)
                (first | (go_at_call 12; refine (HBG.out _).mono ?_; rintro e w2 ⟨gn, rn, rfl, H2, R2, C2, s2, t2, n2⟩; have D2 := C2.undrew; have P2 := HP.out.keep D2; have CA := D2.weak (S := [ab, bb]); have CB := CA.setCell (a := ⟨ab, k, none⟩) (.inl (by simp)) (.pointer (some ⟨gn, 0, none⟩)); have CC := CB.setCell (a := ⟨bb, k, none⟩) (.inl (by simp)) (.pointer (some ⟨rn, 0, none⟩)); have q1 := HSC.out _ CA; have q2 := HSC.out _ CB; have q3 := HSC.out _ CC; have a1 : w2.cell? ⟨ab, k, none⟩ = some (.pointer (if (A k).isSome then some ⟨gb k, 0, none⟩ else none)) := (by rw [P2.arr.cell, ptrA_get _ _ HK.out]); have a2 := P2.arr.frozen k; have b1 : w2.cell? ⟨bb, k, none⟩ = some (.pointer (if (A k).isSome then some ⟨hb k, 0, none⟩ else none)) := (by rw [P2.brr.cell, ptrA_get _ _ HK.out]); have b2 := P2.brr.frozen k; have B3 := Blk.setCell_other (a := ⟨ab, k, none⟩) P2.brr (.pointer (some ⟨gn, 0, none⟩)) NB.out.2.2.2.2.2.2; have b3 : (w2.setCell ⟨ab, k, none⟩ (.pointer (some ⟨gn, 0, none⟩))).cell? ⟨bb, k, none⟩ = some (.pointer (if (A k).isSome then some ⟨hb k, 0, none⟩ else none)) := (by rw [B3.cell, ptrA_get _ _ HK.out]); have b4 := B3.frozen k; have PN := Lib.hid (HNEW.out w2 gn rn _ D2 s2 t2 H2 R2 rfl); clear P2 CA CB CC B3))
              obtain ⟨w3, hw3⟩ : ∃ w3, w3 = (w2.setCell ⟨ab, k, none⟩ (.pointer (some ⟨gn, 0, none⟩))).setCell ⟨bb, k, none⟩ (.pointer (some ⟨rn, 0, none⟩)) := ⟨_, rfl⟩
              clear a1 a2 b1 b2 b3 b4 q1 q2 q3 k1 H2 R2 C2 D2 s2 t2 n2 f0 f1 f2
              rw [← hw3] at PN ⊢
              have eg : updG gb k gn k = gn := by simp [updG]
              have er : updG hb k rn k = rn := by simp [updG]
              have p1 : w3.cell? ⟨ab, k, none⟩ = some (.pointer (some ⟨gn, 0, none⟩)) := by rw [PN.out.arr.cell, ptrA_get _ _ HK.out, updA_same, eg]; rfl
              have p2 : w3.cell? ⟨bb, k, none⟩ = some (.pointer (some ⟨rn, 0, none⟩)) := by rw [PN.out.brr.cell, ptrA_get _ _ HK.out, updA_same, er]; rfl
              have PD := Lib.hid (PN.out.keep (Chg.refl [] w3).drew)
              have HLK := Lib.hid (let p := PD.out.ops k HK.out o (updA_same A k o); like_any (updG gb k gn k) (updG hb k rn k) o w3.drew p.1 p.2.1 p.2.2.1 bm bw rm rw W u PD.out.mem PD.out.ref)
              rw [eg, er] at HLK
              clear hw3
              go_wp2_with fail
              go_region_held3 (fun w' => w'.cell? ⟨ab, k, none⟩ = some (.pointer (some ⟨gn, 0, none⟩)) ∧ w'.cell? ⟨bb, k, none⟩ = some (.pointer (some ⟨rn, 0, none⟩))) (first | assumption | exact ⟨p1, p2⟩ | fail)
                (first
                  | (go_at_call 13; refine HLK.out.mono ?_; rintro e w4 ⟨rfl, C4⟩; have P4 := Lib.hid (PD.out.keep C4); have k4 : w4.cell? ⟨ab, k, none⟩ = some (.pointer (some ⟨gn, 0, none⟩)) ∧ w4.cell? ⟨bb, k, none⟩ = some (.pointer (some ⟨rn, 0, none⟩)) := (by exact ⟨cell_keep C4 p1, cell_keep C4 p2⟩))
                  | fail)
              go_wp2_with fail
              go_meet
              exact ⟨rfl, _, _, _, _, _, P4⟩
          case rest =>
            as_aux_lemma =>
            obtain ⟨rfl, A', gb', hb', W', u', HQ⟩ := hcut
            clear HP ca cb f0 f1 f2 hbg
            have j0 : wc.cell? ⟨db, 0, none⟩ = some (.int .i64 base) := HQ.out.d.cell 0
            have j1 : wc.cell? ⟨db, 1, none⟩ = some (.int .i64 (cap : Nat)) := HQ.out.d.cell 1
            have j2 : wc.cell? ⟨rb, 0, none⟩ = some (.int .i64 base) := HQ.out.r.cell 0
            have j3 : wc.cell? ⟨rb, 1, none⟩ = some (.int .i64 (cap : Nat)) := HQ.out.r.cell 1
            have j4 : wc.cell? ⟨rm, 0, none⟩ = some (.slice (some ⟨rw, 0, none⟩) W'.length W'.length) := HQ.out.ref.c0
            have j5 : wc.cell? ⟨rm, 1, none⟩ = some (.int .u64 (u' : Nat)) := HQ.out.ref.c1
            have HJ := Lib.hid (fun w' (C : Chg [] wc w') => show w'.cell? ⟨db, 0, none⟩ = some (.int .i64 base) ∧ w'.cell? ⟨db, 1, none⟩ = some (.int .i64 (cap : Nat)) ∧ w'.cell? ⟨rb, 0, none⟩ = some (.int .i64 base) ∧ w'.cell? ⟨rb, 1, none⟩ = some (.int .i64 (cap : Nat)) ∧ w'.cell? ⟨rm, 0, none⟩ = some (.slice (some ⟨rw, 0, none⟩) W'.length W'.length) ∧ w'.cell? ⟨rm, 1, none⟩ = some (.int .u64 (u' : Nat)) from ⟨cell_keep C j0, cell_keep C j1, cell_keep C j2, cell_keep C j3, cell_keep C j4, cell_keep C j5⟩)
            have jj := HJ.out wc (Chg.refl _ _)
            have HU := Lib.hid (used_any bm bw W' u' wc.drew HQ.out.mem.drew)
            have HPT := Lib.hid (part_any bm bw W' u' wc.drew HQ.out.mem.drew 0 20 (by omega) (by omega) (by omega) (by omega))
            have hl' := HQ.out.len
            rw [show partN W' 0 20 = W' from partN_all W' 20 (by omega) (by omega)] at HPT
            have HSM := Lib.hid (fun v v2 (l : List Nat) w' (h : Reads w' v (words l)) (h2 : Reads w' v2 (words l)) => show Calls Try.prog 17 #[v, v2] w' fun e w' => e = .returned (.bool true) ∧ Chg [] _ w' from by have h3 := msame_any v v2 l l w' h h2; rw [decide_eq_true rfl] at h3; exact h3)
            have HDA := Lib.hid (fun w' (C : Chg [] wc w') => dall_any base (by omega) (by omega) cap HP2.out bm bw W' u' w' (HQ.out.mem.keep C))
            have HRA := Lib.hid (fun w' (C : Chg [] wc w') => rall_any base (by omega) (by omega) cap HP2.out rm rw W' u' w' (HQ.out.ref.keep C))
            have HDL := Lib.hid (fun w' (C : Chg [] wc w') => dlen_any base (by omega) (by omega) cap HP2.out bm bw W' u' w' (HQ.out.mem.keep C))
            have hal : (allD base cap W').length = lenD base cap W' := by unfold allD; simp
            have HRW := Lib.hid (fun w' (C : Chg [] wc w') => (HQ.out.ref.row.chg C (by simp)).reads W'.length W'.length (by simp [words_len]) (by simp [words_len, maxLen]; omega) (xs := words W') (by rw [List.take_of_length_le (by simp [words_len])]))
            obtain ⟨LA, hLA⟩ : ∃ LA, LA = allD base cap W' := ⟨_, rfl⟩
            rw [← hLA] at HDA HRA hal
            obtain ⟨n, hn⟩ : ∃ n, n = lenD base cap W' := ⟨_, rfl⟩
            rw [← hn] at HDL hal
            have HRB := Lib.hid (fun w' (C : Chg [] wc w') => show Calls Try.prog 20 #[.agg #[.int .i64 base, .int .i64 (cap : Nat)], .pointer (some ⟨rm, 0, none⟩)] w' fun e w'' => ∃ ao cp, e = .returned (.slice ao n cp) ∧ Chg [] w' w'' from (HRA.out w' C).mono (by rintro e w'' ⟨v, rfl, O, C2⟩; obtain ⟨ao, cp, rfl, _, _⟩ := O.reads; exact ⟨ao, cp, by rw [words_len, hal], C2⟩))
            clear hLA hn hal hl' j0 j1 j2 j3 j4 j5
            go_wp2_with fail
            go_region_held3 (fun w' => w'.cell? ⟨db, 0, none⟩ = some (.int .i64 base) ∧ w'.cell? ⟨db, 1, none⟩ = some (.int .i64 (cap : Nat)) ∧ w'.cell? ⟨rb, 0, none⟩ = some (.int .i64 base) ∧ w'.cell? ⟨rb, 1, none⟩ = some (.int .i64 (cap : Nat)) ∧ w'.cell? ⟨rm, 0, none⟩ = some (.slice (some ⟨rw, 0, none⟩) W'.length W'.length) ∧ w'.cell? ⟨rm, 1, none⟩ = some (.int .u64 (u' : Nat))) (first | assumption | exact jj | fail)
              (first
                | (go_at_call 16; refine HU.out.mono ?_; rintro e y ⟨rfl, rfl⟩)
                | (go_at_call 18; refine HPT.out.mono ?_; rintro e w2 ⟨v2, rfl, O2, C2⟩; have D2 := C2.undrew; have k2 := HJ.out w2 D2; have SA := Lib.hid (HSM.out v2 _ W' w2 O2.reads (HRW.out w2 D2)))
                | (go_at_call 17; refine SA.out.mono ?_; clear SA; rintro e w3 ⟨rfl, C3⟩; have D3 := D2.trans C3; have k3 := HJ.out w3 D3; have DA := Lib.hid (HDA.out w3 D3))
                | (go_at_call 19; refine DA.out.mono ?_; rintro e w4 ⟨v4, rfl, O4, C4⟩; have D4 := D3.trans C4; have k4 := HJ.out w4 D4; have RA := Lib.hid (HRA.out w4 D4))
                | (go_at_call 20; refine RA.out.mono ?_; clear RA; rintro e w5 ⟨v5, rfl, O5, C5⟩; have D5 := D4.trans C5; have k5 := HJ.out w5 D5; have SB := Lib.hid (HSM.out v4 v5 LA w5 (O4.reads.keep C5) O5.reads))
                | (go_at_call 17; refine SB.out.mono ?_; rintro e w6 ⟨rfl, C6⟩; have D6 := D5.trans C6; have k6 := HJ.out w6 D6; have DL := Lib.hid (HDL.out w6 D6))
                | (go_at_call 21; refine DL.out.mono ?_; rintro e w7 ⟨rfl, C7⟩; have D7 := D6.trans C7; have k7 := HJ.out w7 D7; have RB := Lib.hid (HRB.out w7 D7))
                | (go_at_call 20; refine RB.out.mono ?_; rintro e w8 ⟨ao8, cp8, rfl, C8⟩; have D8 := D7.trans C8; have k8 := HJ.out w8 D8))
            go_wp2_with fail
            go_roundw
            case rel => exact ⟨i + 1, _, _, _, _, _, by omega, by omega, by go_num, HQ.out.keep D8⟩
            case measure => simp [intOf] <;> omega
        · obtain rfl : q = false := by rw [hq]; exact decide_eq_false hkl
          clear hq hkl
          go_wp2_with (go_at_call 22; refine (awake_any _).mono ?_; rintro e w12 ⟨rfl, C12⟩)
          go_ret
          exact ⟨rfl, HP.out.chg.trans C12⟩

namespace dequePlays
open Go.ChangeShapes Go.WideShapes Go.ChangeAt
theorem own : ownKnob Try.prog.godebug = none := by kernel_rfl
theorem laidOut : laidOutB Try.prog = true := by kernel_rfl

set_option maxRecDepth 100000 in
theorem lifted (os : Os) (started : os.Started) (H : Type) (enc : TypeId × Value → H) :
    ReturnsInHanded {} Try.checked os 3 .any (Rows.dequePlaysSpec.pre6 enc Try.prog Try.f3 Rows.dequePlaysRow.domain false) (Rows.dequePlaysSpec.post enc Try.prog Try.f3 false true false false) := by
  refine returnsInHanded_of_change (C := Try.checked) own started (by kernel_rfl) Try.func3
    (ChangeSpec.witness6 (enc := enc) (C := Try.checked) false ⟨#[], #[.int .i64 0, .int .i64 0, .slice none 0 0, .slice none 0 0], []⟩ 8 (by kernel_rfl) (by kernel_rfl) (by kernel_rfl) (by kernel_rfl)) ?_
  intro W base args ds gs before hval0 hW hcnd _
  have hval : ∀ (j : Nat) t v, Try.f3.params[j]? = some t → args[j]? = some v → Value.okWide Try.prog W .any base t v := hval0
  have hW' := hW
  obtain ⟨p, q, hA0, hV, rfl, hfz, hnd⟩ := hW
  have hA : DataW.TrodAll enc Try.prog W 0 (fun _ => true) true Try.f3.params.toList args.toList ds p := hA0
  rw [Try.params3] at hA hval
  obtain ⟨v0, vs0, d0, ds0, p0, q0, hargs, rfl, rfl, h0, r0⟩ := trodAll_cons hA
  obtain ⟨v1, vs1, d1, ds1, p1, q1, rfl, rfl, rfl, h1, r1⟩ := trodAll_cons r0
  obtain ⟨v2, vs2, d2, ds2, p2, q2, rfl, rfl, rfl, h2, r2⟩ := trodAll_cons r1
  obtain ⟨v3, vs3, d3, ds3, p3, q3, rfl, rfl, rfl, h3, r3⟩ := trodAll_cons r2
  obtain ⟨rfl, rfl, rfl⟩ := trodAll_nil r3
  obtain rfl : args = #[v0, v1, v2, v3] := by cases args; simp_all
  obtain ⟨rfl, rfl⟩ := trodVars_none hV
  obtain ⟨a0, rfl, rfl, rfl, w0⟩ := open_int Try.underlying3 (hval 0 3 v0 rfl rfl) h0
  have b0 := bounds_i64 w0
  obtain ⟨a1, rfl, rfl, rfl, w1⟩ := open_int Try.underlying3 (hval 1 3 v1 rfl rfl) h1
  have b1 := bounds_i64 w1
  obtain ⟨a2, len2, cap2, rfl⟩ := okWide_slice Try.underlying22 (hval 2 22 v2 rfl rfl)
  have k2 := h2
  have lt2 : ∀ x ∈ p2, x.block < W.heap.size := by obtain ⟨m, hm⟩ := k2; exact DataW.trod_lt m _ _ _ hm
  obtain ⟨l2, hl2, hr2⟩ := open_words Try.underlying22 Try.underlying30 (by kernel_rfl) h2
  obtain ⟨a3, len3, cap3, rfl⟩ := okWide_slice Try.underlying23 (hval 3 23 v3 rfl rfl)
  have k3 := h3
  have lt3 : ∀ x ∈ p3, x.block < W.heap.size := by obtain ⟨m, hm⟩ := k3; exact DataW.trod_lt m _ _ _ hm
  obtain ⟨l3, hl3, hr3⟩ := open_elems (Q := ActRow) Try.underlying23 3 (by decide) (by kernel_rfl) (fun fuel cs y hy => ActRow_of fuel cs y hy) h3
  clear hA0 hval0
  simp only [List.append_nil] at hW'
  refine (dequePlays_walk W a0 b0.1 b0.2 a1 b1.1 b1.2 _ l2 hl2 hr2 _ l3 hl3 hr3).mono fun e W' ⟨he, hg⟩ => ?_
  subst he
  exact ⟨_, rfl, _, _, _, [], _, [], hW', trodAll_mk1 (shut_bool Try.underlying4 _), (trodAll_cons_mk (shut_int Try.underlying3 w0) (trodAll_cons_mk (shut_int Try.underlying3 w1) (trodAll_cons_mk (Below.trod laidOut (by kernel_rfl) (of_decide_eq_true (by kernel_rfl)) k2 hg.below lt2) (trodAll_cons_mk (Below.trod laidOut (by kernel_rfl) (of_decide_eq_true (by kernel_rfl)) k3 hg.below lt3) trodAll_mk0)))), rfl, hg.below.frame _, fun h => by cases h⟩

theorem over : Rows.dequePlaysRow.holds Try.pinned (OpenSpec.ofChange Rows.dequePlaysSpec) :=
  OpenClaim.holds_of_wide 3 Try.f3 rfl rfl rfl rfl rfl rfl rfl ⟨rfl, rfl, rfl, rfl, rfl⟩ rfl rfl rfl rfl rfl (by kernel_rfl) Try.func3 (by kernel_rfl)
    (of_decide_eq_true (by kernel_rfl)) (by unfold Func.isWrapper; first | (rw [if_pos (by decide +kernel)]; kernel_rfl) | (rw [if_neg (by decide +kernel)]; exact ⟨rfl, rfl⟩))
    (fun os started H enc _ => lifted os started H enc)
end dequePlays

theorem dequePlays_holds : Rows.DequePlaysSaid := dequePlays.over
#print axioms dequePlays_holds
end Go.Proofs.Ytcempigpphmchaa
