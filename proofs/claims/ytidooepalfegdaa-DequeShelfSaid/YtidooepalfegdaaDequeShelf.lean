/- For every cap, first and l the law DequeShelf returns true: a deque that one owner and any thieves work on is a shelf. No conditions. -/
import Derived.Test.YtidooepalfegdaaRows
import Derived.Test.YtidooepalfegdaaDqM
namespace Go.Proofs.Ytidooepalfegdaa
open Go.RowKit Bosun
set_option maxRecDepth 100000
/-- The cells of a bosun/bosunlaw17.Act. -/
def ActRow (r : List Value) : Prop := ∃ (who : Int) (p : Bool) (x : Nat), 0 ≤ who ∧ who ≤ 255 ∧ x < 18446744073709551616 ∧ r = [.int .u8 who, .bool p, .int .u64 x]
theorem ActRow_of {H : Type} {enc : TypeId × Value → H} {W : World} (fuel : Nat) (cs : List Value) (y : DataW H × List MemPlace) (h : DataW.trod enc Try.prog W 0 (fun _ => true) true fuel 35 cs = some y) : ActRow cs ∧ cs.length = 3 := by
  obtain ⟨ys, m, _, _, hl, hl2, hf⟩ := Go.DataW.trod_struct Try.underlying35 h
  have hc_uint8 : Try.prog.cellsOf 5 = 1 := by kernel_rfl
  have hc_bool : Try.prog.cellsOf 4 = 1 := by kernel_rfl
  have hc_uint64 : Try.prog.cellsOf 22 = 1 := by kernel_rfl
  have hcl : cs.length = 3 := by rw [hl]; kernel_rfl
  refine ⟨?_, hcl⟩
  clear h hl
  match cs, hcl with
  | [c0, c1, c2], _ =>
    match ys, hl2 with
    | [y0, y1, y2], _ =>
      have h0 := hf 0 _ rfl
      have h1 := hf 1 _ rfl
      have h2 := hf 2 _ rfl
      clear hf
      simp [hc_uint8, hc_bool, hc_uint64] at h0 h1 h2
      obtain ⟨z0, e0, _, s0⟩ := Go.DataW.trod_int Try.underlying5 h0
      have b0 := bounds_u8 s0
      obtain rfl : c0 = .int .u8 z0 := by simpa using e0
      obtain ⟨m1, e1, _⟩ := Go.DataW.trod_bool Try.underlying4 h1
      obtain rfl : c1 = .bool m1 := by simpa using e1
      obtain ⟨z2, e2, _, s2⟩ := Go.DataW.trod_int Try.underlying22 h2
      obtain ⟨m2, rfl, b2⟩ := nat_u64 s2
      obtain rfl : c2 = .int .u64 (m2 : Nat) := by simpa using e2
      exact ⟨z0, m1, m2, b0.1, b0.2, b2, rfl⟩
theorem infoOp : (Try.prog.info? 36).map (fun i => (i.zero, i.size, i.bytes)) = some (some (.pointer none), 1, 8) := by kernel_rfl
theorem sizeAct : (Try.prog.info? 35).map (·.size) = some 3 := by kernel_rfl
theorem clamp_hold (c : Int) : clampN ((holdN c : Nat) : Int) = holdN c := by
  have := (holdN_pow2 c).le
  unfold clampN; omega
/-- The start: top and bottom are the same number. -/
theorem DInv.start {cap first : Nat} (hc : Pow2 cap) (hf : first < 18446744073709551616) :
    St ((first + 18446744073709551615) % 18446744073709551616) cap (setA (setA (List.replicate 260 0) (0 : Nat) first) (1 : Nat) first) (fun _ => none) [] 1 false := by
  have hn : num ((first + 18446744073709551615) % 18446744073709551616) 1 = first := by unfold num; omega
  refine ⟨1, 1, 1, 1, ⟨hc, by rw [setA_length, setA_length, List.length_replicate], ((Small.zeros 260).setA _ hf).setA _ hf, by omega, by omega, by omega, by omega, by omega, by omega, ?_, ?_, ?_, fun h => absurd rfl h, (fun o h => by cases h), (fun k _ o h => by cases h)⟩, (listOf_nil _ _ _ _).symm⟩
  · rw [getA_setA_other (by omega), getA_setA_same (by rw [List.length_replicate]; omega), hn]
  · rw [getA_setA_same (by rw [setA_length, List.length_replicate]; omega)]; simp only [Bool.false_eq_true, if_false]; exact hn.symm
  · exact ⟨(fun h => by cases h), (fun ⟨o, h, _⟩ => by cases h)⟩
set_option maxRecDepth 100000 in
set_option maxHeartbeats 16000000 in
theorem dequeShelf_walk (w : World) (cp : Int) (h0 : -9223372036854775808 ≤ cp) (h1 : cp ≤ 9223372036854775807) (first : Nat) (hf : first < 18446744073709551616) (v : Value) (rows : List (List Value)) (hr : ∀ r ∈ rows, ActRow r) (hv : ReadsS w v 3 rows) :
    Calls Try.prog 3 #[.int .i64 cp, .int .u64 (first : Nat), v] w fun e w' => e = .returned (.bool true) ∧ Chg [] w w' := by
  obtain ⟨ao, cpp, rfl, hm, hcell⟩ := hv
  unfold maxLen at hm
  have HCELL := Lib.hid hcell
  have HR := Lib.hid hr
  have hp2 := holdN_pow2 cp
  obtain ⟨cap, hcap⟩ : ∃ cap, cap = holdN cp := ⟨_, rfl⟩
  have HCH := Lib.hid (clamp_hold cp)
  rw [← hcap] at hp2 HCH
  have hle := hp2.le
  have HCAP := Lib.hid hcap
  have HP2 := Lib.hid hp2
  have HSTART := Lib.hid (DInv.start hp2 hf)
  have HAT := Lib.hid (fun w => at_any 0 cp h0 h1 w)
  rw [← hcap] at HAT
  clear hcell hr hcap hp2
  go_enter Try.func3, Try.ntmps3
  go_wp2_with fail
  refine (new_any 260 260 rfl _).mono ?_
  rintro e w1 ⟨bm, bw, rfl, M1, C1, g1, g2⟩
  have HS1 := Lib.hid (store_any bm bw _ _ w1 M1 0 first hf)
  go_wp2_with fail
  refine HS1.out.mono ?_
  rintro e w2 ⟨rfl, M2, C2⟩
  have HS2 := Lib.hid (store_any bm bw _ _ w2 M2 1 first hf)
  go_wp2_with fail
  refine HS2.out.mono ?_
  rintro e w3 ⟨rfl, M3, C3⟩
  clear HS1 HS2 M1 M2
  go_wp2_with fail
  refine (HAT.out _).mono ?_
  rintro e w4 ⟨rfl, C4⟩
  have z4 := C4.size
  have M4 := M3.keep C4
  have C14 := (((C1.then C2 (fun g hg => .inr (by simp at hg; omega))).then C3 (fun g hg => .inr (by simp at hg; omega))).then C4 (by simp))
  have zz := C14.size
  clear C1 C2 C3 M3 z4 C4
  go_wp2_with fail
  obtain ⟨w5, hw5⟩ : ∃ w5, w5 = w4.alloc (.cells #[.int .i64 0, .int .i64 (cap : Nat)] 28) := ⟨_, rfl⟩
  have D5 : Blk w5 w4.heap.size #[.int .i64 0, .int .i64 (cap : Nat)] 28 := by rw [hw5]; exact Blk.new _ _ _
  have C5 : Chg [] w4 w5 := by rw [hw5]; exact (Chg.refl _ _).alloc _
  rw [← hw5]
  have M5 := M4.keep C5
  have C15 := C14.then C5 (by simp)
  have ldb := D5.lt
  clear hw5 C5 M4 C14
  refine (cap_any 0 cap _).mono ?_
  rintro e w6 ⟨rfl, C6⟩
  go_wp2_with fail
  refine (shnew_any cap hle.1 hle.2 _).mono ?_
  rintro e w7 ⟨sb, rfl, S7, C7, g7⟩
  have M7 := (M5.keep C6).keep C7
  have D7 := (D5.chg C6 (by simp)).chg C7 (by simp)
  have C17 := (C15.then C6 (by simp)).then C7 (by simp)
  have z6 := C6.size
  clear M5 D5 C15 C6 C7
  go_wp2_with (first
    | (refine wpList_make1 rfl (.const (.int .i64 6)) (.const (.int .i64 6)) 33 rfl 36 (.pointer none) 8 Try.underlying33 infoOp rfl .i64 .i64 6 rfl rfl (by omega) (by omega) ?_; intro w8 A8 C8 z8)
    | (refine wpList_new_row rfl 35 rfl #[.int .u8 0, .bool false, .int .u64 0] (by kernel_rfl) ?_; intro w9 B9 C9 z9))
  obtain ⟨W0, u0, M70, ST0⟩ : ∃ W0 u0, IsMem w7 bm bw W0 u0 ∧ St ((first + 18446744073709551615) % 18446744073709551616) cap W0 (fun _ => none) [] 1 false := ⟨_, _, M7, HSTART.out⟩
  have M9 := (M70.keep C8).keep C9
  have l1 := M70.head.lt
  have l2 := M70.row.lt
  obtain ⟨vv, SB7, _⟩ := S7 0
  have l3 := SB7.lt
  have zC17 := C17.size
  have B9' : Blk w9 (w7.heap.size + 1) #[.int .u8 0, .bool false, .int .u64 (0 : Nat)] 35 := by rw [← z8]; exact B9
  have P9 : SM w w9 w9.heap.size bm bw w4.heap.size (w7.heap.size + 1) w7.heap.size sb cap ((first + 18446744073709551615) % 18446744073709551616) (fun _ => none) (fun _ => 0) W0 u0 [] 1 false false 0 :=
    ⟨M9, (D7.chg C8 (by simp)).chg C9 (by simp), ⟨_, B9'⟩, by rw [← ptrA_none (fun _ => 0)]; exact A8.chg C9 (by simp), (fun k _ o h => by cases h), (fun j k _ _ _ h => absurd rfl h), ((S7 w9.heap.size).keep C8).keep C9, ST0, (fun o h => by cases h),
      ⟨by omega, by omega, by have := D7.lt; omega, by omega, by omega, by omega⟩, ⟨g1, g2, zz, by omega, by omega, by omega, by omega⟩, Nat.le_refl _, (C17.then C8 (by simp)).then C9 (by simp)⟩
  obtain ⟨f, hff⟩ : ∃ f, f = (first + 18446744073709551615) % 18446744073709551616 := ⟨_, rfl⟩
  obtain ⟨lim, hlim⟩ : ∃ lim, lim = w9.heap.size := ⟨_, rfl⟩
  rw [← hff, ← hlim] at P9
  clear hff hlim M7 D7 C17 S7 g7 z6 A8 C8 B9 C9 z9 ldb zz g1 g2 M70 ST0 M9 l1 l2 SB7 l3 zC17 B9'
  go_loopw [12] (fun x12 wr => ∃ (i : Nat) (A : Nat → Option DOp) (gb : Nat → Nat) (W : List Nat) (u : Nat) (L : List Nat) (c mp : Bool) (mx : Nat), i ≤ rows.length ∧ i ≤ 150 ∧ x12 = .int .i64 i ∧ SM w wr lim bm bw w4.heap.size (w7.heap.size + 1) w7.heap.size sb cap f A gb W u L (i + 1) c mp mx) (fun x12 _ => 150 - (intOf x12).toNat)
  case atStart => exact ⟨0, _, _, _, _, _, _, _, _, by omega, by omega, rfl, P9⟩
  case round =>
    rename_i wr _
    obtain ⟨i, A, gb, W, u, L, c, mp, mx, hi, hi2, rfl, P⟩ := hrel
    clear P9
    by_cases hkl : i < rows.length ∧ i < 150
    · obtain ⟨hkl, hi150⟩ := hkl
      obtain ⟨g, off, rfl, hc⟩ := HCELL.out i _ (List.getElem?_eq_getElem hkl)
      obtain ⟨who, p, x, a1, a2, a3, hrow⟩ := HR.out _ (List.getElem_mem hkl)
      rw [hrow] at hc
      have hfr : ∀ (j : Nat) y, ([.int .u8 who, .bool p, .int .u64 x] : List Value)[j]? = some y → ∀ w5, Chg [] w w5 → w5.cell? ⟨g, off + i * 3 + j, none⟩ = some y := fun j y hy w5 h5 => by
        rw [World.cell?_of_block (w := w) (h5.block g (World.block_lt_of_cell? w _ (hc j _ hy)) (by simp)), hc j _ hy]
      have f0 : wr.cell? ⟨g, off + i * 3, none⟩ = some (.int .u8 who) := hfr 0 _ rfl _ P.chg
      have f1 : wr.cell? ⟨g, off + i * 3 + 1, none⟩ = some (.bool p) := hfr 1 _ rfl _ P.chg
      have f2 : wr.cell? ⟨g, off + i * 3 + 2, none⟩ = some (.int .u64 (x : Nat)) := hfr 2 _ rfl _ P.chg
      have HFR := Lib.hid hfr
      clear hfr hc hrow
      obtain ⟨k, ek, hk⟩ : ∃ k : Nat, who % 6 = (k : Int) ∧ k < 6 := ⟨(who % 6).toNat, by omega, by omega⟩
      have HP := Lib.hid P
      have ca : wr.cell? ⟨w7.heap.size, k, none⟩ = some (.pointer (if (A k).isSome then some ⟨gb k, 0, none⟩ else none)) := by rw [P.arr.cell, ptrA_get _ _ hk]
      clear P
      by_cases k0 : k = 0
      · subst k0
        have ek0 : who % 6 = 0 := by simpa using ek
        clear ek hk
        cases hA : A 0 with
        | none =>
          rw [hA] at ca
          simp only [Option.isSome_none, Bool.false_eq_true, if_false] at ca
          have HAK := Lib.hid (show A 0 = none ∨ ∃ o, A 0 = some o ∧ o.done = true from .inl hA)
          have HAV := Lib.hid hA
          have HBG := Lib.hid (show ∀ w, Calls Try.prog 14 #[.agg #[.int .i64 0, .int .i64 (cap : Nat)], .agg #[.int .i64 0, .int .i64 0], .int .i64 0, .agg #[.int .u8 who, .bool p, .int .u64 (x : Nat)]] w fun e w' => Began w w' (newD 0 cap (kindOf 0 p) (wordOf 0 p x)) (newD 0 0 (kindOf 0 p) (wordOf 0 p x)) e from fun w => begin_any 0 cap 0 who p x w)
          have HOK := Lib.hid (show OkOp (newD 0 cap (kindOf 0 p) (wordOf 0 p x)) from OkOp.new (by omega) (by omega) HP2.out (by cases p <;> decide) (by cases p; exact (by decide : (0 : Nat) < 18446744073709551616); exact a3))
          have HE3 := Lib.hid (show (if (0 : Nat) = 0 then ((newD 0 cap (kindOf 0 p) (wordOf 0 p x)).kind = 0 ∧ p = true ∧ (newD 0 cap (kindOf 0 p) (wordOf 0 p x)).x = x) ∨ ((newD 0 cap (kindOf 0 p) (wordOf 0 p x)).kind = 1 ∧ p = false) else (newD 0 cap (kindOf 0 p) (wordOf 0 p x)).kind = 2) from by rw [if_pos rfl]; cases p; exact .inr ⟨rfl, rfl⟩; exact .inl ⟨rfl, rfl, rfl⟩)
          clear hA
          have HMI := Lib.hid HP.out.mine.choose_spec
          go_wp2_with (first
            | (refine wpList_put_row rfl 35 (.tmp 11) (.tmp 62) rfl (w7.heap.size + 1) #[.int .u8 who, .bool p, .int .u64 (x : Nat)] rfl rfl 35 _ HMI.out sizeAct rfl (by simp [Value.oneCell']) ?_; intro w10 B10 C10; have P10 := HP.out.mined HAK.out B10 C10; have HP10 := Lib.hid P10; have e10 := P10.d.cell 0; have e11 := P10.d.cell 1; have r0 := HFR.out 0 _ rfl _ P10.chg; have r1 := HFR.out 1 _ rfl _ P10.chg; have r2 := HFR.out 2 _ rfl _ P10.chg; have ca10 : w10.cell? ⟨w7.heap.size, 0, none⟩ = some (.pointer none) := (by rw [P10.arr.cell, ptrA_get _ _ (by omega), HAV.out]; rfl); have fa10 := P10.arr.frozen 0; clear P10 B10 C10))
          go_region_held3 (fun w' => w'.cell? ⟨w4.heap.size, 0, none⟩ = some (.int .i64 0) ∧ w'.cell? ⟨w4.heap.size, 1, none⟩ = some (.int .i64 (cap : Nat)) ∧ w'.cell? ⟨g, off + i * 3, none⟩ = some (.int .u8 who) ∧ w'.cell? ⟨g, off + i * 3 + 1, none⟩ = some (.bool p) ∧ w'.cell? ⟨g, off + i * 3 + 2, none⟩ = some (.int .u64 (x : Nat))) (first | assumption | exact ⟨e10, e11, r0, r1, r2⟩)
            ((go_at_call 14; refine (HBG.out _).mono ?_; rintro e w12 ⟨gn, rn, rfl, H12, R12, C12, s12, t12, n12⟩; have Q12 := HP10.out.keep C12.undrew; have P13 := SM.new HP10.out (k := 0) (by omega) HAK.out C12.undrew s12 H12 (HOK.out) rfl rfl HE3.out rfl rfl rfl; have c12a := Q12.arr.frozen 0; have c12c : w12.cell? ⟨w7.heap.size, 0, none⟩ = some (.pointer none) := (by rw [Q12.arr.cell, ptrA_get _ _ (by omega), HAV.out]; rfl); have k12 : w12.cell? ⟨w4.heap.size, 0, none⟩ = some (.int .i64 0) ∧ w12.cell? ⟨w4.heap.size, 1, none⟩ = some (.int .i64 (cap : Nat)) ∧ w12.cell? ⟨g, off + i * 3, none⟩ = some (.int .u8 who) ∧ w12.cell? ⟨g, off + i * 3 + 1, none⟩ = some (.bool p) ∧ w12.cell? ⟨g, off + i * 3 + 2, none⟩ = some (.int .u64 (x : Nat)) := ⟨Q12.d.cell 0, Q12.d.cell 1, HFR.out 0 _ rfl _ Q12.chg, HFR.out 1 _ rfl _ Q12.chg, HFR.out 2 _ rfl _ Q12.chg⟩; have HP13 := Lib.hid P13; have k13 := And.intro (P13.d.cell 0) (And.intro (P13.d.cell 1) (And.intro (HFR.out 0 _ rfl _ P13.chg) (And.intro (HFR.out 1 _ rfl _ P13.chg) (HFR.out 2 _ rfl _ P13.chg)))); clear P13))
          go_wp2_with fail
          go_roundw
          case rel => exact ⟨i + 1, _, _, W, u, L, c, p, x, by omega, by omega, by go_num, HP13.out.more⟩
          case measure => simp [intOf] <;> omega
        | some o =>
          rw [hA] at ca
          simp only [Option.isSome_some, if_true] at ca
          cases hd : o.done with
          | true =>
            have HAK := Lib.hid (show A 0 = none ∨ ∃ o, A 0 = some o ∧ o.done = true from .inr ⟨o, hA, hd⟩)
            have HAV := Lib.hid hA
            have HDN := Lib.hid (done_any (gb 0) o wr (HP.out.ops 0 (by omega) o hA).1)
            rw [hd] at HDN
            have HBG := Lib.hid (show ∀ w, Calls Try.prog 14 #[.agg #[.int .i64 0, .int .i64 (cap : Nat)], .agg #[.int .i64 0, .int .i64 0], .int .i64 0, .agg #[.int .u8 who, .bool p, .int .u64 (x : Nat)]] w fun e w' => Began w w' (newD 0 cap (kindOf 0 p) (wordOf 0 p x)) (newD 0 0 (kindOf 0 p) (wordOf 0 p x)) e from fun w => begin_any 0 cap 0 who p x w)
            have HOK := Lib.hid (show OkOp (newD 0 cap (kindOf 0 p) (wordOf 0 p x)) from OkOp.new (by omega) (by omega) HP2.out (by cases p <;> decide) (by cases p; exact (by decide : (0 : Nat) < 18446744073709551616); exact a3))
            have HE3 := Lib.hid (show (if (0 : Nat) = 0 then ((newD 0 cap (kindOf 0 p) (wordOf 0 p x)).kind = 0 ∧ p = true ∧ (newD 0 cap (kindOf 0 p) (wordOf 0 p x)).x = x) ∨ ((newD 0 cap (kindOf 0 p) (wordOf 0 p x)).kind = 1 ∧ p = false) else (newD 0 cap (kindOf 0 p) (wordOf 0 p x)).kind = 2) from by rw [if_pos rfl]; cases p; exact .inr ⟨rfl, rfl⟩; exact .inl ⟨rfl, rfl, rfl⟩)
            clear hA hd
            have HMI := Lib.hid HP.out.mine.choose_spec
            go_wp2_with (first
              | (go_at_call 13; refine HDN.out.mono ?_; rintro e y ⟨rfl, rfl⟩)
              | (refine wpList_put_row rfl 35 (.tmp 11) (.tmp 62) rfl (w7.heap.size + 1) #[.int .u8 who, .bool p, .int .u64 (x : Nat)] rfl rfl 35 _ HMI.out sizeAct rfl (by simp [Value.oneCell']) ?_; intro w10 B10 C10; have P10 := HP.out.mined HAK.out B10 C10; have HP10 := Lib.hid P10; have e10 := P10.d.cell 0; have e11 := P10.d.cell 1; have r0 := HFR.out 0 _ rfl _ P10.chg; have r1 := HFR.out 1 _ rfl _ P10.chg; have r2 := HFR.out 2 _ rfl _ P10.chg; have ca10 : w10.cell? ⟨w7.heap.size, 0, none⟩ = some (.pointer (some ⟨gb 0, 0, none⟩)) := (by rw [P10.arr.cell, ptrA_get _ _ (by omega), HAV.out]; rfl); have fa10 := P10.arr.frozen 0; clear P10 B10 C10))
            go_region_held3 (fun w' => w'.cell? ⟨w4.heap.size, 0, none⟩ = some (.int .i64 0) ∧ w'.cell? ⟨w4.heap.size, 1, none⟩ = some (.int .i64 (cap : Nat)) ∧ w'.cell? ⟨g, off + i * 3, none⟩ = some (.int .u8 who) ∧ w'.cell? ⟨g, off + i * 3 + 1, none⟩ = some (.bool p) ∧ w'.cell? ⟨g, off + i * 3 + 2, none⟩ = some (.int .u64 (x : Nat))) (first | assumption | exact ⟨e10, e11, r0, r1, r2⟩)
              ((go_at_call 14; refine (HBG.out _).mono ?_; rintro e w12 ⟨gn, rn, rfl, H12, R12, C12, s12, t12, n12⟩; have Q12 := HP10.out.keep C12.undrew; have P13 := SM.new HP10.out (k := 0) (by omega) HAK.out C12.undrew s12 H12 (HOK.out) rfl rfl HE3.out rfl rfl rfl; have c12a := Q12.arr.frozen 0; have c12c : w12.cell? ⟨w7.heap.size, 0, none⟩ = some (.pointer (some ⟨gb 0, 0, none⟩)) := (by rw [Q12.arr.cell, ptrA_get _ _ (by omega), HAV.out]; rfl); have k12 : w12.cell? ⟨w4.heap.size, 0, none⟩ = some (.int .i64 0) ∧ w12.cell? ⟨w4.heap.size, 1, none⟩ = some (.int .i64 (cap : Nat)) ∧ w12.cell? ⟨g, off + i * 3, none⟩ = some (.int .u8 who) ∧ w12.cell? ⟨g, off + i * 3 + 1, none⟩ = some (.bool p) ∧ w12.cell? ⟨g, off + i * 3 + 2, none⟩ = some (.int .u64 (x : Nat)) := ⟨Q12.d.cell 0, Q12.d.cell 1, HFR.out 0 _ rfl _ Q12.chg, HFR.out 1 _ rfl _ Q12.chg, HFR.out 2 _ rfl _ Q12.chg⟩; have HP13 := Lib.hid P13; have k13 := And.intro (P13.d.cell 0) (And.intro (P13.d.cell 1) (And.intro (HFR.out 0 _ rfl _ P13.chg) (And.intro (HFR.out 1 _ rfl _ P13.chg) (HFR.out 2 _ rfl _ P13.chg)))); clear P13))
            go_wp2_with fail
            go_roundw
            case rel => exact ⟨i + 1, _, _, W, u, L, c, p, x, by omega, by omega, by go_num, HP13.out.more⟩
            case measure => simp [intOf] <;> omega
          | false =>
            have HAV := Lib.hid hA
            obtain ⟨iop, ok, lgb⟩ := HP.out.ops 0 (by omega) o hA
            have HDN := Lib.hid (done_any (gb 0) o wr iop)
            rw [hd] at HDN
            have HST0 := Lib.hid (steps_any (gb 0) o wr iop)
            have low := HP.out.low
            have HT := Lib.hid (step_any (gb 0) o wr iop ok bm bw W u HP.out.mem (by omega) (by omega))
            have hss := stepD_steps ok hd W u
            obtain ⟨L', c', hst, hcall⟩ := HP.out.after (by omega) (k := 0) (by omega) hA hd
            have HSTN := Lib.hid hst
            have HCALL := Lib.hid (show ∀ w, IsOp w (gb 0) (stepD o W u).1 → IsSh w sb lim (shOf cap L c) → lim ≤ w.heap.size → Calls Try.prog 17 #[.pointer (some ⟨sb, 0, none⟩), .pointer (some ⟨gb 0, 0, none⟩), .int .i64 0, .bool mp, .int .u64 (mx : Nat)] w fun e w' => e = .returned (.bool true) ∧ IsSh w' sb lim (shOf cap L' c') ∧ Chg [sb] w w' from hcall)
            have HDD := Lib.hid hd
            have hos := ok.s
            have HST := Lib.hid (fun w h => steps_any (gb 0) (stepD o W u).1 w h)
            rw [hss] at HST
            obtain ⟨n, hn⟩ : ∃ n, n = o.steps := ⟨_, rfl⟩
            rw [← hn] at HST HST0 hos
            clear hn hss hst hcall hA hd iop ok
            go_wp2_with (first
              | (go_at_call 13; refine HDN.out.mono ?_; rintro e y ⟨rfl, rfl⟩)
              | (go_at_call 15; refine HST0.out.mono ?_; rintro e y ⟨rfl, rfl⟩)
              | (go_at_call 16; refine HT.out.mono ?_; rintro e w11 ⟨rfl, H11, M11, C11⟩; have n11 : w7.heap.size ∉ [gb 0, bm, bw] := (by simp; exact ⟨by omega, Ne.symm (blk_ne HP.out.mem.head HP.out.arr (by decide)), Ne.symm (blk_ne HP.out.mem.row HP.out.arr (by decide))⟩); have A11 := HP.out.arr.chg C11 n11; have m11 : w7.heap.size + 1 ∉ [gb 0, bm, bw] := (by obtain ⟨who', hm'⟩ := HP.out.mine; simp; exact ⟨by omega, Ne.symm (blk_ne HP.out.mem.head hm' (by decide)), Ne.symm (blk_ne HP.out.mem.row hm' (by decide))⟩); have MI11 := HP.out.mine.choose_spec.chg C11 m11; have ca11 : w11.cell? ⟨w7.heap.size, 0, none⟩ = some (.pointer (some ⟨gb 0, 0, none⟩)) := (by rw [A11.cell, ptrA_get _ _ (by omega), HAV.out]; rfl); have mi1 : w11.cell? ⟨w7.heap.size + 1, 1, none⟩ = some (.bool mp) := MI11.cell 1; have mi2 : w11.cell? ⟨w7.heap.size + 1, 2, none⟩ = some (.int .u64 (mx : Nat)) := MI11.cell 2; have S11 := HP.out.sh.chg C11 (by have := HP.out.sh; simp; exact ⟨by omega, this.ne HP.out.mem.head (by decide), this.ne HP.out.mem.row (by decide)⟩) (by intro g' hg'; simp at hg'; rcases hg' with rfl | rfl | rfl; exact .inr ⟨_, _, (HP.out.ops 0 (by omega) o HAV.out).1, by decide⟩; exact .inl (by omega); exact .inl (by omega)); have z11 := C11.size; have HX := Lib.hid (And.intro H11 (And.intro M11 (And.intro C11 S11))); clear A11 MI11 H11 M11 C11 S11 n11 m11))
            have ew : IntKind.i64.wrap ((n : Int) + 1) = ((n + 1 : Nat) : Int) := by rw [IntWalk.i64_in _ (by omega)]; omega
            have en : (((n + 1 : Nat) : Int) != ((n + 1 : Nat) : Int)) = false := by simp
            have hls := HP.out.size
            go_region_held3 (fun w' => w'.cell? ⟨w7.heap.size, 0, none⟩ = some (.pointer (some ⟨gb 0, 0, none⟩)) ∧ w'.cell? ⟨w7.heap.size + 1, 1, none⟩ = some (.bool mp) ∧ w'.cell? ⟨w7.heap.size + 1, 2, none⟩ = some (.int .u64 (mx : Nat))) (first | assumption | exact ⟨ca11, mi1, mi2⟩)
              (first
                | (go_at_call 15; refine (HST.out _ (HX.out.1.chg (Chg.refl [] _).drew (by simp))).mono ?_; rintro e y ⟨rfl, rfl⟩)
                | (go_at_call 17; refine (HCALL.out _ (HX.out.1.chg (Chg.refl [] _).drew (by simp)) (HX.out.2.2.2.keep (Chg.refl [] _).drew) (by show lim ≤ w11.heap.size; omega)).mono ?_; rintro e w13 ⟨rfl, S13, C13⟩; have P13 := SM.next (by omega) HP.out (k := 0) (by omega) HAV.out HDD.out HX.out.1 HX.out.2.1 HX.out.2.2.1 (Chg.refl [] w11).drew HSTN.out S13 C13; have ca13 : w13.cell? ⟨w7.heap.size, 0, none⟩ = some (.pointer (some ⟨gb 0, 0, none⟩)) := (by rw [P13.arr.cell, ptrA_get _ _ (by omega), updA_same]; rfl); have HP13 := Lib.hid P13; have HSB := Lib.hid (And.intro (HP.out.sh.ne HP.out.arr (by decide)) (HP.out.sh.ne HP.out.mine.choose_spec (by decide))); have k13 : w13.cell? ⟨w7.heap.size + 1, 1, none⟩ = some (.bool mp) ∧ w13.cell? ⟨w7.heap.size + 1, 2, none⟩ = some (.int .u64 (mx : Nat)) := ⟨P13.mine.choose_spec.cell 1, P13.mine.choose_spec.cell 2⟩; have k14 := And.intro ca13 k13; clear P13))
            clear ew en
            go_wp2_with fail
            go_roundw
            case rel => exact ⟨i + 1, _, _, _, _, _, _, _, _, by omega, by omega, by go_num, HP13.out⟩
            case measure => simp [intOf] <;> omega
      · cases hA : A k with
        | none =>
          rw [hA] at ca
          simp only [Option.isSome_none, Bool.false_eq_true, if_false] at ca
          have HAK := Lib.hid (show A k = none ∨ ∃ o, A k = some o ∧ o.done = true from .inl hA)
          have HAV := Lib.hid hA
          have HBG := Lib.hid (fun w => begin_any 0 cap k who p x w)
          have hkd : kindOf k p = 2 := if_neg k0
          have HOK := Lib.hid (show OkOp (newD 0 cap (kindOf k p) (wordOf k p x)) from OkOp.new (by omega) (by omega) HP2.out (by omega) (by unfold wordOf; split; exact a3; omega))
          have HE3 := Lib.hid (show (if k = 0 then ((newD 0 cap (kindOf k p) (wordOf k p x)).kind = 0 ∧ mp = true ∧ (newD 0 cap (kindOf k p) (wordOf k p x)).x = mx) ∨ ((newD 0 cap (kindOf k p) (wordOf k p x)).kind = 1 ∧ mp = false) else (newD 0 cap (kindOf k p) (wordOf k p x)).kind = 2) from by rw [if_neg k0]; exact hkd)
          have dk : ((k : Int) == 0) = false := by simp only [beq_eq_false_iff_ne, ne_eq]; omega
          clear hkd k0
          clear hA
          have e10 := HP.out.d.cell 0
          have e11 := HP.out.d.cell 1
          have fa10 := HP.out.arr.frozen k
          go_wp2_with fail
          have hk0 : (0 : Int) ≤ (k : Int) := by omega
          have hk6 : (k : Int) < 6 := by omega
          go_region_held3 (fun w' => w'.cell? ⟨w4.heap.size, 0, none⟩ = some (.int .i64 0) ∧ w'.cell? ⟨w4.heap.size, 1, none⟩ = some (.int .i64 (cap : Nat)) ∧ w'.cell? ⟨g, off + i * 3, none⟩ = some (.int .u8 who) ∧ w'.cell? ⟨g, off + i * 3 + 1, none⟩ = some (.bool p) ∧ w'.cell? ⟨g, off + i * 3 + 2, none⟩ = some (.int .u64 (x : Nat))) (first | assumption | exact ⟨e10, e11, f0, f1, f2⟩)
            ((go_at_call 14; refine (HBG.out _).mono ?_; rintro e w12 ⟨gn, rn, rfl, H12, R12, C12, s12, t12, n12⟩; have Q12 := HP.out.keep C12.undrew; have P13 := SM.new HP.out (k := k) hk HAK.out C12.undrew s12 H12 (HOK.out) rfl rfl HE3.out rfl rfl rfl; have c12a := Q12.arr.frozen k; have c12c : w12.cell? ⟨w7.heap.size, k, none⟩ = some (.pointer none) := (by rw [Q12.arr.cell, ptrA_get _ _ hk, HAV.out]; rfl); have k12 : w12.cell? ⟨w4.heap.size, 0, none⟩ = some (.int .i64 0) ∧ w12.cell? ⟨w4.heap.size, 1, none⟩ = some (.int .i64 (cap : Nat)) ∧ w12.cell? ⟨g, off + i * 3, none⟩ = some (.int .u8 who) ∧ w12.cell? ⟨g, off + i * 3 + 1, none⟩ = some (.bool p) ∧ w12.cell? ⟨g, off + i * 3 + 2, none⟩ = some (.int .u64 (x : Nat)) := ⟨Q12.d.cell 0, Q12.d.cell 1, HFR.out 0 _ rfl _ Q12.chg, HFR.out 1 _ rfl _ Q12.chg, HFR.out 2 _ rfl _ Q12.chg⟩; have HP13 := Lib.hid P13; have k13 := And.intro (P13.d.cell 0) (And.intro (P13.d.cell 1) (And.intro (HFR.out 0 _ rfl _ P13.chg) (And.intro (HFR.out 1 _ rfl _ P13.chg) (HFR.out 2 _ rfl _ P13.chg)))); clear P13))
          go_wp2_with fail
          go_roundw
          case rel => exact ⟨i + 1, _, _, W, u, L, c, mp, mx, by omega, by omega, by go_num, HP13.out.more⟩
          case measure => simp [intOf] <;> omega
        | some o =>
          rw [hA] at ca
          simp only [Option.isSome_some, if_true] at ca
          cases hd : o.done with
          | true =>
            have HAK := Lib.hid (show A k = none ∨ ∃ o, A k = some o ∧ o.done = true from .inr ⟨o, hA, hd⟩)
            have HAV := Lib.hid hA
            have HDN := Lib.hid (done_any (gb k) o wr (HP.out.ops k (by omega) o hA).1)
            rw [hd] at HDN
            have HBG := Lib.hid (fun w => begin_any 0 cap k who p x w)
            have hkd : kindOf k p = 2 := if_neg k0
            have HOK := Lib.hid (show OkOp (newD 0 cap (kindOf k p) (wordOf k p x)) from OkOp.new (by omega) (by omega) HP2.out (by omega) (by unfold wordOf; split; exact a3; omega))
            have HE3 := Lib.hid (show (if k = 0 then ((newD 0 cap (kindOf k p) (wordOf k p x)).kind = 0 ∧ mp = true ∧ (newD 0 cap (kindOf k p) (wordOf k p x)).x = mx) ∨ ((newD 0 cap (kindOf k p) (wordOf k p x)).kind = 1 ∧ mp = false) else (newD 0 cap (kindOf k p) (wordOf k p x)).kind = 2) from by rw [if_neg k0]; exact hkd)
            have dk : ((k : Int) == 0) = false := by simp only [beq_eq_false_iff_ne, ne_eq]; omega
            clear hkd k0
            clear hA hd
            have e10 := HP.out.d.cell 0
            have e11 := HP.out.d.cell 1
            have fa10 := HP.out.arr.frozen k
            go_wp2_with (first
              | (go_at_call 13; refine HDN.out.mono ?_; rintro e y ⟨rfl, rfl⟩))
            have hk0 : (0 : Int) ≤ (k : Int) := by omega
            have hk6 : (k : Int) < 6 := by omega
            go_region_held3 (fun w' => w'.cell? ⟨w4.heap.size, 0, none⟩ = some (.int .i64 0) ∧ w'.cell? ⟨w4.heap.size, 1, none⟩ = some (.int .i64 (cap : Nat)) ∧ w'.cell? ⟨g, off + i * 3, none⟩ = some (.int .u8 who) ∧ w'.cell? ⟨g, off + i * 3 + 1, none⟩ = some (.bool p) ∧ w'.cell? ⟨g, off + i * 3 + 2, none⟩ = some (.int .u64 (x : Nat))) (first | assumption | exact ⟨e10, e11, f0, f1, f2⟩)
              ((go_at_call 14; refine (HBG.out _).mono ?_; rintro e w12 ⟨gn, rn, rfl, H12, R12, C12, s12, t12, n12⟩; have Q12 := HP.out.keep C12.undrew; have P13 := SM.new HP.out (k := k) hk HAK.out C12.undrew s12 H12 (HOK.out) rfl rfl HE3.out rfl rfl rfl; have c12a := Q12.arr.frozen k; have c12c : w12.cell? ⟨w7.heap.size, k, none⟩ = some (.pointer (some ⟨gb k, 0, none⟩)) := (by rw [Q12.arr.cell, ptrA_get _ _ hk, HAV.out]; rfl); have k12 : w12.cell? ⟨w4.heap.size, 0, none⟩ = some (.int .i64 0) ∧ w12.cell? ⟨w4.heap.size, 1, none⟩ = some (.int .i64 (cap : Nat)) ∧ w12.cell? ⟨g, off + i * 3, none⟩ = some (.int .u8 who) ∧ w12.cell? ⟨g, off + i * 3 + 1, none⟩ = some (.bool p) ∧ w12.cell? ⟨g, off + i * 3 + 2, none⟩ = some (.int .u64 (x : Nat)) := ⟨Q12.d.cell 0, Q12.d.cell 1, HFR.out 0 _ rfl _ Q12.chg, HFR.out 1 _ rfl _ Q12.chg, HFR.out 2 _ rfl _ Q12.chg⟩; have HP13 := Lib.hid P13; have k13 := And.intro (P13.d.cell 0) (And.intro (P13.d.cell 1) (And.intro (HFR.out 0 _ rfl _ P13.chg) (And.intro (HFR.out 1 _ rfl _ P13.chg) (HFR.out 2 _ rfl _ P13.chg)))); clear P13))
            go_wp2_with fail
            go_roundw
            case rel => exact ⟨i + 1, _, _, W, u, L, c, mp, mx, by omega, by omega, by go_num, HP13.out.more⟩
            case measure => simp [intOf] <;> omega
          | false =>
            have HAV := Lib.hid hA
            obtain ⟨iop, ok, lgb⟩ := HP.out.ops k hk o hA
            have HDN := Lib.hid (done_any (gb k) o wr iop)
            rw [hd] at HDN
            have HST0 := Lib.hid (steps_any (gb k) o wr iop)
            have low := HP.out.low
            have HT := Lib.hid (step_any (gb k) o wr iop ok bm bw W u HP.out.mem (by omega) (by omega))
            have hss := stepD_steps ok hd W u
            obtain ⟨L', c', hst, hcall⟩ := HP.out.after (by omega) hk hA hd
            have HSTN := Lib.hid hst
            have HCALL := Lib.hid hcall
            have HDD := Lib.hid hd
            have hos := ok.s
            have HST := Lib.hid (fun w h => steps_any (gb k) (stepD o W u).1 w h)
            rw [hss] at HST
            obtain ⟨n, hn⟩ : ∃ n, n = o.steps := ⟨_, rfl⟩
            rw [← hn] at HST HST0 hos
            clear hn hss hst hcall hA hd iop ok
            go_wp2_with (first
              | (go_at_call 13; refine HDN.out.mono ?_; rintro e y ⟨rfl, rfl⟩)
              | (go_at_call 15; refine HST0.out.mono ?_; rintro e y ⟨rfl, rfl⟩)
              | (go_at_call 16; refine HT.out.mono ?_; rintro e w11 ⟨rfl, H11, M11, C11⟩; have n11 : w7.heap.size ∉ [gb k, bm, bw] := (by simp; exact ⟨by omega, Ne.symm (blk_ne HP.out.mem.head HP.out.arr (by decide)), Ne.symm (blk_ne HP.out.mem.row HP.out.arr (by decide))⟩); have A11 := HP.out.arr.chg C11 n11; have m11 : w7.heap.size + 1 ∉ [gb k, bm, bw] := (by obtain ⟨who', hm'⟩ := HP.out.mine; simp; exact ⟨by omega, Ne.symm (blk_ne HP.out.mem.head hm' (by decide)), Ne.symm (blk_ne HP.out.mem.row hm' (by decide))⟩); have MI11 := HP.out.mine.choose_spec.chg C11 m11; have ca11 : w11.cell? ⟨w7.heap.size, k, none⟩ = some (.pointer (some ⟨gb k, 0, none⟩)) := (by rw [A11.cell, ptrA_get _ _ hk, HAV.out]; rfl); have mi1 : w11.cell? ⟨w7.heap.size + 1, 1, none⟩ = some (.bool mp) := MI11.cell 1; have mi2 : w11.cell? ⟨w7.heap.size + 1, 2, none⟩ = some (.int .u64 (mx : Nat)) := MI11.cell 2; have S11 := HP.out.sh.chg C11 (by have := HP.out.sh; simp; exact ⟨by omega, this.ne HP.out.mem.head (by decide), this.ne HP.out.mem.row (by decide)⟩) (by intro g' hg'; simp at hg'; rcases hg' with rfl | rfl | rfl; exact .inr ⟨_, _, (HP.out.ops k hk o HAV.out).1, by decide⟩; exact .inl (by omega); exact .inl (by omega)); have z11 := C11.size; have HX := Lib.hid (And.intro H11 (And.intro M11 (And.intro C11 S11))); clear A11 MI11 H11 M11 C11 S11 n11 m11))
            have ew : IntKind.i64.wrap ((n : Int) + 1) = ((n + 1 : Nat) : Int) := by rw [IntWalk.i64_in _ (by omega)]; omega
            have en : (((n + 1 : Nat) : Int) != ((n + 1 : Nat) : Int)) = false := by simp
            have hls := HP.out.size
            have hk0 : (0 : Int) ≤ (k : Int) := by omega
            have hk6 : (k : Int) < 6 := by omega
            go_region_held3 (fun w' => w'.cell? ⟨w7.heap.size, k, none⟩ = some (.pointer (some ⟨gb k, 0, none⟩)) ∧ w'.cell? ⟨w7.heap.size + 1, 1, none⟩ = some (.bool mp) ∧ w'.cell? ⟨w7.heap.size + 1, 2, none⟩ = some (.int .u64 (mx : Nat))) (first | assumption | exact ⟨ca11, mi1, mi2⟩)
              (first
                | (go_at_call 15; refine (HST.out _ (HX.out.1.chg (Chg.refl [] _).drew (by simp))).mono ?_; rintro e y ⟨rfl, rfl⟩)
                | (go_at_call 17; refine (HCALL.out _ (HX.out.1.chg (Chg.refl [] _).drew (by simp)) (HX.out.2.2.2.keep (Chg.refl [] _).drew) (by show lim ≤ w11.heap.size; omega)).mono ?_; rintro e w13 ⟨rfl, S13, C13⟩; have P13 := SM.next (by omega) HP.out hk HAV.out HDD.out HX.out.1 HX.out.2.1 HX.out.2.2.1 (Chg.refl [] w11).drew HSTN.out S13 C13; have ca13 : w13.cell? ⟨w7.heap.size, k, none⟩ = some (.pointer (some ⟨gb k, 0, none⟩)) := (by rw [P13.arr.cell, ptrA_get _ _ hk, updA_same]; rfl); have HP13 := Lib.hid P13; have HSB := Lib.hid (And.intro (HP.out.sh.ne HP.out.arr (by decide)) (HP.out.sh.ne HP.out.mine.choose_spec (by decide))); have k13 : w13.cell? ⟨w7.heap.size + 1, 1, none⟩ = some (.bool mp) ∧ w13.cell? ⟨w7.heap.size + 1, 2, none⟩ = some (.int .u64 (mx : Nat)) := ⟨P13.mine.choose_spec.cell 1, P13.mine.choose_spec.cell 2⟩; have k14 := And.intro ca13 k13; clear P13))
            clear ew en
            go_wp2_with fail
            go_roundw
            case rel => exact ⟨i + 1, _, _, _, _, _, _, _, _, by omega, by omega, by go_num, HP13.out⟩
            case measure => simp [intOf] <;> omega
    · have HP := Lib.hid P
      clear P
      rcases (show (i < rows.length ∧ decide ((i : Int) < 150) = false) ∨ ¬ i < rows.length by by_cases h : i < rows.length; exact .inl ⟨h, by simp; omega⟩; exact .inr h) with ⟨hkl2, d150⟩ | hkl2
      all_goals
        clear hkl
        go_wp2_with (go_at_call 18; refine (awake_any _).mono ?_; rintro e w17 ⟨rfl, C17⟩)
        go_ret
        exact ⟨rfl, HP.out.chg.then C17 (by simp)⟩
namespace dequeShelf
open Go.ChangeShapes Go.WideShapes Go.ChangeAt
theorem own : ownKnob Try.prog.godebug = none := by kernel_rfl
theorem laidOut : laidOutB Try.prog = true := by kernel_rfl

set_option maxRecDepth 100000 in
theorem lifted (os : Os) (started : os.Started) (H : Type) (enc : TypeId × Value → H) :
    ReturnsInHanded {} Try.checked os 3 .any (Rows.dequeShelfSpec.pre6 enc Try.prog Try.f3 Rows.dequeShelfRow.domain false) (Rows.dequeShelfSpec.post enc Try.prog Try.f3 false true false false) := by
  refine returnsInHanded_of_change (C := Try.checked) own started (by kernel_rfl) Try.func3
    (ChangeSpec.witness6 (enc := enc) (C := Try.checked) false ⟨#[], #[.int .i64 0, .int .u64 0, .slice none 0 0], []⟩ 8 (by kernel_rfl) (by kernel_rfl) (by kernel_rfl) (by kernel_rfl)) ?_
  intro W base args ds gs before hval0 hW hcnd _
  have hval : ∀ (j : Nat) t v, Try.f3.params[j]? = some t → args[j]? = some v → Value.okWide Try.prog W .any base t v := hval0
  have hW' := hW
  obtain ⟨p, q, hA0, hV, rfl, hfz, hnd⟩ := hW
  have hA : DataW.TrodAll enc Try.prog W 0 (fun _ => true) true Try.f3.params.toList args.toList ds p := hA0
  rw [Try.params3] at hA hval
  obtain ⟨v0, vs0, d0, ds0, p0, q0, hargs, rfl, rfl, h0, r0⟩ := trodAll_cons hA
  obtain ⟨v1, vs1, d1, ds1, p1, q1, rfl, rfl, rfl, h1, r1⟩ := trodAll_cons r0
  obtain ⟨v2, vs2, d2, ds2, p2, q2, rfl, rfl, rfl, h2, r2⟩ := trodAll_cons r1
  obtain ⟨rfl, rfl, rfl⟩ := trodAll_nil r2
  obtain rfl : args = #[v0, v1, v2] := by cases args; simp_all
  obtain ⟨rfl, rfl⟩ := trodVars_none hV
  obtain ⟨a0, rfl, rfl, rfl, w0⟩ := open_int Try.underlying3 (hval 0 3 v0 rfl rfl) h0
  have b0 := bounds_i64 w0
  obtain ⟨a1, rfl, rfl, rfl, w1⟩ := open_int Try.underlying22 (hval 1 22 v1 rfl rfl) h1
  obtain ⟨n1, rfl, hn1⟩ := nat_u64 w1
  obtain ⟨a2, len2, cap2, rfl⟩ := okWide_slice Try.underlying23 (hval 2 23 v2 rfl rfl)
  have k2 := h2
  have lt2 : ∀ x ∈ p2, x.block < W.heap.size := by obtain ⟨m, hm⟩ := k2; exact DataW.trod_lt m _ _ _ hm
  obtain ⟨l2, hl2, hr2⟩ := open_elems (Q := ActRow) Try.underlying23 3 (by decide) (by kernel_rfl) (fun fuel cs y hy => ActRow_of fuel cs y hy) h2
  clear hA0 hval0
  simp only [List.append_nil] at hW'
  refine (dequeShelf_walk W a0 b0.1 b0.2 n1 hn1 _ l2 hl2 hr2).mono fun e W' ⟨he, hg⟩ => ?_
  subst he
  exact ⟨_, rfl, _, _, _, [], _, [], hW', trodAll_mk1 (shut_bool Try.underlying4 _), (trodAll_cons_mk (shut_int Try.underlying3 w0) (trodAll_cons_mk (shut_int Try.underlying22 w1) (trodAll_cons_mk (Below.trod laidOut (by kernel_rfl) (of_decide_eq_true (by kernel_rfl)) k2 hg.below lt2) trodAll_mk0))), rfl, hg.below.frame _, fun h => by cases h⟩

theorem over : Rows.dequeShelfRow.holds Try.pinned (OpenSpec.ofChange Rows.dequeShelfSpec) :=
  OpenClaim.holds_of_wide 3 Try.f3 rfl rfl rfl rfl rfl rfl rfl ⟨rfl, rfl, rfl, rfl, rfl⟩ rfl rfl rfl rfl rfl (by kernel_rfl) Try.func3 (by kernel_rfl)
    (of_decide_eq_true (by kernel_rfl)) (by unfold Func.isWrapper; first | (rw [if_pos (by decide +kernel)]; kernel_rfl) | (rw [if_neg (by decide +kernel)]; exact ⟨rfl, rfl⟩))
    (fun os started H enc _ => lifted os started H enc)
end dequeShelf

theorem dequeShelf_holds : Rows.DequeShelfSaid := dequeShelf.over
#print axioms dequeShelf_holds
end Go.Proofs.Ytidooepalfegdaa
