/- For all capacities and all acts the law DequeOnce returns true: each word that was pushed goes to one alone, what is stolen is stolen in the order in which it was pushed, and what did not go is still there. No conditions. -/
import Derived.Test.YtidooepalfegdaaRows
import Derived.Test.YtidooepalfegdaaDqN
import Derived.Test.YtidooepalfegdaaDq10
import Derived.Test.YtidooepalfegdaaDq8
import Derived.ProofKit
import Derived.OpenShut
namespace Go.Proofs.Ytidooepalfegdaa
open Go.RowKit Bosun
set_option maxRecDepth 100000
/-- The cells of a bosun/bosunlaw17.Act. -/
def ActRow (r : List Value) : Prop := ∃ (who : Int) (p : Bool) (x : Nat), 0 ≤ who ∧ who ≤ 255 ∧ x < 18446744073709551616 ∧ r = [.int .u8 who, .bool p, .int .u64 x]
theorem ActRow_of {H : Type} {enc : TypeId × Value → H} {W : World} (fuel : Nat) (cs : List Value) (y : DataW H × List MemPlace) (h : DataW.trod enc Try.prog W 0 (fun _ => true) true fuel 35 cs = some y) : ActRow cs ∧ cs.length = 3 := by
  obtain ⟨ys, m, _, _, hl, hl2, hf⟩ := Go.DataW.trod_struct Try.underlying35 h
  have hc_uint8 : Try.prog.cellsOf 5 = 1 := by kernel_rfl
  have hc_bool : Try.prog.cellsOf 4 = 1 := by kernel_rfl
  have hc_uint64 : Try.prog.cellsOf 22 = 1 := by kernel_rfl
  have hcl : cs.length = 3 := by rw [hl]; kernel_rfl
  refine ⟨?_, hcl⟩
  clear h hl
  match cs, hcl with
  | [c0, c1, c2], _ =>
    match ys, hl2 with
    | [y0, y1, y2], _ =>
      have h0 := hf 0 _ rfl
      have h1 := hf 1 _ rfl
      have h2 := hf 2 _ rfl
      clear hf
      simp [hc_uint8, hc_bool, hc_uint64] at h0 h1 h2
      obtain ⟨z0, e0, _, s0⟩ := Go.DataW.trod_int Try.underlying5 h0
      have b0 := bounds_u8 s0
      obtain rfl : c0 = .int .u8 z0 := by simpa using e0
      obtain ⟨m1, e1, _⟩ := Go.DataW.trod_bool Try.underlying4 h1
      obtain rfl : c1 = .bool m1 := by simpa using e1
      obtain ⟨z2, e2, _, s2⟩ := Go.DataW.trod_int Try.underlying22 h2
      obtain ⟨m2, rfl, b2⟩ := nat_u64 s2
      obtain rfl : c2 = .int .u64 (m2 : Nat) := by simpa using e2
      exact ⟨z0, m1, m2, b0.1, b0.2, b2, rfl⟩
theorem infoOp : (Try.prog.info? 36).map (fun i => (i.zero, i.size, i.bytes)) = some (some (.pointer none), 1, 8) := by kernel_rfl
theorem infoBool : (Try.prog.info? 4).map (fun i => (i.zero, i.size, i.bytes)) = some (some (.bool false), 1, 1) := by kernel_rfl
set_option maxHeartbeats 16000000 in
theorem dequeOnce_walk (w : World) (cp : Int) (h0 : -9223372036854775808 ≤ cp) (h1 : cp ≤ 9223372036854775807) (v : Value) (rows : List (List Value)) (hr : ∀ r ∈ rows, ActRow r) (hv : ReadsS w v 3 rows) :
    Calls Try.prog 5 #[.int .i64 cp, v] w fun e w' => e = .returned (.bool true) ∧ Chg [] w w' := by
  obtain ⟨ao, cpp, rfl, hm, hcell⟩ := hv
  unfold maxLen at hm
  have HCELL := Lib.hid hcell
  have HR := Lib.hid hr
  have hp2 := holdN_pow2 cp
  obtain ⟨cap, hcap⟩ : ∃ cap, cap = holdN cp := ⟨_, rfl⟩
  rw [← hcap] at hp2
  have hle := hp2.le
  have HP2 := Lib.hid hp2
  have HSTART := Lib.hid (St.zero hp2)
  have HAT := Lib.hid (fun w => at_any 0 cp h0 h1 w)
  rw [← hcap] at HAT
  clear hcell hr hcap hp2
  go_enter Try.func5, Try.ntmps5
  go_wp2_with fail
  refine (new_any 260 260 rfl _).mono ?_
  rintro e w1 ⟨bm, bw, rfl, M1, C1, g1, g2⟩
  go_wp2_with fail
  refine (HAT.out _).mono ?_
  rintro e w4 ⟨rfl, C4⟩
  have M4 := M1.keep C4
  have C14 := C1.then C4 (by simp)
  have zz := C14.size
  clear C1 M1 C4
  go_wp2_with (first
    | (refine wpList_make1 rfl (.const (.int .i64 6)) (.const (.int .i64 6)) 33 rfl 36 (.pointer none) 8 Try.underlying33 infoOp rfl .i64 .i64 6 rfl rfl (by omega) (by omega) ?_; intro w8 A8 C8 z8)
    | (refine wpList_make1 rfl (.const (.int .i64 200)) (.const (.int .i64 200)) 57 rfl 4 (.bool false) 1 Try.underlying57 infoBool rfl .i64 .i64 200 rfl rfl (by omega) (by omega) ?_; intro w9 B9 C9 z9))
  have D8 : Blk w8 w4.heap.size #[.int .i64 0, .int .i64 (cap : Nat)] 28 := (Blk.new w4 _ _).chg C8 (by simp)
  have M8 := (M4.keep ((Chg.refl _ _).alloc _)).keep C8
  have C18 := (C14.alloc _).then C8 (by simp)
  have A8' : Blk w8 (w4.heap.size + 1) (Array.replicate 6 (Value.pointer none)) 36 := by simpa using A8
  have z8' : w8.heap.size = w4.heap.size + 1 + 1 := by simpa using z8
  have l1 := M4.head.lt
  have l2 := M4.row.lt
  have P9 : SO w w9 w9.heap.size bm bw w4.heap.size (w4.heap.size + 1) (w4.heap.size + 1 + 1) cap 18446744073709551615 (fun _ => none) (fun _ => 0) (List.replicate 260 0) 0 [] 1 false false 0 0 (fun _ => false) :=
    ⟨M8.keep C9, D8.chg C9 (by simp), by rw [← ptrA_none (fun _ => 0)]; exact A8'.chg C9 (by simp), by rw [← goneR_none, ← z8']; exact B9, (fun k _ o h => by cases h), (fun j k _ _ _ h => absurd rfl h), HSTART.out, by simpa using Gh.zero, by omega, (fun o h => by cases h),
      ⟨by omega, by omega, by omega, by omega, by omega⟩, ⟨g1, g2, zz, by omega, by omega, by omega⟩, Nat.le_refl _, C18.then C9 (by simp)⟩
  obtain ⟨lim, hlim⟩ : ∃ lim, lim = w9.heap.size := ⟨_, rfl⟩
  obtain ⟨db, hdb⟩ : ∃ db, db = w4.heap.size := ⟨_, rfl⟩
  obtain ⟨ab, hab⟩ : ∃ ab, ab = w4.heap.size + 1 := ⟨_, rfl⟩
  obtain ⟨nb, hnb⟩ : ∃ nb, nb = w4.heap.size + 1 + 1 := ⟨_, rfl⟩
  obtain ⟨W0, hW0⟩ : ∃ W0, W0 = List.replicate 260 0 := ⟨_, rfl⟩
  rw [← hlim, ← hnb, ← hab, ← hdb, ← hW0] at P9
  rw [← hnb, ← hab, ← hdb]
  clear hlim hdb hab hnb hW0 M4 M8 D8 C18 C14 l1 l2 A8 A8' z8' C8 z8 B9 C9 z9 zz g1 g2
  go_loopw [9, 10, 11, 12] (fun x9 x10 x11 x12 wr => ∃ (i : Nat) (A : Nat → Option DOp) (gb : Nat → Nat) (W : List Nat) (u : Nat) (L : List Nat) (c mp : Bool) (p last : Nat) (gr : Nat → Bool), i ≤ rows.length ∧ i ≤ 150 ∧ x12 = .int .i64 i ∧ x9 = .int .u64 (p : Nat) ∧ x10 = .int .u64 (last : Nat) ∧ x11 = .bool mp ∧ SO w wr lim bm bw db ab nb cap 18446744073709551615 A gb W u L (i + 1) c mp p last gr) (fun _ _ _ x12 _ => 150 - (intOf x12).toNat)
  case atStart => exact ⟨0, _, _, _, _, _, _, _, _, _, _, by omega, by omega, rfl, rfl, rfl, rfl, P9⟩
  case round =>
    obtain ⟨i, A, gb, W, u, L, c, mp, p, last, gr, hi, hi2, rfl, rfl, rfl, rfl, P⟩ := hrel
    clear P9
    by_cases hkl : i < rows.length ∧ i < 150
    · obtain ⟨hkl, hi150⟩ := hkl
      obtain ⟨g, off, rfl, hc⟩ := HCELL.out i _ (List.getElem?_eq_getElem hkl)
      obtain ⟨who, pq, x, a1, a2, a3, hrow⟩ := HR.out _ (List.getElem_mem hkl)
      rw [hrow] at hc
      have hfr : ∀ (j : Nat) y, ([.int .u8 who, .bool pq, .int .u64 x] : List Value)[j]? = some y → ∀ w5, Chg [] w w5 → w5.cell? ⟨g, off + i * 3 + j, none⟩ = some y := fun j y hy w5 h5 => by
        rw [World.cell?_of_block (w := w) (h5.block g (World.block_lt_of_cell? w _ (hc j _ hy)) (by simp)), hc j _ hy]
      have f0 : wr.cell? ⟨g, off + i * 3, none⟩ = some (.int .u8 who) := hfr 0 _ rfl _ P.chg
      have f1 : wr.cell? ⟨g, off + i * 3 + 1, none⟩ = some (.bool pq) := hfr 1 _ rfl _ P.chg
      clear hfr hc hrow
      obtain ⟨k, ek, hk⟩ : ∃ k : Nat, who % 6 = (k : Int) ∧ k < 6 := ⟨(who % 6).toNat, by omega, by omega⟩
      have HP := Lib.hid P
      have pN := P.pN
      have lp := P.gh.lp
      have ew : IntKind.u64.wrap ((p : Int) + 1) = (p : Int) + 1 := by rw [IntKind.wrap_u64]; omega
      have ca : wr.cell? ⟨ab, k, none⟩ = some (.pointer (if (A k).isSome then some ⟨gb k, 0, none⟩ else none)) := by rw [P.arr.cell, ptrA_get _ _ hk]
      clear P
      by_cases k0 : k = 0
      · subst k0
        have ek0 : who % 6 = 0 := by simpa using ek
        clear ek hk
        cases hA : A 0 with
        | none =>
          rw [hA] at ca
          simp only [Option.isSome_none, Bool.false_eq_true, if_false] at ca
          have HAK := Lib.hid (show A 0 = none ∨ ∃ o, A 0 = some o ∧ o.done = true from .inl hA)
          have HAV := Lib.hid hA
          have HBG := Lib.hid (show ∀ w, Calls Try.prog 14 #[.agg #[.int .i64 0, .int .i64 (cap : Nat)], .agg #[.int .i64 0, .int .i64 0], .int .i64 0, .agg #[.int .u8 0, .bool pq, .int .u64 ((p : Int) + 1)]] w fun e w' => Began w w' (newD 0 cap (kindOf 0 pq) (wordOf 0 pq (p + 1))) (newD 0 0 (kindOf 0 pq) (wordOf 0 pq (p + 1))) e from fun w => begin_any 0 cap 0 0 pq (p + 1) w)
          have HO0 := Lib.hid (show OkOp (newD 0 cap (kindOf 0 pq) (wordOf 0 pq (p + 1))) from OkOp.new (by omega) (by omega) HP2.out (by cases pq <;> decide) (by unfold wordOf; split <;> omega))
          have HE3 := Lib.hid (show (if 0 = 0 then ((newD 0 cap (kindOf 0 pq) (wordOf 0 pq (p + 1))).kind = 0 ∧ pq = true ∧ (newD 0 cap (kindOf 0 pq) (wordOf 0 pq (p + 1))).x = p + 1) ∨ ((newD 0 cap (kindOf 0 pq) (wordOf 0 pq (p + 1))).kind = 1 ∧ pq = false) else (newD 0 cap (kindOf 0 pq) (wordOf 0 pq (p + 1))).kind = 2) from by rw [if_pos rfl]; cases pq; exact .inr ⟨rfl, rfl⟩; exact .inl ⟨rfl, rfl, rfl⟩)
          have HP0 := Lib.hid (HP.out.mined HAK.out pq)
          have e10 := HP.out.d.cell 0
          have e11 := HP.out.d.cell 1
          clear hA
          go_wp2_with (first
            | (go_at_call 14; refine (HBG.out _).mono ?_; rintro e w12 ⟨gn, rn, rfl, H12, R12, C12, s12, t12, n12⟩; have Q12 := HP0.out.keep C12; have P13 := SO.new HP0.out (k := 0) (by omega) HAK.out C12 s12 H12 HO0.out rfl rfl HE3.out rfl rfl rfl; have c12a := Q12.arr.frozen 0; have c12c : w12.cell? ⟨ab, 0, none⟩ = some (.pointer none) := (by rw [Q12.arr.cell, ptrA_get _ _ (by omega), HAV.out]; rfl); have HP13 := Lib.hid P13; clear P13 Q12))
          go_roundw
          case rel => exact ⟨i + 1, _, _, W, u, L, c, pq, p, last, gr, by omega, by omega, by go_num, rfl, rfl, rfl, HP13.out.more⟩
          case measure => simp [intOf] <;> omega
        | some o =>
          rw [hA] at ca
          simp only [Option.isSome_some, if_true] at ca
          cases hd : o.done with
          | true =>
            have HAK := Lib.hid (show A 0 = none ∨ ∃ o, A 0 = some o ∧ o.done = true from .inr ⟨o, hA, hd⟩)
            have HAV := Lib.hid hA
            have HDN := Lib.hid (done_any (gb 0) o wr (HP.out.ops 0 (by omega) o hA).1)
            rw [hd] at HDN
            have HBG := Lib.hid (show ∀ w, Calls Try.prog 14 #[.agg #[.int .i64 0, .int .i64 (cap : Nat)], .agg #[.int .i64 0, .int .i64 0], .int .i64 0, .agg #[.int .u8 0, .bool pq, .int .u64 ((p : Int) + 1)]] w fun e w' => Began w w' (newD 0 cap (kindOf 0 pq) (wordOf 0 pq (p + 1))) (newD 0 0 (kindOf 0 pq) (wordOf 0 pq (p + 1))) e from fun w => begin_any 0 cap 0 0 pq (p + 1) w)
            have HO0 := Lib.hid (show OkOp (newD 0 cap (kindOf 0 pq) (wordOf 0 pq (p + 1))) from OkOp.new (by omega) (by omega) HP2.out (by cases pq <;> decide) (by unfold wordOf; split <;> omega))
            have HE3 := Lib.hid (show (if 0 = 0 then ((newD 0 cap (kindOf 0 pq) (wordOf 0 pq (p + 1))).kind = 0 ∧ pq = true ∧ (newD 0 cap (kindOf 0 pq) (wordOf 0 pq (p + 1))).x = p + 1) ∨ ((newD 0 cap (kindOf 0 pq) (wordOf 0 pq (p + 1))).kind = 1 ∧ pq = false) else (newD 0 cap (kindOf 0 pq) (wordOf 0 pq (p + 1))).kind = 2) from by rw [if_pos rfl]; cases pq; exact .inr ⟨rfl, rfl⟩; exact .inl ⟨rfl, rfl, rfl⟩)
            have HP0 := Lib.hid (HP.out.mined HAK.out pq)
            have e10 := HP.out.d.cell 0
            have e11 := HP.out.d.cell 1
            clear hA hd
            go_wp2_with (first
              | (go_at_call 13; refine HDN.out.mono ?_; rintro e y ⟨rfl, rfl⟩)
              | (go_at_call 14; refine (HBG.out _).mono ?_; rintro e w12 ⟨gn, rn, rfl, H12, R12, C12, s12, t12, n12⟩; have Q12 := HP0.out.keep C12; have P13 := SO.new HP0.out (k := 0) (by omega) HAK.out C12 s12 H12 HO0.out rfl rfl HE3.out rfl rfl rfl; have c12a := Q12.arr.frozen 0; have c12c : w12.cell? ⟨ab, 0, none⟩ = some (.pointer (some ⟨gb 0, 0, none⟩)) := (by rw [Q12.arr.cell, ptrA_get _ _ (by omega), HAV.out]; rfl); have HP13 := Lib.hid P13; clear P13 Q12))
            go_roundw
            case rel => exact ⟨i + 1, _, _, W, u, L, c, pq, p, last, gr, by omega, by omega, by go_num, rfl, rfl, rfl, HP13.out.more⟩
            case measure => simp [intOf] <;> omega
          | false =>
            have HAV := Lib.hid hA
            obtain ⟨iop, ok, lgb⟩ := HP.out.ops 0 (by omega) o hA
            have HDN := Lib.hid (done_any (gb 0) o wr iop)
            rw [hd] at HDN
            have low := HP.out.low
            have HT := Lib.hid (step_any (gb 0) o wr iop ok bm bw W u HP.out.mem (by omega) (by omega))
            have ok' := okStep ok HP.out.mem.small (u := u)
            have hres := fun w h => result_any (gb 0) (stepD o W u).1 w h
            have hwhat := HP.out.what (by omega) (by omega) hA hd
            have OK' := Lib.hid ok'
            have hdd := hd
            obtain ⟨rx, hrx⟩ : ∃ rx, rx = (resD (stepD o W u).1).1 := ⟨_, rfl⟩
            obtain ⟨re, hre⟩ : ∃ re, re = (resD (stepD o W u).1).2 := ⟨_, rfl⟩
            rw [← hrx, ← hre] at hwhat
            have HRES := Lib.hid (show ∀ w, IsOp w (gb 0) (stepD o W u).1 → Calls Try.prog 23 #[.pointer (some ⟨gb 0, 0, none⟩)] w fun e w' => e = .returned (.tuple #[.int .u64 (rx : Nat), .int .i64 re]) ∧ Chg [] w w' from fun w h => by rw [hrx, hre]; exact hres w h)
            have HDD := Lib.hid hd
            clear hrx hre hres ok' ok iop hA hd hdd
            rcases hwhat with ⟨b1, b2, c', b3⟩ | ⟨rfl, b2, b3, b4, L', c', b5, b6⟩ | ⟨rfl, b2, b3, b4, b5, b6, L', c', b7, b8⟩
            · have HB2 := Lib.hid (b2 rfl)
              have HST := Lib.hid b3
              have nre : (re != 0) = true := by simpa using b1
              clear b1 b2 b3
              go_wp2_with (first
                | (go_at_call 13; refine HDN.out.mono ?_; rintro e y ⟨rfl, rfl⟩)
                | (go_at_call 16; refine HT.out.mono ?_; rintro e w11 ⟨rfl, H11, M11, C11⟩; have n11 : ab ∉ [gb 0, bm, bw] := (by simp; exact ⟨by omega, Ne.symm (blk_ne HP.out.mem.head HP.out.arr (by decide)), Ne.symm (blk_ne HP.out.mem.row HP.out.arr (by decide))⟩); have m11 : nb ∉ [gb 0, bm, bw] := (by simp; exact ⟨by omega, Ne.symm (blk_ne HP.out.mem.head HP.out.gone (by decide)), Ne.symm (blk_ne HP.out.mem.row HP.out.gone (by decide))⟩); have A11 := HP.out.arr.chg C11 n11; have G11 := HP.out.gone.chg C11 m11; have ca11 : w11.cell? ⟨ab, 0, none⟩ = some (.pointer (some ⟨gb 0, 0, none⟩)) := (by rw [A11.cell, ptrA_get _ _ (by omega), HAV.out]; rfl); have HX := Lib.hid (And.intro H11 (And.intro M11 (And.intro C11 G11))); clear H11 M11 C11 A11 n11 m11 G11)
                | (go_at_call 23; refine (HRES.out _ HX.out.1).mono ?_; rintro e w13 ⟨rfl, C13⟩; have G13 := HX.out.2.2.2.chg C13 (by simp); have HN := Lib.hid (HP.out.next (by omega) HAV.out HDD.out HX.out.1 OK'.out HX.out.2.1 HX.out.2.2.1 HST.out HP.out.gh (by have := HP.out.pN; omega) (fun _ => HB2.out) (fun _ => rfl) G13 (C13.weak)); clear G13))
              go_roundw
              case rel => exact ⟨i + 1, _, _, _, _, L, c', mp, p, last, gr, by omega, by omega, by go_num, rfl, rfl, rfl, HN.out⟩
              case measure => simp [intOf] <;> omega
            · subst b3
              have HB4 := Lib.hid b4
              have HST := Lib.hid b5
              have HGH := Lib.hid b6
              clear b2 b4 b5 b6
              go_wp2_with (first
                | (go_at_call 13; refine HDN.out.mono ?_; rintro e y ⟨rfl, rfl⟩)
                | (go_at_call 16; refine HT.out.mono ?_; rintro e w11 ⟨rfl, H11, M11, C11⟩; have n11 : ab ∉ [gb 0, bm, bw] := (by simp; exact ⟨by omega, Ne.symm (blk_ne HP.out.mem.head HP.out.arr (by decide)), Ne.symm (blk_ne HP.out.mem.row HP.out.arr (by decide))⟩); have m11 : nb ∉ [gb 0, bm, bw] := (by simp; exact ⟨by omega, Ne.symm (blk_ne HP.out.mem.head HP.out.gone (by decide)), Ne.symm (blk_ne HP.out.mem.row HP.out.gone (by decide))⟩); have A11 := HP.out.arr.chg C11 n11; have G11 := HP.out.gone.chg C11 m11; have ca11 : w11.cell? ⟨ab, 0, none⟩ = some (.pointer (some ⟨gb 0, 0, none⟩)) := (by rw [A11.cell, ptrA_get _ _ (by omega), HAV.out]; rfl); have HX := Lib.hid (And.intro H11 (And.intro M11 (And.intro C11 G11))); clear H11 M11 C11 A11 n11 m11 G11)
                | (go_at_call 23; refine (HRES.out _ HX.out.1).mono ?_; rintro e w13 ⟨rfl, C13⟩; have G13 := HX.out.2.2.2.chg C13 (by simp); have HN := Lib.hid (HP.out.next (by omega) HAV.out HDD.out HX.out.1 OK'.out HX.out.2.1 HX.out.2.2.1 HST.out HGH.out (by have := HP.out.pN; omega) (fun _ h => by rw [HB4.out] at h; cases h) (fun h => absurd rfl h) G13 (C13.weak)); clear G13))
              go_roundw
              case rel => exact ⟨i + 1, _, _, _, _, L', c', true, p + 1, last, gr, by omega, by omega, by go_num, rfl, rfl, rfl, HN.out⟩
              case measure => simp [intOf] <;> omega
            · obtain rfl : mp = false := b2 rfl
              have HB3 := Lib.hid b3
              have HB6 := Lib.hid b6
              have HST := Lib.hid b7
              have x1 : ((rx : Int) == 0) = false := by simp only [beq_eq_false_iff_ne, ne_eq]; omega
              have x2 : decide ((p : Int) < (rx : Int)) = false := decide_eq_false (by omega)
              have x3 : decide ((rx : Int) ≤ (last : Int)) = false := decide_eq_false (by omega)
              have x4 : (0 : Int) ≤ (rx : Int) := by omega
              have x5 : (rx : Int) < 200 := by omega
              rw [if_neg (by omega)] at b8
              have HGH := Lib.hid b8
              clear b2 b3 b6 b7 b8
              go_wp2_with (first
                | (go_at_call 13; refine HDN.out.mono ?_; rintro e y ⟨rfl, rfl⟩)
                | (go_at_call 16; refine HT.out.mono ?_; rintro e w11 ⟨rfl, H11, M11, C11⟩; have n11 : ab ∉ [gb 0, bm, bw] := (by simp; exact ⟨by omega, Ne.symm (blk_ne HP.out.mem.head HP.out.arr (by decide)), Ne.symm (blk_ne HP.out.mem.row HP.out.arr (by decide))⟩); have m11 : nb ∉ [gb 0, bm, bw] := (by simp; exact ⟨by omega, Ne.symm (blk_ne HP.out.mem.head HP.out.gone (by decide)), Ne.symm (blk_ne HP.out.mem.row HP.out.gone (by decide))⟩); have A11 := HP.out.arr.chg C11 n11; have G11 := HP.out.gone.chg C11 m11; have ca11 : w11.cell? ⟨ab, 0, none⟩ = some (.pointer (some ⟨gb 0, 0, none⟩)) := (by rw [A11.cell, ptrA_get _ _ (by omega), HAV.out]; rfl); have HX := Lib.hid (And.intro H11 (And.intro M11 (And.intro C11 G11))); clear H11 M11 C11 A11 n11 m11 G11)
                | (go_at_call 23; refine (HRES.out _ HX.out.1).mono ?_; rintro e w13 ⟨rfl, C13⟩; have G13 := HX.out.2.2.2.chg C13 (by simp); have c13 : w13.cell? ⟨nb, rx, none⟩ = some (.bool false) := (by rw [G13.cell, goneR_get _ (by omega), HB6.out]); have f13 := G13.frozen rx; have HN := Lib.hid (HP.out.next (by omega) HAV.out HDD.out HX.out.1 OK'.out HX.out.2.1 HX.out.2.2.1 HST.out HGH.out (by have := HP.out.pN; omega) (fun _ h => by rw [HB3.out] at h; cases h) (fun _ => rfl) (by rw [← goneR_set]; exact G13.setCell rx (.bool true)) ((C13.weak).setCell (.inl (by simp)) _)); clear G13))
              go_roundw
              case rel => exact ⟨i + 1, _, _, _, _, L', c', false, p, last, updB gr rx, by omega, by omega, by go_num, rfl, rfl, rfl, HN.out⟩
              case measure => simp [intOf] <;> omega
      · have dk : ((k : Int) == 0) = false := by simp only [beq_eq_false_iff_ne, ne_eq]; omega
        cases hA : A k with
        | none =>
          rw [hA] at ca
          simp only [Option.isSome_none, Bool.false_eq_true, if_false] at ca
          have HAK := Lib.hid (show A k = none ∨ ∃ o, A k = some o ∧ o.done = true from .inl hA)
          have HAV := Lib.hid hA
          have HBG := Lib.hid (show ∀ w, Calls Try.prog 14 #[.agg #[.int .i64 0, .int .i64 (cap : Nat)], .agg #[.int .i64 0, .int .i64 0], .int .i64 (k : Nat), .agg #[.int .u8 0, .bool mp, .int .u64 ((p : Int) + 1)]] w fun e w' => Began w w' (newD 0 cap (kindOf k mp) (wordOf k mp (p + 1))) (newD 0 0 (kindOf k mp) (wordOf k mp (p + 1))) e from fun w => begin_any 0 cap k 0 mp (p + 1) w)
          have hkd : kindOf k mp = 2 := if_neg k0
          have HOk := Lib.hid (show OkOp (newD 0 cap (kindOf k mp) (wordOf k mp (p + 1))) from OkOp.new (by omega) (by omega) HP2.out (by omega) (by unfold wordOf; split <;> omega))
          have HE3 := Lib.hid (show (if k = 0 then ((newD 0 cap (kindOf k mp) (wordOf k mp (p + 1))).kind = 0 ∧ mp = true ∧ (newD 0 cap (kindOf k mp) (wordOf k mp (p + 1))).x = p + 1) ∨ ((newD 0 cap (kindOf k mp) (wordOf k mp (p + 1))).kind = 1 ∧ mp = false) else (newD 0 cap (kindOf k mp) (wordOf k mp (p + 1))).kind = 2) from by rw [if_neg k0]; exact hkd)
          have HP0 := Lib.hid (HP.out)
          have e10 := HP.out.d.cell 0
          have e11 := HP.out.d.cell 1
          clear hkd hA
          go_wp2_with (first
            | (go_at_call 14; refine (HBG.out _).mono ?_; rintro e w12 ⟨gn, rn, rfl, H12, R12, C12, s12, t12, n12⟩; have Q12 := HP0.out.keep C12; have P13 := SO.new HP0.out (k := k) hk HAK.out C12 s12 H12 HOk.out rfl rfl HE3.out rfl rfl rfl; have c12a := Q12.arr.frozen k; have c12c : w12.cell? ⟨ab, k, none⟩ = some (.pointer none) := (by rw [Q12.arr.cell, ptrA_get _ _ hk, HAV.out]; rfl); have HP13 := Lib.hid P13; clear P13 Q12))
          go_roundw
          case rel => exact ⟨i + 1, _, _, W, u, L, c, mp, p, last, gr, by omega, by omega, by go_num, rfl, rfl, rfl, HP13.out.more⟩
          case measure => simp [intOf] <;> omega
        | some o =>
          rw [hA] at ca
          simp only [Option.isSome_some, if_true] at ca
          cases hd : o.done with
          | true =>
            have HAK := Lib.hid (show A k = none ∨ ∃ o, A k = some o ∧ o.done = true from .inr ⟨o, hA, hd⟩)
            have HAV := Lib.hid hA
            have HDN := Lib.hid (done_any (gb k) o wr (HP.out.ops k hk o hA).1)
            rw [hd] at HDN
            have HBG := Lib.hid (show ∀ w, Calls Try.prog 14 #[.agg #[.int .i64 0, .int .i64 (cap : Nat)], .agg #[.int .i64 0, .int .i64 0], .int .i64 (k : Nat), .agg #[.int .u8 0, .bool mp, .int .u64 ((p : Int) + 1)]] w fun e w' => Began w w' (newD 0 cap (kindOf k mp) (wordOf k mp (p + 1))) (newD 0 0 (kindOf k mp) (wordOf k mp (p + 1))) e from fun w => begin_any 0 cap k 0 mp (p + 1) w)
            have hkd : kindOf k mp = 2 := if_neg k0
            have HOk := Lib.hid (show OkOp (newD 0 cap (kindOf k mp) (wordOf k mp (p + 1))) from OkOp.new (by omega) (by omega) HP2.out (by omega) (by unfold wordOf; split <;> omega))
            have HE3 := Lib.hid (show (if k = 0 then ((newD 0 cap (kindOf k mp) (wordOf k mp (p + 1))).kind = 0 ∧ mp = true ∧ (newD 0 cap (kindOf k mp) (wordOf k mp (p + 1))).x = p + 1) ∨ ((newD 0 cap (kindOf k mp) (wordOf k mp (p + 1))).kind = 1 ∧ mp = false) else (newD 0 cap (kindOf k mp) (wordOf k mp (p + 1))).kind = 2) from by rw [if_neg k0]; exact hkd)
            have HP0 := Lib.hid (HP.out)
            have e10 := HP.out.d.cell 0
            have e11 := HP.out.d.cell 1
            clear hkd hA hd
            go_wp2_with (first
              | (go_at_call 13; refine HDN.out.mono ?_; rintro e y ⟨rfl, rfl⟩)
              | (go_at_call 14; refine (HBG.out _).mono ?_; rintro e w12 ⟨gn, rn, rfl, H12, R12, C12, s12, t12, n12⟩; have Q12 := HP0.out.keep C12; have P13 := SO.new HP0.out (k := k) hk HAK.out C12 s12 H12 HOk.out rfl rfl HE3.out rfl rfl rfl; have c12a := Q12.arr.frozen k; have c12c : w12.cell? ⟨ab, k, none⟩ = some (.pointer (some ⟨gb k, 0, none⟩)) := (by rw [Q12.arr.cell, ptrA_get _ _ hk, HAV.out]; rfl); have HP13 := Lib.hid P13; clear P13 Q12))
            go_roundw
            case rel => exact ⟨i + 1, _, _, W, u, L, c, mp, p, last, gr, by omega, by omega, by go_num, rfl, rfl, rfl, HP13.out.more⟩
            case measure => simp [intOf] <;> omega
          | false =>
            have HAV := Lib.hid hA
            obtain ⟨iop, ok, lgb⟩ := HP.out.ops k hk o hA
            have HDN := Lib.hid (done_any (gb k) o wr iop)
            rw [hd] at HDN
            have low := HP.out.low
            have HT := Lib.hid (step_any (gb k) o wr iop ok bm bw W u HP.out.mem (by omega) (by omega))
            have ok' := okStep ok HP.out.mem.small (u := u)
            have hres := fun w h => result_any (gb k) (stepD o W u).1 w h
            have hwhat := HP.out.what (by omega) hk hA hd
            have OK' := Lib.hid ok'
            have hdd := hd
            obtain ⟨rx, hrx⟩ : ∃ rx, rx = (resD (stepD o W u).1).1 := ⟨_, rfl⟩
            obtain ⟨re, hre⟩ : ∃ re, re = (resD (stepD o W u).1).2 := ⟨_, rfl⟩
            rw [← hrx, ← hre] at hwhat
            have HRES := Lib.hid (show ∀ w, IsOp w (gb k) (stepD o W u).1 → Calls Try.prog 23 #[.pointer (some ⟨gb k, 0, none⟩)] w fun e w' => e = .returned (.tuple #[.int .u64 (rx : Nat), .int .i64 re]) ∧ Chg [] w w' from fun w h => by rw [hrx, hre]; exact hres w h)
            have HDD := Lib.hid hd
            clear hrx hre hres ok' ok iop hA hd hdd
            rcases hwhat with ⟨b1, b2, c', b3⟩ | ⟨rfl, b2, b3, b4, L', c', b5, b6⟩ | ⟨rfl, _, b3, b4, b5, b6, L', c', b7, b8⟩
            · have HK0 := Lib.hid k0
              have HST := Lib.hid b3
              have nre : (re != 0) = true := by simpa using b1
              clear b1 b2 b3
              go_wp2_with (first
                | (go_at_call 13; refine HDN.out.mono ?_; rintro e y ⟨rfl, rfl⟩)
                | (go_at_call 16; refine HT.out.mono ?_; rintro e w11 ⟨rfl, H11, M11, C11⟩; have n11 : ab ∉ [gb k, bm, bw] := (by simp; exact ⟨by omega, Ne.symm (blk_ne HP.out.mem.head HP.out.arr (by decide)), Ne.symm (blk_ne HP.out.mem.row HP.out.arr (by decide))⟩); have m11 : nb ∉ [gb k, bm, bw] := (by simp; exact ⟨by omega, Ne.symm (blk_ne HP.out.mem.head HP.out.gone (by decide)), Ne.symm (blk_ne HP.out.mem.row HP.out.gone (by decide))⟩); have A11 := HP.out.arr.chg C11 n11; have G11 := HP.out.gone.chg C11 m11; have ca11 : w11.cell? ⟨ab, k, none⟩ = some (.pointer (some ⟨gb k, 0, none⟩)) := (by rw [A11.cell, ptrA_get _ _ hk, HAV.out]; rfl); have HX := Lib.hid (And.intro H11 (And.intro M11 (And.intro C11 G11))); clear H11 M11 C11 A11 n11 m11 G11)
                | (go_at_call 23; refine (HRES.out _ HX.out.1).mono ?_; rintro e w13 ⟨rfl, C13⟩; have G13 := HX.out.2.2.2.chg C13 (by simp); have HN := Lib.hid (HP.out.next hk HAV.out HDD.out HX.out.1 OK'.out HX.out.2.1 HX.out.2.2.1 HST.out HP.out.gh (by have := HP.out.pN; omega) (fun h => absurd h HK0.out) (fun _ => rfl) G13 (C13.weak)); clear G13))
              go_roundw
              case rel => exact ⟨i + 1, _, _, _, _, L, c', mp, p, last, gr, by omega, by omega, by go_num, rfl, rfl, rfl, HN.out⟩
              case measure => simp [intOf] <;> omega
            · exact absurd b2 k0
            · have x6 : decide ((0 : Int) < (k : Int)) = true := decide_eq_true (by omega)
              have HB3 := Lib.hid b3
              have HB6 := Lib.hid b6
              have HST := Lib.hid b7
              have x1 : ((rx : Int) == 0) = false := by simp only [beq_eq_false_iff_ne, ne_eq]; omega
              have x2 : decide ((p : Int) < (rx : Int)) = false := decide_eq_false (by omega)
              have x3 : decide ((rx : Int) ≤ (last : Int)) = false := decide_eq_false (by omega)
              have x4 : (0 : Int) ≤ (rx : Int) := by omega
              have x5 : (rx : Int) < 200 := by omega
              rw [if_pos (by omega)] at b8
              have HGH := Lib.hid b8
              clear b3 b6 b7 b8
              go_wp2_with (first
                | (go_at_call 13; refine HDN.out.mono ?_; rintro e y ⟨rfl, rfl⟩)
                | (go_at_call 16; refine HT.out.mono ?_; rintro e w11 ⟨rfl, H11, M11, C11⟩; have n11 : ab ∉ [gb k, bm, bw] := (by simp; exact ⟨by omega, Ne.symm (blk_ne HP.out.mem.head HP.out.arr (by decide)), Ne.symm (blk_ne HP.out.mem.row HP.out.arr (by decide))⟩); have m11 : nb ∉ [gb k, bm, bw] := (by simp; exact ⟨by omega, Ne.symm (blk_ne HP.out.mem.head HP.out.gone (by decide)), Ne.symm (blk_ne HP.out.mem.row HP.out.gone (by decide))⟩); have A11 := HP.out.arr.chg C11 n11; have G11 := HP.out.gone.chg C11 m11; have ca11 : w11.cell? ⟨ab, k, none⟩ = some (.pointer (some ⟨gb k, 0, none⟩)) := (by rw [A11.cell, ptrA_get _ _ hk, HAV.out]; rfl); have HX := Lib.hid (And.intro H11 (And.intro M11 (And.intro C11 G11))); clear H11 M11 C11 A11 n11 m11 G11)
                | (go_at_call 23; refine (HRES.out _ HX.out.1).mono ?_; rintro e w13 ⟨rfl, C13⟩; have G13 := HX.out.2.2.2.chg C13 (by simp); have c13 : w13.cell? ⟨nb, rx, none⟩ = some (.bool false) := (by rw [G13.cell, goneR_get _ (by omega), HB6.out]); have f13 := G13.frozen rx; have HN := Lib.hid (HP.out.next hk HAV.out HDD.out HX.out.1 OK'.out HX.out.2.1 HX.out.2.2.1 HST.out HGH.out (by have := HP.out.pN; omega) (fun _ h => by rw [HB3.out] at h; cases h) (fun _ => rfl) (by rw [← goneR_set]; exact G13.setCell rx (.bool true)) ((C13.weak).setCell (.inl (by simp)) _)); clear G13))
              go_roundw
              case rel => exact ⟨i + 1, _, _, _, _, L', c', mp, p, rx, updB gr rx, by omega, by omega, by go_num, rfl, rfl, rfl, HN.out⟩
              case measure => simp [intOf] <;> omega
    · have HP := Lib.hid P
      clear P
      rcases (show (i < rows.length ∧ decide ((i : Int) < 150) = false) ∨ ¬ i < rows.length by by_cases h : i < rows.length; exact .inl ⟨h, by simp; omega⟩; exact .inr h) with ⟨hkl2, d150⟩ | hkl2
      all_goals
        clear hkl
        have pN := HP.out.pN
        have e10 := HP.out.d.cell 0
        have e11 := HP.out.d.cell 1
        have ca : wr.cell? ⟨ab, 0, none⟩ = some (.pointer (if (A 0).isSome then some ⟨gb 0, 0, none⟩ else none)) := by rw [HP.out.arr.cell, ptrA_get _ _ (by omega)]
        cases hA : A 0 with
        | none =>
          rw [hA] at ca
          simp only [Option.isSome_none, Bool.false_eq_true, if_false] at ca
          have hst := HP.out.st
          obtain rfl := once_none hst hA
          have hall := allD_St hst (by omega)
          obtain ⟨L2, hL2⟩ : ∃ L2, L2 = L := ⟨_, rfl⟩
          have HX2 := Lib.hid (show ∀ x ∈ L2, 0 < x ∧ x ≤ 199 from fun x hx => by have := HP.out.gh.mem x (hL2 ▸ hx); omega)
          have HAL := Lib.hid (fun w h => dall_any 0 (by omega) (by omega) cap HP2.out bm bw W u w h)
          rw [hall, ← hL2] at HAL
          clear hall hL2 hst hA
          go_wp2_with fail
          refine (HAL.out _ HP.out.mem).mono ?_
          rintro e w15 ⟨v15, rfl, O15, C15⟩
          obtain ⟨ao', cp', rfl, hm', hc'⟩ := O15.reads
          rw [words_len] at hm'
          unfold maxLen at hm'
          rw [words_len]
          have hc' := Lib.hid hc'
          have CF := HP.out.chg.then C15 (by simp)
          clear O15 C15
          go_wp2_with fail
          go_loopw [17] (fun x17 wq => ∃ j : Nat, j ≤ L2.length ∧ x17 = .int .i64 j ∧ w15 = wq) (fun x17 _ => L2.length - (intOf x17).toNat)
          case atStart => exact ⟨0, by omega, rfl, rfl⟩
          case round =>
            obtain ⟨j, hj, rfl, rfl⟩ := hrel
            by_cases hjl : j < L2.length
            · obtain ⟨g', off', rfl, cj⟩ := hc'.out j _ (words_get L2 hjl)
              have hy := HX2.out _ (List.getElem_mem hjl)
              obtain ⟨y, hye⟩ : ∃ y, y = L2[j] := ⟨_, rfl⟩
              rw [← hye] at cj hy
              have y1 : ((y : Int) == 0) = false := by simp only [beq_eq_false_iff_ne, ne_eq]; omega
              have y2 : decide ((199 : Int) < (y : Int)) = false := decide_eq_false (by omega)
              clear hye
              go_wp2_with fail
              go_roundw
              case rel => exact ⟨j + 1, by omega, by go_num, by trivial⟩
              case measure => simp [intOf] <;> omega
            · obtain rfl : j = L2.length := by omega
              go_wp2_with (go_at_call 18; refine (awake_any _).mono ?_; rintro e w17 ⟨rfl, C17⟩)
              go_ret
              exact ⟨rfl, CF.then C17 (by simp)⟩
        | some o =>
          rw [hA] at ca
          simp only [Option.isSome_some, if_true] at ca
          obtain ⟨iop, ok, lgb⟩ := HP.out.ops 0 (by omega) o hA
          have low := HP.out.low
          have lo := HP.out.lo
          obtain ⟨hdone, L2, A2, hst2, hx2⟩ := once_end HP.out.st (by omega) HP.out.gh hA ok (HP.out.own o hA) u
          have HL := Lib.hid (all_any (gb 0) o wr iop ok bm bw W u HP.out.mem (by omega) (by omega))
          obtain ⟨s8, hs8⟩ : ∃ s8, s8 = itD 8 (o, W, u) := ⟨_, rfl⟩
          rw [← hs8] at HL hdone hst2
          rw [hdone] at HL
          have hall := allD_St hst2 (by omega)
          have HX2 := Lib.hid (show ∀ x ∈ L2, 0 < x ∧ x ≤ 199 from fun x hx => by have := hx2 x hx; omega)
          have HAL := Lib.hid (fun w h => dall_any 0 (by omega) (by omega) cap HP2.out bm bw s8.2.1 s8.2.2 w h)
          rw [hall] at HAL
          clear hall hs8 hst2 hx2 hdone hA iop ok e10 e11
          go_wp2_with (go_at_call 19; refine HL.out.mono ?_; rintro e w14 ⟨rfl, _, _, M14, C14⟩; have D14 := HP.out.d.chg C14 (by simp; exact ⟨by omega, Ne.symm (blk_ne HP.out.mem.head HP.out.d (by decide)), Ne.symm (blk_ne HP.out.mem.row HP.out.d (by decide))⟩); have e10 := D14.cell 0; have e11 := D14.cell 1; have CA := HP.out.chg.then C14 (fun g hg => .inr (by simp at hg; omega)); clear D14 C14)
          refine (HAL.out _ M14).mono ?_
          rintro e w15 ⟨v15, rfl, O15, C15⟩
          obtain ⟨ao', cp', rfl, hm', hc'⟩ := O15.reads
          rw [words_len] at hm'
          unfold maxLen at hm'
          rw [words_len]
          have hc' := Lib.hid hc'
          have CF := CA.then C15 (by simp)
          clear O15 C15
          go_wp2_with fail
          go_loopw [17] (fun x17 wq => ∃ j : Nat, j ≤ L2.length ∧ x17 = .int .i64 j ∧ w15 = wq) (fun x17 _ => L2.length - (intOf x17).toNat)
          case atStart => exact ⟨0, by omega, rfl, rfl⟩
          case round =>
            obtain ⟨j, hj, rfl, rfl⟩ := hrel
            by_cases hjl : j < L2.length
            · obtain ⟨g', off', rfl, cj⟩ := hc'.out j _ (words_get L2 hjl)
              have hy := HX2.out _ (List.getElem_mem hjl)
              obtain ⟨y, hye⟩ : ∃ y, y = L2[j] := ⟨_, rfl⟩
              rw [← hye] at cj hy
              have y1 : ((y : Int) == 0) = false := by simp only [beq_eq_false_iff_ne, ne_eq]; omega
              have y2 : decide ((199 : Int) < (y : Int)) = false := decide_eq_false (by omega)
              clear hye
              go_wp2_with fail
              go_roundw
              case rel => exact ⟨j + 1, by omega, by go_num, by trivial⟩
              case measure => simp [intOf] <;> omega
            · obtain rfl : j = L2.length := by omega
              go_wp2_with (go_at_call 18; refine (awake_any _).mono ?_; rintro e w17 ⟨rfl, C17⟩)
              go_ret
              exact ⟨rfl, CF.then C17 (by simp)⟩

namespace dequeOnce
open Go.ChangeShapes Go.WideShapes Go.ChangeAt
theorem own : ownKnob Try.prog.godebug = none := by kernel_rfl
theorem laidOut : laidOutB Try.prog = true := by kernel_rfl

set_option maxRecDepth 100000 in
theorem lifted (os : Os) (started : os.Started) (H : Type) (enc : TypeId × Value → H) :
    ReturnsInHanded {} Try.checked os 5 .any (Rows.dequeOnceSpec.pre6 enc Try.prog Try.f5 Rows.dequeOnceRow.domain false) (Rows.dequeOnceSpec.post enc Try.prog Try.f5 false true false false) := by
  refine returnsInHanded_of_change (C := Try.checked) own started (by kernel_rfl) Try.func5
    (ChangeSpec.witness6 (enc := enc) (C := Try.checked) false ⟨#[], #[.int .i64 0, .slice none 0 0], []⟩ 8 (by kernel_rfl) (by kernel_rfl) (by kernel_rfl) (by kernel_rfl)) ?_
  intro W base args ds gs before hval0 hW hcnd _
  have hval : ∀ (j : Nat) t v, Try.f5.params[j]? = some t → args[j]? = some v → Value.okWide Try.prog W .any base t v := hval0
  have hW' := hW
  obtain ⟨p, q, hA0, hV, rfl, hfz, hnd⟩ := hW
  have hA : DataW.TrodAll enc Try.prog W 0 (fun _ => true) true Try.f5.params.toList args.toList ds p := hA0
  rw [Try.params5] at hA hval
  obtain ⟨v0, vs0, d0, ds0, p0, q0, hargs, rfl, rfl, h0, r0⟩ := trodAll_cons hA
  obtain ⟨v1, vs1, d1, ds1, p1, q1, rfl, rfl, rfl, h1, r1⟩ := trodAll_cons r0
  obtain ⟨rfl, rfl, rfl⟩ := trodAll_nil r1
  obtain rfl : args = #[v0, v1] := by cases args; simp_all
  obtain ⟨rfl, rfl⟩ := trodVars_none hV
  obtain ⟨a0, rfl, rfl, rfl, w0⟩ := open_int Try.underlying3 (hval 0 3 v0 rfl rfl) h0
  have b0 := bounds_i64 w0
  obtain ⟨a1, len1, cap1, rfl⟩ := okWide_slice Try.underlying23 (hval 1 23 v1 rfl rfl)
  have k1 := h1
  have lt1 : ∀ x ∈ p1, x.block < W.heap.size := by obtain ⟨m, hm⟩ := k1; exact DataW.trod_lt m _ _ _ hm
  obtain ⟨l1, hl1, hr1⟩ := open_elems (Q := ActRow) Try.underlying23 3 (by decide) (by kernel_rfl) (fun fuel cs y hy => ActRow_of fuel cs y hy) h1
  clear hA0 hval0
  simp only [List.append_nil] at hW'
  refine (dequeOnce_walk W a0 b0.1 b0.2 _ l1 hl1 hr1).mono fun e W' ⟨he, hg⟩ => ?_
  subst he
  exact ⟨_, rfl, _, _, _, [], _, [], hW', trodAll_mk1 (shut_bool Try.underlying4 _), (trodAll_cons_mk (shut_int Try.underlying3 w0) (trodAll_cons_mk (Below.trod laidOut (by kernel_rfl) (of_decide_eq_true (by kernel_rfl)) k1 hg.below lt1) trodAll_mk0)), rfl, hg.below.frame _, fun h => by cases h⟩

theorem over : Rows.dequeOnceRow.holds Try.pinned (OpenSpec.ofChange Rows.dequeOnceSpec) :=
  OpenClaim.holds_of_wide 5 Try.f5 rfl rfl rfl rfl rfl rfl rfl ⟨rfl, rfl, rfl, rfl, rfl⟩ rfl rfl rfl rfl rfl (by kernel_rfl) Try.func5 (by kernel_rfl)
    (of_decide_eq_true (by kernel_rfl)) (by unfold Func.isWrapper; first | (rw [if_pos (by decide +kernel)]; kernel_rfl) | (rw [if_neg (by decide +kernel)]; exact ⟨rfl, rfl⟩))
    (fun os started H enc _ => lifted os started H enc)
end dequeOnce

theorem dequeOnce_holds : Rows.DequeOnceSaid := dequeOnce.over
#print axioms dequeOnce_holds
end Go.Proofs.Ytidooepalfegdaa

