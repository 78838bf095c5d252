/- rack: the walk of RackPlays. -/
import Derived.Test.YtjdbgohfedjifaaGreatDoorRpY
import Derived.Test.YtjdbgohfedjifaaGreatDoorRpAct
import Derived.Deep.DeepCutAuto
import Derived.Deep.RegionWith
import Derived.BigQuiet
namespace Go.Proofs.YtjdbgohfedjifaaGreatDoor
open Go.RowKit Bosun
theorem infoWkP : (Tryz.prog.info? 39).map (fun i => (i.zero, i.size, i.bytes)) = some (some (.pointer none), 1, 8) := by kernel_rfl
theorem infoQwP : (Tryz.prog.info? 44).map (fun i => (i.zero, i.size, i.bytes)) = some (some (.pointer none), 1, 8) := by kernel_rfl
theorem wrap_six (b : Int) : 0 ≤ wrap64 ((IntKind.u64.wrap b).tmod 6) ∧ wrap64 ((IntKind.u64.wrap b).tmod 6) ≤ 5 := by
  have e := IntKind.wrap_u64 b
  have h1 : 0 ≤ IntKind.u64.wrap b := by rw [e]; omega
  generalize IntKind.u64.wrap b = z at *
  rw [Int.tmod_eq_emod_of_nonneg h1]
  rw [IntWalk.wrap64_in _ (by omega)]
  omega
theorem WP.up {w0 W : World} {rb bm bw sb nm nw ab bb : Nat} {r : RRack} {M : List Nat} {u : Nat} {ws : Nat → Option RWork} {B : Nat → PB} {n i i' : Nat} (h : WP w0 W rb bm bw sb nm nw ab bb r M u ws B n i) (hi : i ≤ i') : WP w0 W rb bm bw sb nm nw ab bb r M u ws B n i' :=
  { h with hd := fun j hj w hw => Nat.le_trans (h.hd j hj w hw) hi }
theorem partN_whole (W : List Nat) (n : Nat) (h : W.length = n) : partN W 0 (n : Nat) = W := by
  unfold partN
  rw [show partLo 0 = 0 from rfl, List.drop_zero]
  apply List.take_of_length_le
  unfold partHi
  split
  · omega
  · rw [if_neg (by omega)]; simp; omega
set_option maxRecDepth 100000 in
set_option maxHeartbeats 16000000 in
theorem rackPlays_walk (w : World) (hT : TabW w) (b0 : Int) (hb0 : -9223372036854775808 ≤ b0) (hb1 : b0 ≤ 9223372036854775807) (cp : Int) (h0 : -9223372036854775808 ≤ cp) (h1 : cp ≤ 9223372036854775807) (v : Value) (rows : List (List Value)) (hr : ∀ r ∈ rows, ActRow w r) (hv : ReadsS w v 6 rows) :
    Calls Tryz.prog 3 #[.int .i64 b0, .int .i64 cp, v] w fun e w' => e = .returned (.bool true) ∧ Chg [] w w' := by
  obtain ⟨ao, cpp, rfl, hm, hcell⟩ := hv
  unfold maxLen at hm
  have HCELL := Lib.hid hcell
  have HR := Lib.hid hr
  have HT := Lib.hid hT
  clear hcell hr hT
  go_enter Tryz.func3, Tryz.ntmps3
  go_upto_region 1 with (fail)
  go_cut [23] (fun s wx => ∃ b : Bool, s = .bool b ∧ (b = false → 0 ≤ b0 ∧ b0 ≤ 5) ∧ w = wx)
  case first =>
    as_aux_lemma =>
    rcases (show b0 < 0 ∨ (decide (b0 < 0) = false ∧ 5 < b0) ∨ (decide (b0 < 0) = false ∧ decide (5 < b0) = false) by simp; omega) with a1 | ⟨a1, a2⟩ | ⟨a1, a2⟩
    · go_wp2_with fail
      go_meet
      exact ⟨true, rfl, (fun e => by cases e), rfl⟩
    · go_wp2_with fail
      go_meet
      exact ⟨true, rfl, (fun e => by cases e), rfl⟩
    · go_wp2_with fail
      go_meet
      exact ⟨false, rfl, (fun e => by simp at a1 a2; omega), rfl⟩
  case rest =>
  obtain ⟨b, rfl, hb, hwx⟩ := hcut
  subst hwx
  go_upto_if 23 with (fail)
  go_cut [0] (fun s wx => ∃ base : Int, 0 ≤ base ∧ base ≤ 5 ∧ s = .int .i64 base ∧ w = wx)
  case first =>
    as_aux_lemma =>
    cases b with
    | true =>
      clear hb
      go_wp2_with fail
      go_meet
      have hwb := wrap_six b0
      exact ⟨wrap64 ((IntKind.u64.wrap b0).tmod 6), by omega, by omega, rfl, rfl⟩
    | false =>
      obtain ⟨a1, a2⟩ := hb rfl
      clear hb
      go_wp2_with fail
      go_meet
      exact ⟨b0, a1, a2, rfl, rfl⟩
  case rest =>
  obtain ⟨base, hm0, hm1, rfl, hwx⟩ := hcut
  subst hwx
  clear hb hb0 hb1
  go_upto_if 29 with (fail)
  go_cut [1] (fun s wx => ∃ c : Int, -9223372036854775808 ≤ c ∧ c ≤ 4 ∧ s = .int .i64 c ∧ w = wx)
  case first =>
    as_aux_lemma =>
    by_cases hc : 4 < cp
    · go_wp2_with fail
      go_meet
      exact ⟨1 + cp % 4, by omega, by omega, rfl, rfl⟩
    · go_wp2_with fail
      go_meet
      exact ⟨cp, h0, by omega, rfl, rfl⟩
  case rest =>
  obtain ⟨c, hc0, hc1, rfl, hwx⟩ := hcut
  subst hwx
  clear h0 h1
  have hp2 := holdN_pow2 c
  have HNEWR := Lib.hid (fun W => rknew_any W base hm0 hm1 c hc0 (by omega))
  have HNEWQ := Lib.hid (fun W => qnew_any W base hm0 hm1 c hc0 (by omega))
  have HRW := Lib.hid (fun W => refwords_any c hc0 (by omega) W)
  have HPW := Lib.hid (fun W => rwords_any c hc0 (by omega) W)
  obtain ⟨cap, hcap⟩ : ∃ cap, cap = holdN c := ⟨_, rfl⟩
  rw [← hcap] at hp2 HNEWR HNEWQ HRW HPW
  have hle := hp2.le
  obtain ⟨K, hK⟩ : ∃ K : Nat, K = 1 + 16 * (2 + cap) := ⟨_, rfl⟩
  have hKi : (1 : Int) + 16 * (2 + (cap : Nat)) = (K : Nat) := by omega
  rw [hKi] at HRW HPW
  obtain ⟨n, hn⟩ : ∃ n : Nat, n = 5 + K := ⟨_, rfl⟩
  have hKn : wrap64 ((5 : Int) + (K : Int)) = (n : Nat) := by rw [IntWalk.wrap64_in _ (by omega)]; omega
  have hn5 : n ≤ 5000 := by omega
  have HNEW := Lib.hid (fun W => new_any ((n : Nat) : Int) n (by omega) W)
  have HRNEW := Lib.hid (fun W => rnew_any ((n : Nat) : Int) n (by omega) W)
  have HM0 := Lib.hid (show (List.replicate n 0 : List Nat).length = n from by simp)
  obtain ⟨M0, hM0⟩ : ∃ M0 : List Nat, M0 = List.replicate n 0 := ⟨_, rfl⟩
  rw [← hM0] at HNEW HRNEW HM0
  obtain ⟨r0, hr0⟩ : ∃ r0, r0 = newR base cap := ⟨_, rfl⟩
  rw [← hr0] at HNEWR HNEWQ
  have HN5 := Lib.hid hn5
  clear hM0 hcap hp2 hc0 hc1 hr0 hm0 hm1 hKi hK hn hle hn5
  go_wp2_with fail
  refine (HRW.out _).mono ?_
  rintro e w1 ⟨rfl, rfl⟩
  go_wp2_with fail
  refine (HNEW.out w).mono ?_
  rintro e W1 ⟨bm, bw, rfl, M1, C1, l2, l3⟩
  have HX1 := Lib.hid (And.intro M1 (And.intro C1 (And.intro l2 l3)))
  clear M1 C1 l2 l3
  go_wp2_with fail
  refine (HRNEW.out W1).mono ?_
  rintro e W2 ⟨nm, nw, rfl, M2, C2, l4, l5⟩
  have HX2 := Lib.hid (And.intro M2 (And.intro C2 (And.intro l4 l5)))
  clear M2 C2 l4 l5
  go_wp2_with fail
  refine (HNEWR.out W2).mono ?_
  rintro e W3 ⟨rb, rfl, R3, K3, C3, l1⟩
  have HX3 := Lib.hid (And.intro R3 (And.intro K3 (And.intro C3 l1)))
  clear R3 K3 C3 l1
  go_wp2_with fail
  refine (HNEWQ.out W3).mono ?_
  rintro e W4 ⟨sb, rfl, S4, C4, l6⟩
  have HX4 := Lib.hid (And.intro S4 (And.intro C4 l6))
  clear S4 C4 l6
  go_wp2_with (first
    | (refine wpList_make1 rfl (.const (.int .i64 4)) (.const (.int .i64 4)) 33 rfl 39 (.pointer none) 8 Tryz.underlying33 infoWkP rfl .i64 .i64 4 rfl rfl (by omega) (by omega) ?_; intro w8 A8 C8 z8)
    | (refine wpList_make1 rfl (.const (.int .i64 4)) (.const (.int .i64 4)) 34 rfl 44 (.pointer none) 8 Tryz.underlying34 infoQwP rfl .i64 .i64 4 rfl rfl (by omega) (by omega) ?_; intro w9 B9 C9 z9)
    | fail)
  have P9 : WP w w9 rb bm bw sb nm nw W4.heap.size (W4.heap.size + 1) r0 M0 0 (fun _ => none) (fun _ => ⟨0, .nilFunc, none, 0, 0, 0, .nilFunc, 0, none, none, []⟩) n 0 := by
    obtain ⟨M1, C1, l2, l3⟩ := HX1.out
    obtain ⟨M2, C2, l4, l5⟩ := HX2.out
    obtain ⟨R3, K3, C3, l1⟩ := HX3.out
    obtain ⟨S4, C4, l6⟩ := HX4.out
    have s1 := C1.size
    have s2 := C2.size
    have s3 := C3.size
    have s4 := C4.size
    have C89 := C8.trans C9
    have C49 := C4.trans C89
    have C39 := C3.trans C49
    have C29 := C2.trans C39
    have hlt := M1.row.lt
    exact ⟨⟨Blk.chg R3 C49 (by simp), M1.keep C29, K3, (HT.out.keep C1).keep C29, C1.trans C29, by omega, l2, l3⟩, Blk.chg S4 C89 (by simp), M2.chg C39 (by simp) (by simp), HM0.out, by omega, by omega, by omega, by omega, by omega, by omega,
      by rw [← ptrP_none]; exact A8.chg C9 (by simp), by rw [← ptrP_none, ← z8]; exact B9, fun j _ w h => (by cases h), fun j _ _ w h => (by cases h), fun j k _ _ _ h => absurd rfl h, fun j _ w h => (by cases h)⟩
  have HP9 := Lib.hid P9
  obtain ⟨ab, hab⟩ : ∃ ab, ab = W4.heap.size := ⟨_, rfl⟩
  obtain ⟨bb, hbb⟩ : ∃ bb, bb = W4.heap.size + 1 := ⟨_, rfl⟩
  first
    | rw [← hbb, ← hab] at HP9
    | skip
  first
    | rw [z8, ← hbb, ← hab]
    | rw [← hbb, ← hab]
  clear P9 hab hbb A8 C8 z8 B9 C9 z9 HX1 HX2 HX3 HX4 HNEW HNEWR HNEWQ HRNEW HM0 hKn
  go_loopw [14] (fun x wr => ∃ (i : Nat) (r : RRack) (M : List Nat) (u : Nat) (ws : Nat → Option RWork) (B : Nat → PB), i ≤ rows.length ∧ i ≤ 120 ∧ x = .int .i64 i ∧ WP w wr rb bm bw sb nm nw ab bb r M u ws B n i) (fun x _ => 120 - (intOf x).toNat)
  case atStart => exact ⟨0, _, _, _, _, _, by omega, by omega, rfl, HP9.out⟩
  case round =>
    obtain ⟨i, r, M, u, ws, B, hi, hi2, rfl, P⟩ := hrel
    have HP := Lib.hid P
    clear P HP9
    go_upto_region 13 with (fail)
    obtain ⟨q, hq⟩ : ∃ q, q = decide (i < rows.length ∧ i < 120) := ⟨_, rfl⟩
    go_cut [55] (fun s wx => s = .bool q ∧ wr = wx)
    case first =>
      as_aux_lemma =>
      rcases (show (i < rows.length ∧ i < 120) ∨ (i < rows.length ∧ ¬ i < 120) ∨ ¬ i < rows.length by omega) with ⟨a1, a2⟩ | ⟨a1, a2⟩ | a1
      · obtain rfl : q = true := by rw [hq]; exact decide_eq_true ⟨a1, a2⟩
        have d2 : decide ((i : Int) < 120) = true := decide_eq_true (by omega)
        clear hq
        go_wp2_with fail
        go_meet
        exact ⟨by first | rfl | rw [d2], rfl⟩
      · obtain rfl : q = false := by rw [hq]; exact decide_eq_false (by omega)
        have d2 : decide ((i : Int) < 120) = false := by simp; omega
        clear hq
        go_wp2_with fail
        go_meet
        exact ⟨rfl, rfl⟩
      · obtain rfl : q = false := by rw [hq]; exact decide_eq_false (by omega)
        have d2 : decide ((i : Int) < (rows.length : Int)) = false := by simp; omega
        clear hq
        go_wp2_with fail
        go_meet
        exact ⟨rfl, rfl⟩
    case rest =>
    obtain ⟨rfl, hwx⟩ := hcut
    subst hwx
    by_cases hkl : i < rows.length ∧ i < 120
    · obtain rfl : q = true := by rw [hq]; exact decide_eq_true hkl
      obtain ⟨hkl, hi120⟩ := hkl
      clear hq
      obtain ⟨g, off, rfl, hc⟩ := HCELL.out i _ (List.getElem?_eq_getElem hkl)
      obtain ⟨who, name, x, lvl, pin, bo, bn, bc, bad, b1, b2, b3, b4, b5, b6, b7, b8, b9, hrow⟩ := HR.out _ (List.getElem_mem hkl)
      rw [hrow] at hc
      have hgw : g < w.heap.size := World.block_lt_of_cell? w _ (hc 0 _ rfl)
      have hfr : ∀ (j : Nat) y, ([.int .u8 (who : Nat), .int .u8 (name : Nat), .int .u64 (x : Nat), .int .i64 lvl, .bool pin, .slice bo bn bc] : List Value)[j]? = some y → ∀ w5, Chg [] w w5 → w5.cell? ⟨g, off + i * 6 + j, none⟩ = some y := fun j y hy w5 h5 => by
        rw [World.cell?_of_block (w := w) (h5.block g hgw (by simp)), hc j _ hy]
      have HF := Lib.hid (fun w5 h5 => And.intro (hfr 0 _ rfl w5 h5) (And.intro (hfr 1 _ rfl w5 h5) (And.intro (hfr 2 _ rfl w5 h5) (And.intro (hfr 3 _ rfl w5 h5) (And.intro (hfr 4 _ rfl w5 h5) (hfr 5 _ rfl w5 h5))))))
      simp only [Nat.add_zero] at HF
      obtain ⟨k, ek, hk⟩ : ∃ k : Nat, who % 4 = k ∧ k < 4 := ⟨who % 4, rfl, by omega⟩
      have ek1 : (who : Int) % 4 = (k : Int) := by omega
      have ek2 : Int.tmod (who : Int) 4 = (k : Int) := by rw [Int.tmod_eq_emod_of_nonneg (by omega)]; omega
      have HB9 := Lib.hid (And.intro b9 (And.intro b6 (And.intro b7 (And.intro b2 b3))))
      have HGW := Lib.hid hgw
      clear hfr hc hrow b9 b8 ek hgw b4 b5 b6 b7
      have f0 : wr.cell? ⟨g, off + i * 6, none⟩ = some (.int .u8 (who : Nat)) := (HF.out wr HP.out.rest.chg).1
      go_upto_region 16 with (fail)
      have ca : wr.cell? ⟨ab, k, none⟩ = some (.pointer (if (ws k).isSome then some ⟨(B k).wb, 0, none⟩ else none)) := by rw [HP.out.arr.cell, ptrP_get _ _ _ hk]
      have cb : wr.cell? ⟨bb, k, none⟩ = some (.pointer (if (ws k).isSome then some ⟨(B k).qb, 0, none⟩ else none)) := by rw [HP.out.brr.cell, ptrP_get _ _ _ hk]
      have hk4 : (k : Int) < 4 := by omega
      obtain ⟨bg, hbg⟩ : ∃ bg, bg = (match ws k with | none => true | some o => o.done) := ⟨_, rfl⟩
      go_cut [78] (fun s wx => s = .bool bg ∧ wr = wx)
      case first =>
        as_aux_lemma =>
        cases hA : ws k with
        | none =>
          rw [hA] at ca hbg
          simp only [Option.isSome_none, Bool.false_eq_true, if_false] at ca
          dsimp only at hbg
          subst hbg
          clear hA cb
          go_wp2_with fail
          go_meet
          exact ⟨rfl, rfl⟩
        | some o =>
          rw [hA] at ca cb hbg
          simp only [Option.isSome_some, if_true] at ca cb
          dsimp only at hbg
          have c14 : wr.cell? ⟨(B k).qb, 14, none⟩ = some (.bool o.done) := by rw [Blk.cell (HP.out.wk k hk o hA).qk]; rfl
          obtain ⟨qb, hqb⟩ : ∃ qb, qb = (B k).qb := ⟨_, rfl⟩
          obtain ⟨wb, hwb⟩ : ∃ wb, wb = (B k).wb := ⟨_, rfl⟩
          rw [← hqb] at c14 cb
          rw [← hwb] at ca
          rw [← hbg] at c14
          clear hA hbg hqb hwb
          go_wp2_with fail
          go_meet
          exact ⟨by first | rfl | trivial, rfl⟩
      case rest =>
      obtain ⟨rfl, hwx⟩ := hcut
      subst hwx
      have HII := Lib.hid (And.intro hkl hi120)
      have HBG0 := Lib.hid hbg
      clear ca cb f0 hbg
      cases bg with
      | true =>
        as_aux_lemma =>
        have HIS := Lib.hid (beginW_is HP.out.rest.ok k name x b3 lvl pin)
        have HBG := Lib.hid (fun W' (C : Chg [] wr W') => begin_any W' rb bm bw r M u (Blk.chg HP.out.rest.rk C (by simp)) (HP.out.rest.mem.chg C (by simp) (by simp)) HP.out.rest.ok k hk who name b2 x b3 lvl pin bo bn bc HB9.out.2.1 HB9.out.2.2.1)
        have HBR := Lib.hid (fun W' (SB : IsSb W' sb r) (RF : IsRef W' nm nw M u) => show Calls Tryz.prog 10 #[.pointer (some ⟨sb, 0, none⟩), .int .i64 (k : Nat), .agg #[.int .u8 (who : Nat), .int .u8 (name : Nat), .int .u64 (x : Nat), .int .i64 lvl, .bool pin, .slice bo bn bc]] W' fun e W'' => QBegun W' W'' sb nm nw r M u (beginW r k name x lvl pin) (nameQ k name) (badV k name bo bn bc) e from beginRef_any W' sb nm nw r M u SB RF HP.out.rest.ok k hk who name b2 x lvl pin bo bn bc HB9.out.2.1 HB9.out.2.2.1)
        have HCA := Lib.hid (fun (W1 : World) (C : Chg [] wr W1) => show W1.cell? ⟨ab, k, none⟩ = some (.pointer (if (ws k).isSome then some ⟨(B k).wb, 0, none⟩ else none)) ∧ W1.frozen? ⟨ab, k, none⟩ = false from ⟨by rw [(HP.out.keep C).arr.cell, ptrP_get _ _ _ hk], Blk.frozen (HP.out.keep C).arr _⟩)
        have HBGN := Lib.hid (fun (W1 W2 W3 W4 : World) wb gv ob G C1 q1 q2 q3 e2 qb Q C3 q4 e4 => HP.out.begins HT.out hk name x b3 lvl pin HB9.out.1 (W1 := W1) (W2 := W2) (W3 := W3) (W4 := W4) (wb := wb) (gv := gv) (ob := ob) G C1 q1 q2 q3 e2 (qb := qb) Q C3 q4 e4)
        obtain ⟨w0k, hw0k⟩ : ∃ w0k, w0k = beginW r k name x lvl pin := ⟨_, rfl⟩
        obtain ⟨bv, hbv⟩ : ∃ bv, bv = badV k name bo bn bc := ⟨_, rfl⟩
        rw [← hw0k] at HBG HBR HBGN
        rw [← hbv] at HBR HBGN
        obtain ⟨f0, f1, f2, f3, f4, f5⟩ := HF.out wr HP.out.rest.chg
        have HK := Lib.hid hk
        clear hw0k hbv HIS
        go_upto_region 18 with (go_at_call 9; refine (HBG.out _ (by first | exact Chg.refl _ _ | exact (Chg.refl _ _).drew | exact (Chg.refl _ _).drewN _)).mono ?_; rintro e w2 hbg; unfold Begun at hbg; obtain ⟨wb, gv, ob, rfl, G, C, q1, q2, q3⟩ := hbg; obtain ⟨p1, p2⟩ := HCA.out w2 C; have HX := Lib.hid (And.intro G (And.intro C (And.intro q1 (And.intro q2 q3)))); clear G C q1 q2 q3)
        obtain ⟨W2, hW2⟩ : ∃ W2, W2 = w2.setCell ⟨ab, k, none⟩ (.pointer (some ⟨wb, 0, none⟩)) := ⟨_, rfl⟩
        rw [← hW2]
        have HW2 := Lib.hid hW2
        have CW2 : Chg [ab] wr W2 := by rw [hW2]; exact (HX.out.2.1.weak).setCell (.inl (by simp)) _
        clear p1 p2 f0 f1 f2 f3 f4 f5 hW2 HCA HBG
        have la := HP.out.la
        obtain ⟨f0, f1, f2, f3, f4, f5⟩ := HF.out W2 (HP.out.rest.chg.then CW2 (fun g hg => by simp at hg; subst hg; exact .inr la))
        have SB2 := Lib.hid (show IsSb W2 sb r from Blk.chg HP.out.sk CW2 (by simp; exact blk_ne HP.out.sk HP.out.arr (by decide)))
        have RF2 := Lib.hid (show IsRef W2 nm nw M u from HP.out.ref.chg CW2 (by simp; exact blk_ne HP.out.ref.head HP.out.arr (by decide)) (by simp; exact blk_ne HP.out.ref.row HP.out.arr (by decide)))
        have HCB := Lib.hid (fun (W1 : World) (C : Chg [] W2 W1) => show W1.cell? ⟨bb, k, none⟩ = some (.pointer (if (ws k).isSome then some ⟨(B k).qb, 0, none⟩ else none)) ∧ W1.frozen? ⟨bb, k, none⟩ = false from by
          have h := (HP.out.brr.chg CW2 (by simp; exact Ne.symm (blk_ne HP.out.arr HP.out.brr (by decide)))).chg C (by simp)
          exact ⟨by rw [h.cell, ptrP_get _ _ _ hk], Blk.frozen h _⟩)
        clear la CW2
        go_upto_region 19 with (go_at_call 10; refine (HBR.out _ SB2.out RF2.out).mono ?_; rintro e w3 hbg; unfold QBegun at hbg; obtain ⟨qb, rfl, Q, C3, q4⟩ := hbg; obtain ⟨p1, p2⟩ := HCB.out w3 C3; have HY := Lib.hid (And.intro Q (And.intro C3 q4)); clear Q C3 q4)
        have PN := Lib.hid (HBGN.out w2 W2 w3 _ wb gv ob HX.out.1 HX.out.2.1 HX.out.2.2.1 HX.out.2.2.2.1 HX.out.2.2.2.2 HW2.out qb HY.out.1 HY.out.2.1 HY.out.2.2 rfl)
        obtain ⟨W4, hW4⟩ : ∃ W4, W4 = w3.setCell ⟨bb, k, none⟩ (.pointer (some ⟨qb, 0, none⟩)) := ⟨_, rfl⟩
        rw [← hW4] at PN ⊢
        clear p1 p2 f0 f1 f2 f3 f4 f5 hW4 HCB HBR HBGN SB2 RF2 HW2 HX HY
        obtain ⟨B4, hB4⟩ : ∃ B4, B4 = updP B k ⟨wb, gv, ob, qb, nameQ k name, w0k.x, bv, 0, none, none, badL k name bad⟩ := ⟨_, rfl⟩
        have e1 : (B4 k).wb = wb := by rw [hB4, updP_same]
        have e2 : (B4 k).qb = qb := by rw [hB4, updP_same]
        rw [← hB4] at PN
        clear hB4
        have p1 : W4.cell? ⟨ab, k, none⟩ = some (.pointer (some ⟨wb, 0, none⟩)) := by rw [PN.out.arr.cell, ptrP_get _ _ _ HK.out, updQ_same, e1]; rfl
        have p2 : W4.cell? ⟨bb, k, none⟩ = some (.pointer (some ⟨qb, 0, none⟩)) := by rw [PN.out.brr.cell, ptrP_get _ _ _ HK.out, updQ_same, e2]; rfl
        have PD := Lib.hid (PN.out.keep (Chg.refl [] W4).drew)
        have HLK := Lib.hid (PD.out.likeAt HK.out (updQ_same ws k w0k))
        rw [e1, e2] at HLK
        clear e1 e2
        go_region_held3 (fun w' => w'.cell? ⟨ab, k, none⟩ = some (.pointer (some ⟨wb, 0, none⟩)) ∧ w'.cell? ⟨bb, k, none⟩ = some (.pointer (some ⟨qb, 0, none⟩))) (first | assumption | exact ⟨p1, p2⟩ | fail)
          (first
            | (go_at_call 11; refine HLK.out.mono ?_; rintro e w4 ⟨rfl, C4⟩; have P4 := Lib.hid (PD.out.keep C4); have k4 : w4.cell? ⟨ab, k, none⟩ = some (.pointer (some ⟨wb, 0, none⟩)) ∧ w4.cell? ⟨bb, k, none⟩ = some (.pointer (some ⟨qb, 0, none⟩)) := (by exact ⟨ckp C4 p1, ckp C4 p2⟩))
            | fail)
        clear p1 p2
        go_wp2_with fail
        go_roundw
        case rel => exact ⟨i + 1, r, M, u, _, B4, by have := HII.out.1; omega, by have := HII.out.2; omega, by go_num, P4.out.up (by omega)⟩
        case measure => have := HII.out.2; simp [intOf] <;> omega
      | false =>
        as_aux_lemma =>
        obtain ⟨o, hA⟩ : ∃ o, ws k = some o := by
          have h := HBG0.out
          cases hA : ws k with
          | none => rw [hA] at h; cases h
          | some o => exact ⟨o, rfl⟩
        have HPD := Lib.hid (HP.out.keep (Chg.refl [] wr).drew)
        have ca : wr.cell? ⟨ab, k, none⟩ = some (.pointer (some ⟨(B k).wb, 0, none⟩)) := by rw [HP.out.arr.cell, ptrP_get _ _ _ hk, hA]; rfl
        have cb : wr.cell? ⟨bb, k, none⟩ = some (.pointer (some ⟨(B k).qb, 0, none⟩)) := by rw [HP.out.brr.cell, ptrP_get _ _ _ hk, hA]; rfl
        have hi1 : i < 1000 := by have := HII.out.2; omega
        have HST := Lib.hid (HPD.out.pageStep hk hA hi1)
        have HDS := Lib.hid (fun W1 (C1 : Chg (PgS rb bm bw (B k)) wr.drew W1) => HPD.out.docStep hk hA hi1 C1)
        have HSTP := Lib.hid (fun W1 W2 ob' G (C1 : Chg (PgS rb bm bw (B k)) wr.drew W1) ho Q => HPD.out.stepped HT.out hk hA (goodL (B k).l0) (W1 := W1) (W2 := W2) (ob' := ob') G C1 ho Q)
        have HAK := Lib.hid (fun W1 (C1 : Chg (PgS rb bm bw (B k)) wr.drew W1) => show W1.cell? ⟨ab, k, none⟩ = some (.pointer (some ⟨(B k).wb, 0, none⟩)) ∧ W1.cell? ⟨bb, k, none⟩ = some (.pointer (some ⟨(B k).qb, 0, none⟩)) from by
          have h1 := HPD.out.arr.chg C1 (HPD.out.tyP hk hA HPD.out.arr (by decide) (by decide) (by decide) (.inl (by decide)) (by decide))
          have h2 := HPD.out.brr.chg C1 (HPD.out.tyP hk hA HPD.out.brr (by decide) (by decide) (by decide) (.inl (by decide)) (by decide))
          exact ⟨by rw [h1.cell, ptrP_get _ _ _ hk, hA]; rfl, by rw [h2.cell, ptrP_get _ _ _ hk, hA]; rfl⟩)
        obtain ⟨S, hS⟩ : ∃ S, S = stepR (goodL (B k).l0) r o M u := ⟨_, rfl⟩
        rw [← hS] at HST HDS HSTP
        obtain ⟨dn, hdn⟩ : ∃ dn, dn = S.2.1.done := ⟨_, rfl⟩
        rw [← hdn] at HST HDS
        obtain ⟨wb, hwb⟩ : ∃ wb, wb = (B k).wb := ⟨_, rfl⟩
        obtain ⟨qb, hqb⟩ : ∃ qb, qb = (B k).qb := ⟨_, rfl⟩
        rw [← hwb] at ca HST HAK HSTP
        rw [← hqb] at cb HDS HAK HSTP
        have HK := Lib.hid hk
        clear hS hdn hA hwb hqb hi1 HF HCELL
        go_upto_region 21 with (fail)
        go_cut [144] (fun s wx => s = .bool false ∧ ∃ (r1 : RRack) (M1 : List Nat) (u1 : Nat) (ws1 : Nat → Option RWork) (B1 : Nat → PB), Hid (WP w wx rb bm bw sb nm nw ab bb r1 M1 u1 ws1 B1 n (i + 1)))
        case first =>
          as_aux_lemma =>
          go_region_held3 (fun w' => w'.cell? ⟨ab, k, none⟩ = some (.pointer (some ⟨wb, 0, none⟩)) ∧ w'.cell? ⟨bb, k, none⟩ = some (.pointer (some ⟨qb, 0, none⟩))) (first | assumption | exact ⟨ca, cb⟩ | fail)
            (first
              | (go_at_call 12; refine HST.out.mono ?_; rintro e w2 ⟨rfl, ob', G2, C2, O2⟩; have k2 := HAK.out w2 C2; have S2 := Lib.hid (HDS.out w2 C2); have HG := Lib.hid (And.intro G2 (And.intro C2 O2)); clear G2 C2 O2)
              | (go_at_call 13; refine S2.out.mono ?_; rintro e w3 ⟨rfl, Q3⟩; obtain ⟨B', P3, e1, e2⟩ := HSTP.out w2 w3 ob' HG.out.1 HG.out.2.1 HG.out.2.2 Q3; have HP3 := Lib.hid P3; have HLK := Lib.hid (P3.likeAt HK.out (updQ_same ws k S.2.1)); rw [e1, e2] at HLK; have k3 : w3.cell? ⟨ab, k, none⟩ = some (.pointer (some ⟨wb, 0, none⟩)) ∧ w3.cell? ⟨bb, k, none⟩ = some (.pointer (some ⟨qb, 0, none⟩)) := (by exact ⟨by rw [P3.arr.cell, ptrP_get _ _ _ HK.out, updQ_same, e1]; rfl, by rw [P3.brr.cell, ptrP_get _ _ _ HK.out, updQ_same, e2]; rfl⟩); clear P3 e1 e2 Q3)
              | (go_at_call 11; refine HLK.out.mono ?_; rintro e w4 ⟨rfl, C4⟩; have P4 := Lib.hid (HP3.out.keep C4); have k4 : w4.cell? ⟨ab, k, none⟩ = some (.pointer (some ⟨wb, 0, none⟩)) ∧ w4.cell? ⟨bb, k, none⟩ = some (.pointer (some ⟨qb, 0, none⟩)) := (by obtain ⟨x1, x2⟩ := k3; exact ⟨ckp C4 x1, ckp C4 x2⟩))
              | fail)
          go_wp2_with fail
          go_meet
          exact ⟨rfl, _, _, _, _, _, P4⟩
        case rest =>
        obtain ⟨rfl, r1, M1, u1, ws1, B1, HQ⟩ := hcut
        clear HP HPD HST HDS HSTP HAK ca cb
        have HSE := Lib.hid (wsets_any wc rb r1 HQ.out.rest.rk)
        go_upto_region 24 with (go_at_call 14; refine HSE.out.mono ?_; rintro e w5 ⟨rfl, C5⟩; have HQ5 := Lib.hid (HQ.out.keep C5); clear C5)
        go_cut [192] (fun s wx => s = .bool false ∧ Hid (WP w wx rb bm bw sb nm nw ab bb r1 M1 u1 ws1 B1 n (i + 1)))
        case first =>
          as_aux_lemma =>
          have j0 : w5.cell? ⟨sb, 2, none⟩ = some (.int .u64 (r1.s0 : Nat)) := by rw [Blk.cell HQ5.out.sk]; rfl
          have j1 : w5.cell? ⟨sb, 3, none⟩ = some (.int .u64 (r1.s1 : Nat)) := by rw [Blk.cell HQ5.out.sk]; rfl
          have j2 : w5.cell? ⟨nm, 0, none⟩ = some (.slice (some ⟨nw, 0, none⟩) M1.length M1.length) := HQ5.out.ref.c0
          have j3 : w5.cell? ⟨nm, 1, none⟩ = some (.int .u64 (u1 : Nat)) := HQ5.out.ref.c1
          have HJ := Lib.hid (fun w' (C : Chg [] w5 w') => show w'.cell? ⟨sb, 2, none⟩ = some (.int .u64 (r1.s0 : Nat)) ∧ w'.cell? ⟨sb, 3, none⟩ = some (.int .u64 (r1.s1 : Nat)) ∧ w'.cell? ⟨nm, 0, none⟩ = some (.slice (some ⟨nw, 0, none⟩) M1.length M1.length) ∧ w'.cell? ⟨nm, 1, none⟩ = some (.int .u64 (u1 : Nat)) from ⟨ckp C j0, ckp C j1, ckp C j2, ckp C j3⟩)
          have jj := HJ.out w5 (Chg.refl _ _)
          have hlen := HQ5.out.len
          have HBE := Lib.hid (fun w' (C : Chg [] w5 w') => best_any rb r1 w' (Blk.chg HQ5.out.rest.rk C (by simp)) HQ5.out.rest.ok (HQ5.out.rest.tab.keep C))
          have HQB := Lib.hid (fun w' (C : Chg [] w5 w') => qbest_any sb r1 w' (Blk.chg HQ5.out.sk C (by simp)) HQ5.out.rest.ok)
          have HU := Lib.hid (fun w' (C : Chg [] w5 w') => used_any bm bw M1 u1 w' (HQ5.out.rest.mem.keep C))
          have HPT := Lib.hid (fun w' (C : Chg [] w5 w') => show Calls Tryz.prog 19 #[.pointer (some ⟨bm, 0, none⟩), .int .i64 0, .int .i64 (n : Nat)] w' fun e w'' => ∃ v, e = .returned v ∧ Bosun.Own w'' w'.heap.size 35 v (words M1) ∧ Chg [] w' w'' from by
            have h := part_any bm bw M1 u1 w' (HQ5.out.rest.mem.keep C) 0 (n : Nat) (by omega) (by omega) (by omega) (by have := HN5.out; omega)
            rw [partN_whole M1 n hlen] at h
            exact h)
          have HSM := Lib.hid (fun v v2 (l : List Nat) w' (h : Reads w' v (words l)) (h2 : Reads w' v2 (words l)) => show Calls Tryz.prog 18 #[v, v2] w' fun e w' => e = .returned (.bool true) ∧ Chg [] _ w' from by have h3 := msame_any v v2 l l w' h h2; rw [decide_eq_true rfl] at h3; exact h3)
          have HRWW := Lib.hid (fun w' (C : Chg [] w5 w') => (HQ5.out.ref.row.chg C (by simp)).reads M1.length M1.length (by simp [words_len]) (by simp [words_len, maxLen]; have := HN5.out; omega) (xs := words M1) (by rw [List.take_of_length_le (by simp [words_len])]))
          clear j0 j1 j2 j3 hlen
          go_region_held3 (fun w' => w'.cell? ⟨sb, 2, none⟩ = some (.int .u64 (r1.s0 : Nat)) ∧ w'.cell? ⟨sb, 3, none⟩ = some (.int .u64 (r1.s1 : Nat)) ∧ w'.cell? ⟨nm, 0, none⟩ = some (.slice (some ⟨nw, 0, none⟩) M1.length M1.length) ∧ w'.cell? ⟨nm, 1, none⟩ = some (.int .u64 (u1 : Nat))) (first | assumption | exact jj | fail)
            (first
              | (go_at_call 15; refine (HBE.out _ (Chg.refl [] _).drew).mono ?_; rintro e w6 ⟨rfl, C6⟩; have D6 := C6.undrew; have k6 := HJ.out w6 D6; have QB := Lib.hid (HQB.out w6 D6))
              | (go_at_call 16; refine QB.out.mono ?_; rintro e w7 ⟨rfl, C7⟩; have D7 := D6.trans C7; have k7 := HJ.out w7 D7; have HU7 := Lib.hid (HU.out w7 D7); have HP7 := Lib.hid (HPT.out w7 D7))
              | (go_at_call 17; refine HU7.out.mono ?_; rintro e y ⟨rfl, rfl⟩)
              | (go_at_call 19; refine HP7.out.mono ?_; rintro e w8 ⟨v8, rfl, O8, C8⟩; have D8 := D7.trans C8; have k8 := HJ.out w8 D8; have SA := Lib.hid (HSM.out v8 _ M1 w8 O8.reads (HRWW.out w8 D8)))
              | (go_at_call 18; refine SA.out.mono ?_; clear SA; rintro e w9 ⟨rfl, C9⟩; have D9 := D8.trans C9; have k9 := HJ.out w9 D9)
              | fail)
          go_wp2_with fail
          go_meet
          exact ⟨by first | rfl | simp, Lib.hid (HQ5.out.keep D9)⟩
        case rest =>
        obtain ⟨rfl, HQ6⟩ := hcut
        clear HQ HQ5 HSE
        go_wp2_with fail
        go_roundw
        case rel => exact ⟨i + 1, _, _, _, _, _, by have := HII.out.1; omega, by have := HII.out.2; omega, by go_num, HQ6.out⟩
        case measure => have := HII.out.2; simp [intOf] <;> omega
    · obtain rfl : q = false := by rw [hq]; exact decide_eq_false hkl
      clear hq hkl
      as_aux_lemma =>
      have HPA := Lib.hid (rackall_any wr rb bm bw r M u HP.out.rest.rk HP.out.rest.mem HP.out.rest.ok)
      have HQA := Lib.hid (fun w' (C : Chg [] wr w') => qall_any w' sb nm nw r M u (Blk.chg HP.out.sk C (by simp)) (HP.out.ref.chg C (by simp) (by simp)) HP.out.rest.ok)
      have HSM := Lib.hid (fun v v2 (l : List Nat) w' (h : Reads w' v (words l)) (h2 : Reads w' v2 (words l)) => show Calls Tryz.prog 18 #[v, v2] w' fun e w' => e = .returned (.bool true) ∧ Chg [] _ w' from by have h3 := msame_any v v2 l l w' h h2; rw [decide_eq_true rfl] at h3; exact h3)
      have HAW := Lib.hid (fun w' (C : Chg [] wr w') => awake_any w' (HP.out.rest.tab.keep C))
      clear HCELL HR
      go_wp2_with (first
        | (go_at_call 20; refine HPA.out.mono ?_; rintro e w2 ⟨v2, rfl, O2, C2⟩; have QA := Lib.hid (HQA.out w2 C2))
        | (go_at_call 21; refine QA.out.mono ?_; rintro e w3 ⟨v3, rfl, O3, C3⟩; have D3 := C2.trans C3; have SM := Lib.hid (HSM.out v2 v3 (allR r M) w3 (O2.reads.keep C3) O3.reads))
        | (go_at_call 18; refine SM.out.mono ?_; rintro e w4 ⟨rfl, C4⟩; have D4 := D3.trans C4; have AW := Lib.hid (HAW.out w4 D4))
        | (go_at_call 22; refine (HPW.out _).mono ?_; rintro e y ⟨rfl, rfl⟩)
        | (go_at_call 4; refine (HRW.out _).mono ?_; rintro e y ⟨rfl, rfl⟩)
        | (go_at_call 23; refine AW.out.mono ?_; rintro e w5 ⟨rfl, C5⟩; have D5 := D4.trans C5)
        | fail)
      go_ret
      exact ⟨by first | rfl | exact ret_bool (by simp), HP.out.rest.chg.trans D5⟩
end Go.Proofs.YtjdbgohfedjifaaGreatDoor
