/- plan: the document's Clean, an entry's bytes. -/
import Derived.Test.YtjohbnfeijhcmaaDoorPl9
namespace Bosun
open Go
theorem bytes8_take' (d : Nat) {j : Nat} (h : j < 8) : (bytes8 d).take (j + 1) = (bytes8 d).take j ++ [d / (72057594037927936 / 256 ^ j) % 256] := by
  rw [List.take_add_one]
  congr 1
  match j, h with
  | 0, _ => rfl
  | 1, _ => rfl
  | 2, _ => rfl
  | 3, _ => rfl
  | 4, _ => rfl
  | 5, _ => rfl
  | 6, _ => rfl
  | 7, _ => simp [bytes8]
theorem p8_pos : ∀ j : Fin 8, 0 < 72057594037927936 / 256 ^ j.val := by decide +kernel
theorem qb (d p : Nat) (hd : d < 18446744073709551616) : (IntKind.u64.wrap ((d : Int) / (p : Int))).tmod 256 % 256 = ((d / p % 256 : Nat) : Int) := by
  have h1 : ((d : Int) / (p : Int)) = ((d / p : Nat) : Int) := rfl
  have h2 : d / p ≤ d := Nat.div_le_self _ _
  rw [h1]
  obtain ⟨x, hx⟩ : ∃ x, x = d / p := ⟨_, rfl⟩
  rw [← hx] at h2 ⊢
  clear hx h1
  have h3 : IntKind.u64.wrap (x : Int) = (x : Int) := by rw [IntKind.wrap_u64]; omega
  rw [h3, Int.tmod_eq_emod_of_nonneg (by omega)]
  omega
theorem pb (p : Nat) (h : p ≤ 72057594037927936) : IntKind.u64.wrap ((p : Int) / 256) = ((p / 256 : Nat) : Int) := by
  rw [IntKind.wrap_u64]; omega
theorem p8_succ (j : Nat) : 72057594037927936 / 256 ^ j / 256 = 72057594037927936 / 256 ^ (j + 1) := by rw [Nat.div_div_eq_div_mul, ← Nat.pow_succ]
end Bosun
namespace Go.Proofs.YtjohbnfeijhcmaaDoor
open Go.RowKit Bosun Go.ChangeShapes Go.WideShapes Go.ChangeAt
set_option maxHeartbeats 4000000 in
theorem rclean_any (v : Value) (l : List Ent) (n : Int) (w : World) (hv : ReadsE w v l) (hl : l.length ≤ 10000) :
    Calls Tryd.prog 15 #[v, .int .i64 n] w fun e w' => ∃ u, e = .returned u ∧ OwnE w' w.heap.size 36 u (cln l n) ∧ Chg [] w w' := by
  obtain ⟨ao, cap, rfl, hm, hc⟩ := hv
  rw [List.length_map] at hm ⊢
  unfold maxLen at hm
  have hc := Lib.hid hc
  go_enter Tryd.func15, Tryd.ntmps15
  go_wp2_with fail
  go_loopw [5, 6] (fun x5 x10 wr => ∃ i : Nat, i ≤ l.length ∧ x10 = .int .i64 i ∧ OwnE wr w.heap.size 36 x5 (cln (l.take i) n) ∧ Chg [] w wr) (fun _ x10 _ => l.length - (intOf x10).toNat)
  case atStart => exact ⟨0, by omega, rfl, OwnE.nil _ _ _, Chg.refl _ _⟩
  case round =>
    obtain ⟨i, hi, rfl, hown, C⟩ := hrel
    by_cases hil : i < l.length
    · obtain ⟨g, off, rfl, cg⟩ := hc.out i l[i].cells (by simp [hil])
      have hil2 : (i : Int) < (l.length : Int) := by omega
      have SN := Lib.hid (cln_step l n hil)
      have hcl := cln_len (l.take i) n
      rw [List.length_take] at hcl
      obtain ⟨x, hx⟩ : ∃ x, x = l[i] := ⟨_, rfl⟩
      rw [← hx] at cg SN
      have HG := Lib.hid (fun w => rgood_any x n w)
      obtain ⟨c, t, d⟩ := x
      have l1 : g < w.heap.size := World.block_lt_of_cell? w _ (cg 0 _ rfl)
      have f0 : wr.cell? ⟨g, off + i * 3, none⟩ = some (.int .i64 c) := (World.cell?_of_block (w := w) (C.block g l1 (by simp))).trans (cg 0 _ rfl)
      have f1 : wr.cell? ⟨g, off + i * 3 + 1, none⟩ = some (.bool t) := (World.cell?_of_block (w := w) (C.block g l1 (by simp))).trans (cg 1 _ rfl)
      have f2 : wr.cell? ⟨g, off + i * 3 + 2, none⟩ = some (.int .u64 (d : Nat)) := (World.cell?_of_block (w := w) (C.block g l1 (by simp))).trans (cg 2 _ rfl)
      have HI := Lib.hid hi
      have CG := Lib.hid cg
      clear cg hx hi
      go_wp2_with fail
      refine (HG.out wr).mono ?_
      rintro e w2 ⟨rfl, C2⟩
      have O2 := hown.keep C2
      have CC := C.then C2 (by simp)
      have c0 : w2.cell? ⟨g, off + i * 3, none⟩ = some (.int .i64 c) := (World.cell?_of_block (w := w) (CC.block g l1 (by simp))).trans (CG.out 0 _ rfl)
      have c1 : w2.cell? ⟨g, off + i * 3 + 1, none⟩ = some (.bool t) := (World.cell?_of_block (w := w) (CC.block g l1 (by simp))).trans (CG.out 1 _ rfl)
      have c2 : w2.cell? ⟨g, off + i * 3 + 2, none⟩ = some (.int .u64 (d : Nat)) := (World.cell?_of_block (w := w) (CC.block g l1 (by simp))).trans (CG.out 2 _ rfl)
      have hob := O2.block
      have hwz := Lib.hid CC.size
      clear C2 C hown f0 f1 f2
      by_cases hg : (⟨c, t, d⟩ : Ent).good n
      · rw [decide_eq_true hg]
        have SN2 := Lib.hid (SN.out.trans (by rw [if_pos hg]))
        obtain ⟨E, hE⟩ : ∃ E, E = cln (l.take i) n := ⟨_, rfl⟩
        rw [← hE] at O2 hcl SN2
        have HC := Lib.hid hcl
        clear hg hE SN hcl
        go_wp2_with (refine wpList_appE rfl (.tmp 19) (.tmp 24) 23 rfl w.heap.size 36 (.agg #[.int .i64 0, .bool false, .int .u64 0]) 24 Tryd.underlying23 infoE' rfl _ E rfl (O2.alloc _) w2.heap.size 1 ⟨c, t, d⟩ rfl (Blk.new w2 #[.int .i64 c, .bool t, .int .u64 (d : Nat)] 36) (by have := HC.out; unfold maxLen; omega) (by have := HC.out; omega) (by have := hwz.out; simp; omega) ?_; intro v' w6 O6 C6; have C36 : Chg [] w w6 := (CC.alloc _).then C6 (fun g hg => .inr ((hob g hg).1)))
        exact ⟨⟨i + 1, by omega, by go_num, by rw [SN2.out]; exact O6, C36⟩, by simp [intOf] <;> omega⟩
      · rw [decide_eq_false hg]
        have SN2 := Lib.hid (SN.out.trans (by rw [if_neg hg]))
        rw [List.append_nil] at SN2
        clear hg SN c0 c1 c2 hcl
        go_wp2_with fail
        exact ⟨⟨i + 1, by omega, by go_num, by rw [SN2.out]; exact O2, CC⟩, by simp [intOf] <;> omega⟩
    · obtain rfl : i = l.length := by omega
      rw [List.take_length] at hown
      go_wp2_with fail
      go_ret
      exact ⟨_, rfl, hown, C⟩
theorem oneEnd {w : World} {b : Nat} {u : Value} {l : List Nat} (h : Own w b 5 u (bytesV l)) (h0 : l ≠ []) : ∃ g cap, u = .slice (some ⟨g, 0, none⟩) l.length cap ∧ Own w b 5 (.slice (some ⟨g, 0, none⟩) l.length cap) (bytesV l) := by
  rcases h.2 with ⟨rfl, h1⟩ | ⟨g, cap, cur, rfl, r⟩
  · rw [bytesV_len] at h1; exact absurd (List.eq_nil_of_length_eq_zero h1) h0
  · rw [bytesV_len] at h ⊢
    exact ⟨g, cap, rfl, h⟩
set_option maxHeartbeats 4000000 in
theorem one_any (e : Ent) (w : World) (hg : e.good 64) (hs : e.small) :
    Calls Tryd.prog 25 #[.agg #[.int .i64 e.cpu, .bool e.tick, .int .u64 (e.draw : Nat)]] w fun x w' => ∃ g cap, x = .returned (.slice (some ⟨g, 0, none⟩) (oneE e).length cap) ∧ Own w' w.heap.size 5 (.slice (some ⟨g, 0, none⟩) (oneE e).length cap) (bytesV (oneE e)) ∧ Chg [] w w' := by
  suffices H : Calls Tryd.prog 25 #[.agg #[.int .i64 e.cpu, .bool e.tick, .int .u64 (e.draw : Nat)]] w fun x w' => ∃ u, x = .returned u ∧ Own w' w.heap.size 5 u (bytesV (oneE e)) ∧ Chg [] w w' by
    refine H.mono ?_
    rintro x w' ⟨u, rfl, O, C⟩
    obtain ⟨g, cap, rfl, O2⟩ := oneEnd O (by have := oneE_pos e; intro h; rw [h] at this; simp at this)
    exact ⟨g, cap, rfl, O2, C⟩
  have hlt := headE_lt e hg
  obtain ⟨c, t, d⟩ := e
  have hk : ∃ k : Nat, c = k ∧ k < 64 := ⟨c.toNat, by have := hg.1; simp only at this; omega, by have := hg.1; have := hg.2.2; simp only at *; omega⟩
  obtain ⟨k, rfl, hk⟩ := hk
  have he : headE ⟨(k : Int), t, d⟩ = k + (if t then 64 else 0) := by simp [headE]
  have hd64 : d < 18446744073709551616 := hs
  have OE := Lib.hid (show oneE ⟨(k : Int), t, d⟩ = if d = 0 then [headE ⟨(k : Int), t, d⟩] else (headE ⟨(k : Int), t, d⟩ + 128) :: bytes8 d from rfl)
  clear hg hs
  simp only
  obtain ⟨b, hb⟩ : ∃ b, b = headE ⟨(k : Int), t, d⟩ := ⟨_, rfl⟩
  rw [← hb] at he hlt OE
  clear hb
  go_enter Tryd.func25, Tryd.ntmps25
  cases t
  · obtain rfl : b = k := by simpa using he
    clear he
    go_upto_region 4 with (fail)
    obtain ⟨w1, hw1⟩ : ∃ w1, w1 = w.alloc (.cells #[.int .i64 (b : Nat), .bool false, .int .u64 (d : Nat)] 36) := ⟨_, rfl⟩
    have B1 : Blk w1 w.heap.size #[.int .i64 (b : Nat), .bool false, .int .u64 (d : Nat)] 36 := by rw [hw1]; exact Blk.new w _ _
    have C1 : Chg [] w w1 := by rw [hw1]; exact (Chg.refl _ _).alloc _
    have hwz : w1.heap.size = w.heap.size + 1 := by rw [hw1]; simp
    rw [← hw1]
    obtain ⟨B, hB⟩ : ∃ B, B = w.heap.size := ⟨_, rfl⟩
    rw [← hB] at B1 ⊢
    obtain ⟨cs, hcs⟩ : ∃ cs : Array Value, cs = #[.int .i64 (b : Nat), .bool false, .int .u64 (d : Nat)] := ⟨_, rfl⟩
    have hc2 : cs[2]? = some (.int .u64 (d : Nat)) := by rw [hcs]; rfl
    rw [← hcs] at B1
    have k2 : w1.cell? ⟨B, 2, none⟩ = some (.int .u64 (d : Nat)) := (B1.cell 2).trans hc2
    have HB := Lib.hid hB
    have HW := Lib.hid hwz
    have HD64 := Lib.hid hd64
    clear hw1 hcs hB hwz hd64
    by_cases hd : d = 0
    · rw [if_pos hd] at OE
      have hz : ((d : Int) == 0) = true := by simp [hd]
      have wb : IntKind.u8.wrap (b : Int) = (b : Nat) := by rw [IntKind.wrap_u8]; omega
      have HD := Lib.hid hd
      clear hd
      go_wp2_with fail
      go_ret
      exact ⟨_, rfl, by rw [OE.out]; exact Own.of_blk (Blk.new w1 #[.int .u8 (b : Nat)] 5) (by have := HW.out; have := HB.out; omega) (by simp) (by omega) (by simp [maxLen]) rfl, C1.alloc _⟩
    · rw [if_neg hd] at OE
      have hz : ((d : Int) == 0) = false := by simp; omega
      have wb : IntKind.u8.wrap ((b : Int) + 128) = (b : Int) + 128 := by rw [IntKind.wrap_u8]; omega
      have HD := Lib.hid hd
      clear hd
      go_upto_region 9 with (fail)
      have O2 : Own (w1.alloc (.cells #[.int .u8 ((b : Int) + 128)] 5)) w.heap.size 5 (.slice (some ⟨w1.heap.size, 0, none⟩) 1 1) (bytesV [b + 128]) :=
        Own.of_blk (Blk.new w1 #[.int .u8 ((b : Int) + 128)] 5) (by have := HW.out; have := HB.out; omega) (by simp) (by omega) (by simp [maxLen]) rfl
      have B2 := B1.alloc (.cells #[.int .u8 ((b : Int) + 128)] 5)
      have C2 := C1.alloc (.cells #[.int .u8 ((b : Int) + 128)] 5)
      obtain ⟨u2, hu2⟩ : ∃ u2, u2 = Value.slice (some ⟨w1.heap.size, 0, none⟩) 1 1 := ⟨_, rfl⟩
      obtain ⟨w2, hw2⟩ : ∃ w2, w2 = w1.alloc (.cells #[.int .u8 ((b : Int) + 128)] 5) := ⟨_, rfl⟩
      rw [← hu2, ← hw2] at O2
      rw [← hw2] at B2 C2
      rw [hu2, hw2] at O2
      rw [hw2] at B2 C2
      clear hu2 hw2 k2
      go_loopw [4, 5, 6] (fun x4 x5 x6 wq => ∃ j : Nat, j ≤ 8 ∧ x6 = .int .i64 j ∧ x5 = .int .u64 ((72057594037927936 / 256 ^ j : Nat) : Int) ∧ Own wq w.heap.size 5 x4 (bytesV ((b + 128) :: (bytes8 d).take j)) ∧ Chg [] w wq ∧ Blk wq B cs 36) (fun _ _ x6 _ => 8 - (intOf x6).toNat)
      case atStart => exact ⟨0, by omega, rfl, rfl, O2, C2, B2⟩
      case round =>
        obtain ⟨j, hj, rfl, rfl, hown, CQ, BQ⟩ := hrel
        by_cases hj8 : j < 8
        · have q2 : wr.cell? ⟨B, 2, none⟩ = some (.int .u64 (d : Nat)) := (BQ.cell 2).trans hc2
          have hj8i : (j : Int) < 8 := by omega
          have hpp := p8_pos ⟨j, hj8⟩
          simp only at hpp
          have T8 := Lib.hid (bytes8_take' d hj8)
          have PS := Lib.hid (p8_succ j)
          obtain ⟨p, hp⟩ : ∃ p, p = 72057594037927936 / 256 ^ j := ⟨_, rfl⟩
          rw [← hp] at hpp T8 PS ⊢
          have hp0 : ¬ (p : Int) = 0 := by omega
          have hp0' : ((p : Int) == 0) = false := by simp; omega
          have hwrap : IntKind.u8.wrap ((d : Int) / (p : Int) % 256) = ((d / p % 256 : Nat) : Int) := by rw [IntKind.wrap_u8]; omega
          have hob := hown.block
          have NB := hown.ne_blk BQ (by decide)
          have hzq := CQ.size
          have hL : (bytesV ((b + 128) :: (bytes8 d).take j)).length ≤ 9 := by
            rw [bytesV_len, List.length_cons, List.length_take]; omega
          obtain ⟨L, hLe⟩ : ∃ L, L = (b + 128) :: (bytes8 d).take j := ⟨_, rfl⟩
          rw [← hLe] at hown hL
          have HL := Lib.hid hLe
          have HPL := Lib.hid (show p ≤ 72057594037927936 by rw [hp]; exact Nat.div_le_self _ _)
          clear hLe hp hj8
          go_upto_region 11 with (fail)
          go_wp2_with (refine wpList_app1 rfl (.tmp 27) (.tmp 34) 22 rfl w.heap.size 5 (.int .u8 0) 1 Tryd.underlying22 infoU8' rfl _ _ rfl (hown.alloc _) wr.heap.size 1 _ rfl ((Blk.new wr #[_] 5).cell 0) rfl (by unfold maxLen; omega) (by omega) (by simp; omega) ?_)
          intro v' w7 O7 C7
          rw [qb d p HD64.out] at O7
          have C37 : Chg [] w w7 := (CQ.alloc _).then C7 (fun g hg => .inr ((hob g hg).1))
          have B7 := (BQ.alloc _).chg C7 (fun hm => NB (by simpa using hm))
          clear q2
          go_wp2_with fail
          refine ⟨⟨j + 1, by omega, by go_num, by rw [pb p HPL.out, PS.out], ?_, C37, B7⟩, by simp only [intOf]; omega⟩
          rw [T8.out]
          rw [HL.out] at O7
          simpa [bytesV] using O7
        · obtain rfl : j = 8 := by omega
          rw [show (bytes8 d).take 8 = bytes8 d by simp [bytes8]] at hown
          go_wp2_with fail
          go_ret
          exact ⟨_, rfl, by rw [OE.out]; exact hown, CQ⟩
  · have hbk : b = k + 64 := by simpa using he
    clear he
    go_upto_region 4 with (fail)
    rw [show (k : Int) + 64 = (b : Int) by omega]
    have HBK := Lib.hid hbk
    clear hbk
    obtain ⟨w1, hw1⟩ : ∃ w1, w1 = w.alloc (.cells #[.int .i64 (k : Nat), .bool true, .int .u64 (d : Nat)] 36) := ⟨_, rfl⟩
    have B1 : Blk w1 w.heap.size #[.int .i64 (k : Nat), .bool true, .int .u64 (d : Nat)] 36 := by rw [hw1]; exact Blk.new w _ _
    have C1 : Chg [] w w1 := by rw [hw1]; exact (Chg.refl _ _).alloc _
    have hwz : w1.heap.size = w.heap.size + 1 := by rw [hw1]; simp
    rw [← hw1]
    obtain ⟨B, hB⟩ : ∃ B, B = w.heap.size := ⟨_, rfl⟩
    rw [← hB] at B1 ⊢
    obtain ⟨cs, hcs⟩ : ∃ cs : Array Value, cs = #[.int .i64 (k : Nat), .bool true, .int .u64 (d : Nat)] := ⟨_, rfl⟩
    have hc2 : cs[2]? = some (.int .u64 (d : Nat)) := by rw [hcs]; rfl
    rw [← hcs] at B1
    have k2 : w1.cell? ⟨B, 2, none⟩ = some (.int .u64 (d : Nat)) := (B1.cell 2).trans hc2
    have HB := Lib.hid hB
    have HW := Lib.hid hwz
    have HD64 := Lib.hid hd64
    clear hw1 hcs hB hwz hd64
    by_cases hd : d = 0
    · rw [if_pos hd] at OE
      have hz : ((d : Int) == 0) = true := by simp [hd]
      have wb : IntKind.u8.wrap (b : Int) = (b : Nat) := by rw [IntKind.wrap_u8]; omega
      have HD := Lib.hid hd
      clear hd
      go_wp2_with fail
      go_ret
      exact ⟨_, rfl, by rw [OE.out]; exact Own.of_blk (Blk.new w1 #[.int .u8 (b : Nat)] 5) (by have := HW.out; have := HB.out; omega) (by simp) (by omega) (by simp [maxLen]) rfl, C1.alloc _⟩
    · rw [if_neg hd] at OE
      have hz : ((d : Int) == 0) = false := by simp; omega
      have wb : IntKind.u8.wrap ((b : Int) + 128) = (b : Int) + 128 := by rw [IntKind.wrap_u8]; omega
      have HD := Lib.hid hd
      clear hd
      go_upto_region 9 with (fail)
      have O2 : Own (w1.alloc (.cells #[.int .u8 ((b : Int) + 128)] 5)) w.heap.size 5 (.slice (some ⟨w1.heap.size, 0, none⟩) 1 1) (bytesV [b + 128]) :=
        Own.of_blk (Blk.new w1 #[.int .u8 ((b : Int) + 128)] 5) (by have := HW.out; have := HB.out; omega) (by simp) (by omega) (by simp [maxLen]) rfl
      have B2 := B1.alloc (.cells #[.int .u8 ((b : Int) + 128)] 5)
      have C2 := C1.alloc (.cells #[.int .u8 ((b : Int) + 128)] 5)
      obtain ⟨u2, hu2⟩ : ∃ u2, u2 = Value.slice (some ⟨w1.heap.size, 0, none⟩) 1 1 := ⟨_, rfl⟩
      obtain ⟨w2, hw2⟩ : ∃ w2, w2 = w1.alloc (.cells #[.int .u8 ((b : Int) + 128)] 5) := ⟨_, rfl⟩
      rw [← hu2, ← hw2] at O2
      rw [← hw2] at B2 C2
      rw [hu2, hw2] at O2
      rw [hw2] at B2 C2
      clear hu2 hw2 k2
      go_loopw [4, 5, 6] (fun x4 x5 x6 wq => ∃ j : Nat, j ≤ 8 ∧ x6 = .int .i64 j ∧ x5 = .int .u64 ((72057594037927936 / 256 ^ j : Nat) : Int) ∧ Own wq w.heap.size 5 x4 (bytesV ((b + 128) :: (bytes8 d).take j)) ∧ Chg [] w wq ∧ Blk wq B cs 36) (fun _ _ x6 _ => 8 - (intOf x6).toNat)
      case atStart => exact ⟨0, by omega, rfl, rfl, O2, C2, B2⟩
      case round =>
        obtain ⟨j, hj, rfl, rfl, hown, CQ, BQ⟩ := hrel
        by_cases hj8 : j < 8
        · have q2 : wr.cell? ⟨B, 2, none⟩ = some (.int .u64 (d : Nat)) := (BQ.cell 2).trans hc2
          have hj8i : (j : Int) < 8 := by omega
          have hpp := p8_pos ⟨j, hj8⟩
          simp only at hpp
          have T8 := Lib.hid (bytes8_take' d hj8)
          have PS := Lib.hid (p8_succ j)
          obtain ⟨p, hp⟩ : ∃ p, p = 72057594037927936 / 256 ^ j := ⟨_, rfl⟩
          rw [← hp] at hpp T8 PS ⊢
          have hp0 : ¬ (p : Int) = 0 := by omega
          have hp0' : ((p : Int) == 0) = false := by simp; omega
          have hwrap : IntKind.u8.wrap ((d : Int) / (p : Int) % 256) = ((d / p % 256 : Nat) : Int) := by rw [IntKind.wrap_u8]; omega
          have hob := hown.block
          have NB := hown.ne_blk BQ (by decide)
          have hzq := CQ.size
          have hL : (bytesV ((b + 128) :: (bytes8 d).take j)).length ≤ 9 := by
            rw [bytesV_len, List.length_cons, List.length_take]; omega
          obtain ⟨L, hLe⟩ : ∃ L, L = (b + 128) :: (bytes8 d).take j := ⟨_, rfl⟩
          rw [← hLe] at hown hL
          have HL := Lib.hid hLe
          have HPL := Lib.hid (show p ≤ 72057594037927936 by rw [hp]; exact Nat.div_le_self _ _)
          clear hLe hp hj8
          go_upto_region 11 with (fail)
          go_wp2_with (refine wpList_app1 rfl (.tmp 27) (.tmp 34) 22 rfl w.heap.size 5 (.int .u8 0) 1 Tryd.underlying22 infoU8' rfl _ _ rfl (hown.alloc _) wr.heap.size 1 _ rfl ((Blk.new wr #[_] 5).cell 0) rfl (by unfold maxLen; omega) (by omega) (by simp; omega) ?_)
          intro v' w7 O7 C7
          rw [qb d p HD64.out] at O7
          have C37 : Chg [] w w7 := (CQ.alloc _).then C7 (fun g hg => .inr ((hob g hg).1))
          have B7 := (BQ.alloc _).chg C7 (fun hm => NB (by simpa using hm))
          clear q2
          go_wp2_with fail
          refine ⟨⟨j + 1, by omega, by go_num, by rw [pb p HPL.out, PS.out], ?_, C37, B7⟩, by simp only [intOf]; omega⟩
          rw [T8.out]
          rw [HL.out] at O7
          simpa [bytesV] using O7
        · obtain rfl : j = 8 := by omega
          rw [show (bytes8 d).take 8 = bytes8 d by simp [bytes8]] at hown
          go_wp2_with fail
          go_ret
          exact ⟨_, rfl, by rw [OE.out]; exact hown, CQ⟩
end Go.Proofs.YtjohbnfeijhcmaaDoor
