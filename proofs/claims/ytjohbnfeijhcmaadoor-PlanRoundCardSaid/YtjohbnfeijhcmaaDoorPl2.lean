/- plan: Encode. -/
import Derived.Test.YtjohbnfeijhcmaaDoorPl1
import Derived.Deep.DeepCutAuto
namespace Bosun
open Go
def bytesV (l : List Nat) : List Value := l.map fun (b : Nat) => .int .u8 b
theorem bytesV_len (l : List Nat) : (bytesV l).length = l.length := by simp [bytesV]
theorem Own.ne_blk {w : World} {v : Value} {xs : List Value} {b g : Nat} {e t : TypeId} {cs : Array Value} (h : Own w b e v xs) (hg : Blk w g cs t) (ht : t ≠ e) : v.ownBlock ≠ some g := by
  intro he
  rcases h.2 with ⟨rfl, _⟩ | ⟨g', cap, cur, rfl, _, hg', _⟩
  · cases he
  · obtain rfl : g' = g := by simpa [Value.ownBlock] using he
    exact ht (hg.inj hg').2
theorem bits_64 : ∀ k : Fin 64, bits BinOp.or .u8 (k.val : Int) 64 = ((k.val + 64 : Nat) : Int) := by decide +kernel
theorem bits_128 : ∀ k : Fin 128, bits BinOp.or .u8 (k.val : Int) 128 = ((k.val + 128 : Nat) : Int) := by decide +kernel
theorem bytes8_take (d : Nat) {j : Nat} (h : j < 8) : (bytes8 d).take (j + 1) = (bytes8 d).take j ++ [d / 2 ^ (8 * (7 - j)) % 256] := by
  rw [List.take_add_one]
  congr 1
  match j, h with
  | 0, _ => rfl
  | 1, _ => rfl
  | 2, _ => rfl
  | 3, _ => rfl
  | 4, _ => rfl
  | 5, _ => rfl
  | 6, _ => rfl
  | 7, _ => simp [bytes8]
theorem headE_lt (e : Ent) (h : e.good 64) : headE e < 128 := by unfold headE; have := h.2.2; split <;> omega
theorem encE_snoc (l : List Ent) {i : Nat} (h : i < l.length) : encE (l.take (i + 1)) = encE (l.take i) ++ oneE l[i] := by
  unfold encE; rw [List.take_add_one, List.flatMap_append, List.getElem?_eq_getElem h]; simp
theorem oneE_len (e : Ent) : (oneE e).length ≤ 9 := by unfold oneE bytes8; split <;> simp
theorem encE_len (l : List Ent) : (encE l).length ≤ 9 * l.length := by
  unfold encE
  induction l with
  | nil => simp
  | cons e l ih => rw [List.flatMap_cons, List.length_append]; have := oneE_len e; simp only [List.length_cons]; omega
end Bosun
namespace Go.Proofs.YtjohbnfeijhcmaaDoor
open Go.RowKit Bosun
theorem infoU8' : (Tryd.prog.info? 5).map (fun i => (i.zero, i.size, i.bytes)) = some (some (.int .u8 0), 1, 1) := by kernel_rfl
set_option maxHeartbeats 4000000 in
theorem encode_any (v : Value) (l : List Ent) (w : World) (hv : ReadsE w v l) (hl : l.length ≤ 1000) (hg : ∀ e ∈ l, e.good 64 ∧ e.small) :
    Calls Tryd.prog 8 #[v] w fun e w' => ∃ u, e = .returned (.tuple #[u, .int .i64 0]) ∧ Own w' w.heap.size 5 u (bytesV (encE l)) ∧ Chg [] w w' := by
  obtain ⟨ao, cap, rfl, hm, hc⟩ := hv
  rw [List.length_map] at hm ⊢
  unfold maxLen at hm
  have hc := Lib.hid hc
  have hg := Lib.hid hg
  go_enter Tryd.func8, Tryd.ntmps8
  have hbig : decide (1048576 < (l.length : Int)) = false := by simp; omega
  go_wp2_with fail
  go_loopw [4, 14] (fun x4 x14 wr => ∃ i : Nat, i ≤ l.length ∧ x14 = .int .i64 i ∧ Own wr w.heap.size 5 x4 (bytesV (encE (l.take i))) ∧ Chg [] w wr) (fun _ x14 _ => l.length - (intOf x14).toNat)
  case atStart => exact ⟨0, by omega, rfl, Own.nil _ _ _, Chg.refl _ _⟩
  case round =>
    obtain ⟨i, hi, rfl, hown, C⟩ := hrel
    by_cases hil : i < l.length
    · obtain ⟨g, off, rfl, cg⟩ := hc.out i l[i].cells (by simp [hil])
      obtain ⟨G1, G2⟩ := hg.out _ (List.getElem_mem hil)
      have hil2 : (i : Int) < (l.length : Int) := by omega
      obtain ⟨x, hx⟩ : ∃ x, x = l[i] := ⟨_, rfl⟩
      rw [← hx] at cg G1 G2
      have HX := Lib.hid hx
      have HG := Lib.hid (fun w => good_any x 64 w)
      rw [decide_eq_true G1] at HG
      obtain ⟨c, t, d⟩ := x
      have l1 : g < w.heap.size := World.block_lt_of_cell? w _ (cg 0 _ rfl)
      have f0 : wr.cell? ⟨g, off + i * 3, none⟩ = some (.int .i64 c) := (World.cell?_of_block (w := w) (C.block g l1 (by simp))).trans (cg 0 _ rfl)
      have f1 : wr.cell? ⟨g, off + i * 3 + 1, none⟩ = some (.bool t) := (World.cell?_of_block (w := w) (C.block g l1 (by simp))).trans (cg 1 _ rfl)
      have f2 : wr.cell? ⟨g, off + i * 3 + 2, none⟩ = some (.int .u64 (d : Nat)) := (World.cell?_of_block (w := w) (C.block g l1 (by simp))).trans (cg 2 _ rfl)
      clear cg hx
      have hk : ∃ k : Nat, c = k ∧ k < 64 := ⟨c.toNat, by have := G1.1; simp only at this; omega, by have := G1.1; have := G1.2.2; simp only at *; omega⟩
      obtain ⟨k, rfl, hk⟩ := hk
      have wk : IntKind.u8.wrap (k : Int) = (k : Nat) := by rw [IntKind.wrap_u8]; omega
      go_wp2_with fail
      obtain ⟨w1, hw1⟩ : ∃ w1, w1 = wr.alloc (.cells #[.int .i64 (k : Nat), .bool t, .int .u64 (d : Nat)] 36) := ⟨_, rfl⟩
      have B1 : Blk w1 wr.heap.size #[.int .i64 (k : Nat), .bool t, .int .u64 (d : Nat)] 36 := by rw [hw1]; exact Blk.new wr _ _
      have C1 : Chg [] w w1 := by rw [hw1]; exact C.alloc _
      have O1 := hown.alloc (.cells #[.int .i64 (k : Nat), .bool t, .int .u64 (d : Nat)] 36)
      rw [← hw1] at O1 ⊢
      obtain ⟨B, hB⟩ : ∃ B, B = wr.heap.size := ⟨_, rfl⟩
      rw [← hB] at B1 ⊢
      have HB := Lib.hid hB
      clear hown f0 f1 f2 hw1 hB
      refine (HG.out w1).mono ?_
      rintro e w2 ⟨rfl, C2⟩
      have B2 := B1.chg C2 (by simp)
      have O2 := O1.keep C2
      have CC := C1.then C2 (by simp)
      have c0 : w2.cell? ⟨B, 0, none⟩ = some (.int .i64 (k : Nat)) := B2.cell 0
      have c1 : w2.cell? ⟨B, 1, none⟩ = some (.bool t) := B2.cell 1
      have c2 : w2.cell? ⟨B, 2, none⟩ = some (.int .u64 (d : Nat)) := B2.cell 2
      clear C2 B1 O1 C1
      have he : headE ⟨(k : Int), t, d⟩ = k + (if t then 64 else 0) := by simp [headE]
      have hlt := headE_lt _ G1
      have b64 := bits_64 ⟨k, hk⟩
      simp only at b64
      have SN := Lib.hid (encE_snoc l hil)
      rw [← HX.out] at SN
      have hlen := encE_len (l.take i)
      rw [List.length_take] at hlen
      have OE := Lib.hid (show oneE ⟨(k : Int), t, d⟩ = if d = 0 then [headE ⟨(k : Int), t, d⟩] else (headE ⟨(k : Int), t, d⟩ + 128) :: bytes8 d from rfl)
      obtain ⟨b, hb⟩ : ∃ b, b = headE ⟨(k : Int), t, d⟩ := ⟨_, rfl⟩
      rw [← hb] at he hlt OE
      clear hb G1 G2
      obtain ⟨E, hE⟩ : ∃ E, E = encE (l.take i) := ⟨_, rfl⟩
      rw [← hE] at O2 SN hlen
      clear hE
      have hob := O2.block
      have hwz := CC.size
      by_cases hd : d = 0
      · subst hd
        rw [if_pos rfl] at OE
        cases t
        · obtain rfl : b = k := by simpa using he
          clear he
          go_wp2_with (refine wpList_app1 rfl (.tmp 31) (.tmp 33) 22 rfl w.heap.size 5 (.int .u8 0) 1 Tryd.underlying22 infoU8' rfl _ _ rfl (O2.alloc _) w2.heap.size 1 (.int .u8 (b : Nat)) rfl ((Blk.new w2 #[.int .u8 (b : Nat)] 5).cell 0) rfl (by rw [bytesV_len]; unfold maxLen; omega) (by rw [bytesV_len]; omega) (by simp; omega) ?_; intro v' w6 O6 C6; have C36 : Chg [] w w6 := (CC.alloc _).then C6 (fun g hg => .inr ((hob g hg).1)))
          refine ⟨⟨i + 1, by omega, by go_num, by rw [SN.out, OE.out]; simpa [bytesV] using O6, C36⟩, ?_⟩
          simp [intOf] <;> omega
        · obtain rfl : b = k + 64 := by simpa using he
          clear he
          go_wp2_with (refine wpList_app1 rfl (.tmp 31) (.tmp 33) 22 rfl w.heap.size 5 (.int .u8 0) 1 Tryd.underlying22 infoU8' rfl _ _ rfl (O2.alloc _) w2.heap.size 1 (.int .u8 ((k + 64 : Nat) : Int)) rfl ((Blk.new w2 #[.int .u8 ((k + 64 : Nat) : Int)] 5).cell 0) rfl (by rw [bytesV_len]; unfold maxLen; omega) (by rw [bytesV_len]; omega) (by simp; omega) ?_; intro v' w6 O6 C6; have C36 : Chg [] w w6 := (CC.alloc _).then C6 (fun g hg => .inr ((hob g hg).1)))
          refine ⟨⟨i + 1, by omega, by go_num, by rw [SN.out, OE.out]; simpa [bytesV] using O6, C36⟩, ?_⟩
          simp [intOf] <;> omega
      · rw [if_neg hd] at OE
        have hz : ((d : Int) == 0) = false := by simp; omega
        have b128 := bits_128 ⟨b, hlt⟩
        simp only at b128
        cases t
        · obtain rfl : b = k := by simpa using he
          clear he
          have NB := O2.ne_blk B2 (by decide)
          go_upto_region 14 with (fail)
          go_wp2_with (refine wpList_app1 rfl (.tmp 35) (.tmp 38) 22 rfl w.heap.size 5 (.int .u8 0) 1 Tryd.underlying22 infoU8' rfl _ _ rfl (O2.alloc _) w2.heap.size 1 (.int .u8 ((b : Int) + 128)) rfl ((Blk.new w2 #[.int .u8 ((b : Int) + 128)] 5).cell 0) rfl (by rw [bytesV_len]; unfold maxLen; omega) (by rw [bytesV_len]; omega) (by simp; omega) ?_)
          intro v' w6 O6 C6
          have B6 := (B2.alloc (.cells #[.int .u8 ((b : Int) + 128)] 5)).chg C6 (fun hm => NB (by simpa using hm))
          have C36 : Chg [] w w6 := (CC.alloc _).then C6 (fun g hg => .inr ((hob g hg).1))
          clear c0 c1 c2
          go_wp2_with fail
          go_loopw [4, 8] (fun x4 x8 wq => ∃ j : Nat, j ≤ 8 ∧ x8 = .int .i64 (7 - (j : Int)) ∧ Own wq w.heap.size 5 x4 (bytesV (E ++ (b + 128) :: (bytes8 d).take j)) ∧ Chg [] w wq ∧ Blk wq B #[.int .i64 (b : Nat), .bool false, .int .u64 (d : Nat)] 36) (fun _ x8 _ => (intOf x8 + 1).toNat)
          case atStart => exact ⟨0, by omega, rfl, by simpa [bytesV] using O6, C36, B6⟩
          case round =>
            obtain ⟨j, hj, rfl, hownq, CQ, BQ⟩ := hrel
            by_cases hj8 : j < 8
            · have q2 : wr.cell? ⟨B, 2, none⟩ = some (.int .u64 (d : Nat)) := BQ.cell 2
              have w8 : wrap64 (8 * (7 - (j : Int))) = 8 * (7 - (j : Int)) := IntWalk.wrap64_in _ (by omega)
              have hob2 := hownq.block
              have NB2 := hownq.ne_blk BQ (by decide)
              have hzq := CQ.size
              have T8 := Lib.hid (bytes8_take d hj8)
              have hL : (bytesV (E ++ (b + 128) :: (bytes8 d).take j)).length ≤ 9 * min i l.length + 9 := by
                rw [bytesV_len, List.length_append, List.length_cons, List.length_take]; omega
              obtain ⟨L, hLe⟩ : ∃ L, L = E ++ (b + 128) :: (bytes8 d).take j := ⟨_, rfl⟩
              rw [← hLe] at hownq hL
              have HL := Lib.hid hLe
              clear hLe
              go_upto_region 18 with (fail)
              go_wp2_with (refine wpList_app1 rfl (.tmp 44) (.tmp 51) 22 rfl w.heap.size 5 (.int .u8 0) 1 Tryd.underlying22 infoU8' rfl _ _ rfl (hownq.alloc _) wr.heap.size 1 _ rfl ((Blk.new wr #[_] 5).cell 0) rfl (by unfold maxLen; omega) (by omega) (by simp; omega) ?_)
              intro v' w7 O7 C7
              have B7 := (BQ.alloc _).chg C7 (fun hm => NB2 (by simpa using hm))
              have C37 : Chg [] w w7 := (CQ.alloc _).then C7 (fun g hg => .inr ((hob2 g hg).1))
              go_wp2_with fail
              refine ⟨⟨j + 1, by omega, by congr 1; omega, ?_, C37, B7⟩, by simp only [intOf]; omega⟩
              rw [T8.out]
              rw [HL.out] at O7
              simpa [bytesV] using O7
            · obtain rfl : j = 8 := by omega
              have t8 : (bytes8 d).take 8 = bytes8 d := by simp [bytes8]
              rw [t8] at hownq
              go_wp2_with fail
              exact ⟨⟨i + 1, by omega, by go_num, by rw [SN.out, OE.out]; exact hownq, CQ⟩, by simp [intOf] <;> omega⟩
        · obtain rfl : b = k + 64 := by simpa using he
          clear he
          have b129 : bits BinOp.or .u8 ((k : Int) + 64) 128 = (k : Int) + 64 + 128 := b128
          clear b128
          have NB := O2.ne_blk B2 (by decide)
          go_upto_region 14 with (fail)
          go_wp2_with (refine wpList_app1 rfl (.tmp 35) (.tmp 38) 22 rfl w.heap.size 5 (.int .u8 0) 1 Tryd.underlying22 infoU8' rfl _ _ rfl (O2.alloc _) w2.heap.size 1 (.int .u8 ((k : Int) + 64 + 128)) rfl ((Blk.new w2 #[.int .u8 ((k : Int) + 64 + 128)] 5).cell 0) rfl (by rw [bytesV_len]; unfold maxLen; omega) (by rw [bytesV_len]; omega) (by simp; omega) ?_)
          intro v' w6 O6 C6
          have B6 := (B2.alloc (.cells #[.int .u8 ((k : Int) + 64 + 128)] 5)).chg C6 (fun hm => NB (by simpa using hm))
          have C36 : Chg [] w w6 := (CC.alloc _).then C6 (fun g hg => .inr ((hob g hg).1))
          clear c0 c1 c2
          go_wp2_with fail
          go_loopw [4, 8] (fun x4 x8 wq => ∃ j : Nat, j ≤ 8 ∧ x8 = .int .i64 (7 - (j : Int)) ∧ Own wq w.heap.size 5 x4 (bytesV (E ++ (k + 64 + 128) :: (bytes8 d).take j)) ∧ Chg [] w wq ∧ Blk wq B #[.int .i64 (k : Nat), .bool true, .int .u64 (d : Nat)] 36) (fun _ x8 _ => (intOf x8 + 1).toNat)
          case atStart => exact ⟨0, by omega, rfl, by simpa [bytesV] using O6, C36, B6⟩
          case round =>
            obtain ⟨j, hj, rfl, hownq, CQ, BQ⟩ := hrel
            by_cases hj8 : j < 8
            · have q2 : wr.cell? ⟨B, 2, none⟩ = some (.int .u64 (d : Nat)) := BQ.cell 2
              have w8 : wrap64 (8 * (7 - (j : Int))) = 8 * (7 - (j : Int)) := IntWalk.wrap64_in _ (by omega)
              have hob2 := hownq.block
              have NB2 := hownq.ne_blk BQ (by decide)
              have hzq := CQ.size
              have T8 := Lib.hid (bytes8_take d hj8)
              have hL : (bytesV (E ++ (k + 64 + 128) :: (bytes8 d).take j)).length ≤ 9 * min i l.length + 9 := by
                rw [bytesV_len, List.length_append, List.length_cons, List.length_take]; omega
              obtain ⟨L, hLe⟩ : ∃ L, L = E ++ (k + 64 + 128) :: (bytes8 d).take j := ⟨_, rfl⟩
              rw [← hLe] at hownq hL
              have HL := Lib.hid hLe
              clear hLe
              go_upto_region 18 with (fail)
              go_wp2_with (refine wpList_app1 rfl (.tmp 44) (.tmp 51) 22 rfl w.heap.size 5 (.int .u8 0) 1 Tryd.underlying22 infoU8' rfl _ _ rfl (hownq.alloc _) wr.heap.size 1 _ rfl ((Blk.new wr #[_] 5).cell 0) rfl (by unfold maxLen; omega) (by omega) (by simp; omega) ?_)
              intro v' w7 O7 C7
              have B7 := (BQ.alloc _).chg C7 (fun hm => NB2 (by simpa using hm))
              have C37 : Chg [] w w7 := (CQ.alloc _).then C7 (fun g hg => .inr ((hob2 g hg).1))
              go_wp2_with fail
              refine ⟨⟨j + 1, by omega, by congr 1; omega, ?_, C37, B7⟩, by simp only [intOf]; omega⟩
              rw [T8.out]
              rw [HL.out] at O7
              simpa [bytesV] using O7
            · obtain rfl : j = 8 := by omega
              have t8 : (bytes8 d).take 8 = bytes8 d := by simp [bytes8]
              rw [t8] at hownq
              go_wp2_with fail
              exact ⟨⟨i + 1, by omega, by go_num, by rw [SN.out, OE.out]; exact hownq, CQ⟩, by simp [intOf] <;> omega⟩
    · obtain rfl : i = l.length := by omega
      rw [List.take_length] at hown
      go_wp2_with fail
      go_ret2
      exact ⟨_, rfl, hown, C⟩
end Go.Proofs.YtjohbnfeijhcmaaDoor
