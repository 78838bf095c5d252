/- plan: the document's Decode. -/
import Derived.Test.YtjohbnfeijhcmaaDoorPl4
import Derived.BigRegion
namespace Go.Proofs.YtjohbnfeijhcmaaDoor
open Go.RowKit Bosun Go.ChangeShapes Go.WideShapes Go.ChangeAt
theorem rq63 : ∀ k : Fin 256, IntKind.i64.wrap ((k.val : Int).tmod 64) = ((k.val % 64 : Nat) : Int) := by decide +kernel
theorem rt64 : ∀ k : Fin 256, ((IntKind.u8.wrap ((k.val : Int) / 64)).tmod 2 == 1) = decide (k.val / 64 % 2 = 1) := by decide +kernel
theorem sumB (N c : Nat) (hN : N < 72057594037927936) (hc : c < 256) : IntKind.u64.wrap (IntKind.u64.wrap ((N : Int) * 256) + IntKind.u64.wrap (c : Int)) = ((N * 256 + c : Nat) : Int) := by
  simp only [IntKind.wrap_u64]; omega
theorem cell_ad {w : World} {a : Addr} {v : Value} {o : Obj} (h : w.cell? a = some v) : (w.alloc o).drew.cell? a = some v := by
  rw [← h]
  exact World.cell?_of_block (w := w) (Below.heap_alloc _ _ _ (World.block_lt_of_cell? w _ h))
theorem cell_a {w : World} {a : Addr} {v : Value} {o : Obj} (h : w.cell? a = some v) : (w.alloc o).cell? a = some v := by
  rw [← h]
  exact World.cell?_of_block (w := w) (Below.heap_alloc _ _ _ (World.block_lt_of_cell? w _ h))
set_option maxRecDepth 4000 in
set_option maxHeartbeats 4000000 in
theorem rdecode_any (v : Value) (bs : List Nat) (w : World) (hr : Reads w v (bytesV bs)) (hb : ∀ x ∈ bs, x < 256) (hl : bs.length ≤ 10000) :
    Calls Tryd.prog 10 #[v] w fun e w' => ∃ u, e = .returned u ∧ OwnE w' w.heap.size 36 u (dec bs) ∧ Chg [] w w' := by
  obtain ⟨ao, cap, rfl, hm, hcell⟩ := hr
  rw [bytesV_len] at hm ⊢
  unfold maxLen at hm
  have hc := Lib.hid hcell
  have HBB := Lib.hid hb
  clear hcell hb
  go_enter Tryd.func10, Tryd.ntmps10
  go_wp2_with fail
  go_loopw [3, 4] (fun x3 x4 wr => ∃ (done : List Ent) (i : Nat) (gx : Option Addr) (capx : Nat), x3 = .slice gx done.length capx ∧ x4 = .int .i64 i ∧ i ≤ bs.length ∧ done.length ≤ i ∧ dec bs = done ++ dec (bs.drop i) ∧ OwnE wr w.heap.size 36 (.slice gx done.length capx) done ∧ Chg [] w wr) (fun _ x4 _ => bs.length - (intOf x4).toNat)
  case atStart => exact ⟨[], 0, none, 0, rfl, rfl, by omega, by simp, rfl, OwnE.nil _ _ _, Chg.refl _ _⟩
  case round =>
    obtain ⟨done, i, gx, capx, rfl, rfl, hi, hdi, hd, hown, C⟩ := hrel
    have hob := hown.block
    have hwz := C.size
    by_cases hil : i < bs.length
    · obtain ⟨f, hf⟩ : ∃ f, f = bs[i] := ⟨_, rfl⟩
      obtain ⟨g, off, rfl, hcq⟩ := hc.out i (.int .u8 f) (by simp [bytesV, hf, hil])
      have hcq : wr.cell? ⟨g, off + i, none⟩ = some (.int .u8 f) := (World.cell?_of_block (w := w) (C.block g (World.block_lt_of_cell? w _ hcq) (by simp))).trans hcq
      have hf256 : f < 256 := HBB.out f (by rw [hf]; exact List.getElem_mem _)
      have HS := Lib.hid (show bs.drop i = f :: bs.drop (i + 1) by rw [hf]; exact (List.drop_eq_getElem_cons hil))
      have HD := Lib.hid hd
      have hili : (i : Int) < (bs.length : Int) := by omega
      have hi0 : (0 : Int) ≤ (i : Int) := by omega
      have hdn : (done.length : Int) < 1048576 := by omega
      obtain ⟨q, hq⟩ : ∃ q, q = f % 64 := ⟨_, rfl⟩
      obtain ⟨t, ht⟩ : ∃ t, t = decide (f / 64 % 2 = 1) := ⟨_, rfl⟩
      have HQ := Lib.hid hq
      have HT := Lib.hid ht
      have HL := Lib.hid (And.intro hl (And.intro hdi hwz))
      clear hq ht hd hf
      go_upto_region 5 with (fail)
      go_region_held3 (fun w' => w'.cell? ⟨g, off + i, none⟩ = some (.int .u8 f)) (first | assumption | exact cell_ad (by assumption) | exact cell_a (by assumption) | fail) (fail)
      have e63 := rq63 ⟨f, hf256⟩
      have e64 := rt64 ⟨f, hf256⟩
      simp only at e63 e64
      rw [← HQ.out] at e63
      rw [← HT.out] at e64
      rw [e63, e64]
      clear e63 e64
      obtain ⟨w1, hw1⟩ : ∃ w1, w1 = (wr.alloc (.cells #[.int .i64 (q : Nat), .bool t, .int .u64 0] 36)).drew := ⟨_, rfl⟩
      have B1 : Blk w1 wr.heap.size #[.int .i64 (q : Nat), .bool t, .int .u64 0] 36 := by rw [hw1]; exact Blk.new wr _ _
      have C1 : Chg [] w w1 := by rw [hw1]; exact (C.alloc _).drew
      have O1 : OwnE w1 w.heap.size 36 (.slice gx done.length capx) done := by rw [hw1]; exact hown.alloc (.cells #[.int .i64 (q : Nat), .bool t, .int .u64 0] 36)
      have N1 := hown.fresh (.inl (Nat.le_refl wr.heap.size))
      have hcq1 : w1.cell? ⟨g, off + i, none⟩ = some (.int .u8 f) := by rw [hw1]; exact cell_ad hcq
      rw [← hw1]
      obtain ⟨B, hB⟩ : ∃ B, B = wr.heap.size := ⟨_, rfl⟩
      rw [← hB] at B1 N1 ⊢
      have HLB := Lib.hid (show w.heap.size ≤ B by rw [hB]; exact hwz)
      have hob := O1.block
      have hwz1 := C1.size
      have HL2 := Lib.hid hwz1
      clear hw1 C hwz hB hown hwz1 hcq
      by_cases hlo : f < 128
      · have HDd := Lib.hid (dec_low f (bs.drop (i + 1)) hlo)
        rw [← HQ.out, ← HT.out] at HDd
        have hlo' : (f : Int) < 128 := by omega
        clear hlo hm hdi hdn hf256 hi
        go_upto_region 14 with (fail)
        have c0 : w1.cell? ⟨B, 0, none⟩ = some (.int .i64 (q : Nat)) := B1.cell 0
        have c1' : w1.cell? ⟨B, 1, none⟩ = some (.bool t) := B1.cell 1
        have c2 : w1.cell? ⟨B, 2, none⟩ = some (.int .u64 0) := B1.cell 2
        go_wp2_with (refine wpList_appE rfl (.tmp 61) (.tmp 63) 23 rfl w.heap.size 36 (.agg #[.int .i64 0, .bool false, .int .u64 0]) 24 Tryd.underlying23 infoE' rfl _ done rfl (O1.alloc _) w1.heap.size 1 ⟨(q : Nat), t, 0⟩ rfl (Blk.new w1 #[.int .i64 (q : Nat), .bool t, .int .u64 0] 36) (by have := HL.out; unfold maxLen; omega) (by have := HL.out; omega) (by have := HL2.out; simp; omega) ?_)
        intro v' w6 O6 C6
        have C36 : Chg [] w w6 := (C1.alloc _).then C6 (fun g hg => .inr ((hob g hg).1))
        obtain ⟨gx', capx', rfl, O7⟩ := O6.shape
        rw [List.length_append, List.length_singleton] at O7 ⊢
        clear c0 c1' c2
        go_wp2_with fail
        have hL := HL.out
        exact ⟨⟨done ++ [⟨(q : Nat), t, 0⟩], i + 1, gx', capx', by rw [List.length_append, List.length_singleton], by go_num, by omega, by rw [List.length_append, List.length_singleton]; omega, by rw [HD.out, HS.out, HDd.out, List.append_assoc]; rfl,
          by rw [List.length_append, List.length_singleton]; exact O7, C36⟩, by simp only [intOf]; omega⟩
      · have hlo' : ¬ (f : Int) < 128 := by omega
        have hDl : (bs.drop (i + 1)).length = bs.length - (i + 1) := by rw [List.length_drop]
        by_cases h8 : bs.length - i < 9
        · have HDd := Lib.hid (dec_short f (bs.drop (i + 1)) hlo (by omega))
          have h8' : (bs.length : Int) - (i : Int) < 9 := by omega
          clear hlo hm hdi hdn hf256 hil h8 hDl
          go_wp2_with fail
          go_ret
          exact ⟨_, rfl, by rw [HD.out, HS.out, HDd.out, List.append_nil]; exact O1, C1⟩
        · have HDd := Lib.hid (dec_high f (bs.drop (i + 1)) hlo (by omega))
          rw [← HQ.out, ← HT.out] at HDd
          have h8' : ¬ (bs.length : Int) - (i : Int) < 9 := by omega
          have HM := Lib.hid (And.intro hl (by omega : i + 9 ≤ bs.length))
          clear hlo hm hdi hdn hf256 hil h8 hDl
          go_upto_region 10 with (fail)
          go_loopw [6] (fun x6 wq => ∃ k : Nat, k ≤ 8 ∧ x6 = .int .i64 ((k : Int) + 1) ∧ Blk wq B #[.int .i64 (q : Nat), .bool t, .int .u64 (num8 ((bs.drop (i + 1)).take k) : Nat)] 36 ∧ OwnE wq w.heap.size 36 (.slice gx done.length capx) done ∧ Chg [] w wq) (fun x6 _ => 9 - (intOf x6).toNat)
          case atStart => exact ⟨0, by omega, rfl, B1, O1, C1⟩
          case round =>
            clear hcq1
            obtain ⟨k, hk, rfl, BQ, OQ, CQ⟩ := hrel
            by_cases hk8 : k < 8
            · have hM := HM.out
              have hkr : i + 1 + k < bs.length := by omega
              obtain ⟨c, hcc⟩ : ∃ c, c = bs[i + 1 + k] := ⟨_, rfl⟩
              obtain ⟨g2, off2, he2, hcq⟩ := hc.out (i + 1 + k) (.int .u8 c) (by simp [bytesV, hcc, hkr])
              simp at he2
              obtain ⟨rfl, rfl⟩ := he2
              have hcq : wr.cell? ⟨g, off + (i + (k + 1)), none⟩ = some (.int .u8 c) := by
                rw [show i + (k + 1) = i + 1 + k from by omega]
                exact (World.cell?_of_block (w := w) (CQ.block g (World.block_lt_of_cell? w _ hcq) (by simp))).trans hcq
              have hk8i : (k : Int) + 1 ≤ 8 := by omega
              have hkri : (i : Int) + ((k : Int) + 1) < (bs.length : Int) := by omega
              have hkr0 : (0 : Int) ≤ (i : Int) + ((k : Int) + 1) := by omega
              have wik : IntKind.i64.wrap ((i : Int) + ((k : Int) + 1)) = (i : Int) + ((k : Int) + 1) := IntWalk.i64_in _ (by omega)
              have tn : ((i : Int) + ((k : Int) + 1)).toNat = i + (k + 1) := by omega
              have q2 : wr.cell? ⟨B, 2, none⟩ = some (.int .u64 (num8 ((bs.drop (i + 1)).take k) : Nat)) := BQ.cell 2
              have qz : wr.frozen? ⟨B, 2, none⟩ = false := BQ.frozen 2
              obtain ⟨N, hN⟩ : ∃ N, N = num8 ((bs.drop (i + 1)).take k) := ⟨_, rfl⟩
              rw [← hN] at q2 BQ
              have HN := Lib.hid hN
              have HC := Lib.hid (show bs[i + 1 + k]? = some c by rw [List.getElem?_eq_getElem hkr, hcc])
              have HM2 := Lib.hid hM
              clear hN hcc hM hl hkr
              go_upto_region 12 with (fail)
              go_big_region
              have hM := HM2.out
              have hcb : c < 256 := HBB.out c (List.mem_of_getElem? HC.out)
              have hN7 : N < 72057594037927936 := by
                rw [HN.out]
                exact num8_7 _ (fun x hx => HBB.out x (List.mem_of_mem_drop (List.mem_of_mem_take hx))) (by rw [List.length_take]; omega)
              rw [sumB N c hN7 hcb]
              have e8 : num8 ((bs.drop (i + 1)).take (k + 1)) = N * 256 + c := by
                rw [List.take_add_one, List.getElem?_drop, HC.out, Option.toList_some, num8_snoc, ← HN.out]
              have BQ2 := (BQ.setCell 2 (.int .u64 ((N * 256 + c : Nat) : Int))).drew
              have OQ2 : OwnE (wr.setCell ⟨B, 2, none⟩ (.int .u64 ((N * 256 + c : Nat) : Int))).drew w.heap.size 36 (.slice gx done.length capx) done := OQ.chg (S := [B]) ((Chg.refl _ _).setCell (.inl (by simp)) _).drew (by intro g hg; obtain rfl := List.mem_singleton.1 hg; exact N1)
              have CQ2 := (CQ.setCell (a := ⟨B, 2, none⟩) (.inr HLB.out) (.int .u64 ((N * 256 + c : Nat) : Int))).drew
              obtain ⟨w7, hw7⟩ : ∃ w7, w7 = (wr.setCell ⟨B, 2, none⟩ (.int .u64 ((N * 256 + c : Nat) : Int))).drew := ⟨_, rfl⟩
              rw [← hw7] at BQ2 OQ2 CQ2 ⊢
              clear hw7 q2 qz hcq
              go_wp2_with fail
              exact ⟨⟨k + 1, by omega, by go_num, by rw [e8]; exact BQ2, OQ2, CQ2⟩, by simp only [intOf]; omega⟩
            · obtain rfl : k = 8 := by omega
              obtain ⟨N, hN⟩ : ∃ N, N = num8 ((bs.drop (i + 1)).take 8) := ⟨_, rfl⟩
              rw [← hN] at BQ HDd
              have q0 : wr.cell? ⟨B, 0, none⟩ = some (.int .i64 (q : Nat)) := BQ.cell 0
              have q1 : wr.cell? ⟨B, 1, none⟩ = some (.bool t) := BQ.cell 1
              have q2 : wr.cell? ⟨B, 2, none⟩ = some (.int .u64 (N : Nat)) := BQ.cell 2
              have hob := OQ.block
              have hzq := CQ.size
              have h8i : ((8 : Nat) : Int) = 8 := rfl
              rw [h8i]
              have HZ := Lib.hid hzq
              clear hN hzq hk hk8 h8i O1 C1 B1 
              go_upto_region 14 with (fail)
              go_wp2_with (refine wpList_appE rfl (.tmp 61) (.tmp 63) 23 rfl w.heap.size 36 (.agg #[.int .i64 0, .bool false, .int .u64 0]) 24 Tryd.underlying23 infoE' rfl _ done rfl (OQ.alloc _) wr.heap.size 1 ⟨(q : Nat), t, N⟩ rfl (Blk.new wr #[.int .i64 (q : Nat), .bool t, .int .u64 (N : Nat)] 36) (by have := HL.out; unfold maxLen; omega) (by have := HL.out; omega) (by have := HZ.out; simp; omega) ?_)
              intro v' w6 O6 C6
              have C36 : Chg [] w w6 := (CQ.alloc _).then C6 (fun g hg => .inr ((hob g hg).1))
              obtain ⟨gx', capx', rfl, O7⟩ := O6.shape
              rw [List.length_append, List.length_singleton] at O7 ⊢
              clear q0 q1 q2
              go_wp2_with fail
              have hL := HL.out
              have hM := HM.out
              exact ⟨⟨done ++ [⟨(q : Nat), t, N⟩], i + 9, gx', capx', by rw [List.length_append, List.length_singleton], by go_num, by omega, by rw [List.length_append, List.length_singleton]; omega, by rw [HD.out, HS.out, HDd.out, List.append_assoc, List.drop_drop]; rfl,
                by rw [List.length_append, List.length_singleton]; exact O7, C36⟩, by simp only [intOf]; omega⟩
    · obtain rfl : i = bs.length := by omega
      rw [List.drop_length, dec_nil, List.append_nil] at hd
      go_wp2_with fail
      go_ret
      exact ⟨_, rfl, by rw [hd]; exact hown, C⟩
end Go.Proofs.YtjohbnfeijhcmaaDoor
