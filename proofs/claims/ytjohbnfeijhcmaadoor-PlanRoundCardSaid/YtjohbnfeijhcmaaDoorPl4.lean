/- plan: Decode. -/
import Derived.Test.YtjohbnfeijhcmaaDoorPl3
import Derived.Laws.BitsAllLaws
namespace Go.Proofs.YtjohbnfeijhcmaaDoor
open Go.RowKit Bosun Go.ChangeShapes Go.WideShapes Go.ChangeAt
theorem infoE' : (Tryd.prog.info? 36).map (fun i => (i.zero, i.size, i.bytes)) = some (some (.agg #[.int .i64 0, .bool false, .int .u64 0]), 3, 24) := by kernel_rfl
theorem sizeU8' : (Tryd.prog.info? 5).map (·.size) = some 1 := by kernel_rfl
theorem band63 : ∀ k : Fin 256, bits BinOp.and .u8 (k.val : Int) 63 = ((k.val % 64 : Nat) : Int) := by decide +kernel
theorem band64 : ∀ k : Fin 256, bits BinOp.and .u8 (k.val : Int) 64 = ((k.val / 64 % 2 * 64 : Nat) : Int) := by decide +kernel
theorem band128 : ∀ k : Fin 256, bits BinOp.and .u8 (k.val : Int) 128 = if k.val < 128 then 0 else 128 := by decide +kernel
theorem orB (N c : Nat) (hN : N < 72057594037927936) (hc : c < 256) : bits BinOp.or .u64 (IntKind.u64.wrap ((N : Int) * 256)) (IntKind.u64.wrap (c : Int)) = ((N * 256 + c : Nat) : Int) := by
  have e1 : IntKind.u64.wrap ((N : Int) * 256) = ((N * 256 : Nat) : Int) := by rw [IntKind.wrap_u64]; omega
  have e2 : IntKind.u64.wrap (c : Int) = (c : Nat) := by rw [IntKind.wrap_u64]; omega
  rw [e1, e2, u64_or_nat _ _ (by omega) (by omega), show N * 256 = N <<< 8 from by rw [Nat.shiftLeft_eq]]
  rw [← Nat.shiftLeft_add_eq_or_of_lt (show c < 2 ^ 8 by omega)]
theorem num8_snoc (l : List Nat) (c : Nat) : num8 (l ++ [c]) = num8 l * 256 + c := by simp [num8]
theorem num8_lt (l : List Nat) (h : ∀ x ∈ l, x < 256) : num8 l < 256 ^ l.length := by
  unfold num8
  suffices H : ∀ (l : List Nat) (a n : Nat), (∀ x ∈ l, x < 256) → a < 256 ^ n → l.foldl (fun a b => a * 256 + b) a < 256 ^ (n + l.length) by simpa using H l 0 0 h (by simp)
  intro l
  induction l with
  | nil => intro a n _ ha; simpa using ha
  | cons x l ih =>
    intro a n hx ha
    rw [List.foldl_cons, List.length_cons, show n + (l.length + 1) = (n + 1) + l.length from by omega]
    refine ih _ _ (fun y hy => hx y (by simp [hy])) ?_
    have := hx x (by simp)
    rw [Nat.pow_succ]; omega
theorem num8_7 (l : List Nat) (h : ∀ x ∈ l, x < 256) (hl : l.length ≤ 7) : num8 l < 72057594037927936 := by
  refine Nat.lt_of_lt_of_le (num8_lt l h) ?_
  have := Nat.pow_le_pow_right (show 0 < 256 by decide) hl
  simpa using this
def lenOf : Value → Nat
  | .slice _ n _ => n
  | _ => 0
set_option maxHeartbeats 4000000 in
theorem decode_any (v : Value) (bs : List Nat) (w : World) (hr : RdC w v (bytesV bs)) (hb : ∀ x ∈ bs, x < 256) (hl : bs.length ≤ 10000) :
    Calls Tryd.prog 7 #[v] w fun e w' => ∃ u, e = .returned u ∧ OwnE w' w.heap.size 36 u (dec bs) ∧ Chg [] w w' := by
  go_enter Tryd.func7, Tryd.ntmps7
  go_wp2_with fail
  go_wp2_with fail
  go_step3
  go_wp2_with fail
  go_step3
  go_wp2_with fail
  go_loopw [0, 3] (fun x0 x3 wr => ∃ (done : List Ent) (rest : List Nat) (ao : Option Addr) (cap : Nat) (gx : Option Addr) (capx : Nat), x0 = .slice ao rest.length cap ∧ x3 = .slice gx done.length capx ∧ dec bs = done ++ dec rest ∧ RdC w (.slice ao rest.length cap) (bytesV rest) ∧ (∀ x ∈ rest, x < 256) ∧ done.length + rest.length ≤ bs.length ∧ OwnE wr w.heap.size 36 (.slice gx done.length capx) done ∧ Chg [] w wr) (fun x0 _ _ => lenOf x0)
  case atStart => 
    obtain ⟨ao, cap, rfl, hr2⟩ := hr.shape
    rw [bytesV_len] at hr2 ⊢
    exact ⟨[], bs, ao, cap, none, 0, rfl, rfl, rfl, hr2, hb, by simp, OwnE.nil _ _ _, Chg.refl _ _⟩
  case round =>
    clear hr hb
    obtain ⟨done, rest, ao, cap, gx, capx, rfl, rfl, hd, hx, hb2, hlen, hown, C⟩ := hrel
    have hob := hown.block
    have hwz := C.size
    cases rest with
    | nil =>
      rw [dec_nil, List.append_nil] at hd
      go_wp2_with fail
      rw [Exit.noGoto_ret]
      go_ret
      exact ⟨_, rfl, by rw [hd]; exact hown, C⟩
    | cons f rest =>
      have hx0 := hx.keep C
      obtain ⟨ao', cap', hv, hcap, hmax, hcell⟩ := hx0
      obtain ⟨g, off, rfl, hc0⟩ := hcell 0 (.int .u8 f) rfl
      simp at hv
      obtain ⟨rfl, hvm, rfl⟩ := hv
      clear hvm
      have hf : f < 256 := hb2 f (by simp)
      have hb3 : ∀ x ∈ rest, x < 256 := fun x h => hb2 x (by simp [h])
      have HX := Lib.hid hx
      have HB := Lib.hid hb3
      have HD := Lib.hid hd
      rw [bytesV_len, List.length_cons] at hcap hmax
      rw [List.length_cons] at hlen ⊢
      rw [Nat.add_zero] at hc0
      clear hcell hx hb2 hb3 hd hob
      obtain ⟨m, hm⟩ : ∃ m, m = rest.length := ⟨_, rfl⟩
      rw [← hm] at hcap hmax hlen ⊢
      have HM := Lib.hid hm
      clear hm
      have hdn : (done.length : Int) < 1048576 := by omega
      have b63 := band63 ⟨f, hf⟩
      have b64 := band64 ⟨f, hf⟩
      have b128 := band128 ⟨f, hf⟩
      simp only at b63 b64 b128
      obtain ⟨q, hq⟩ : ∃ q, q = f % 64 := ⟨_, rfl⟩
      obtain ⟨r, hr⟩ : ∃ r, r = f / 64 % 2 * 64 := ⟨_, rfl⟩
      have hq64 : q < 64 := by omega
      obtain ⟨t, ht⟩ : ∃ t, t = decide (f / 64 % 2 = 1) := ⟨_, rfl⟩
      have hrt : ((r : Int) != 0) = t := by rw [ht, hr]; by_cases h : f / 64 % 2 = 1 <;> simp [h] <;> omega
      rw [← hq] at b63
      rw [← hr] at b64
      have HQ := Lib.hid hq
      have HR := Lib.hid hr
      have HT := Lib.hid ht
      clear hq hr ht
      go_upto_region 6 with (fail)
      have HX1 : RdC w (.slice (if cap = 1 then some (⟨g, off, none⟩ : Addr) else some ⟨g, off + 1, none⟩) m (cap - 1)) (bytesV rest) := by
        have h := RdC.drop HX.out (k := 1) (by simp [bytesV])
        simpa [sliced, add_plain, HM.out, bytesV] using h
      obtain ⟨a1, ha1⟩ : ∃ a1, a1 = if cap = 1 then some (⟨g, off, none⟩ : Addr) else some ⟨g, off + 1, none⟩ := ⟨_, rfl⟩
      obtain ⟨c1, hc1⟩ : ∃ c1, c1 = cap - 1 := ⟨_, rfl⟩
      rw [← ha1, ← hc1] at HX1 ⊢
      clear ha1 hc1 hc0 HX
      obtain ⟨w1, hw1⟩ : ∃ w1, w1 = wr.alloc (.cells #[.int .i64 (q : Nat), .bool t, .int .u64 0] 36) := ⟨_, rfl⟩
      have B1 : Blk w1 wr.heap.size #[.int .i64 (q : Nat), .bool t, .int .u64 0] 36 := by rw [hw1]; exact Blk.new wr _ _
      have C1 : Chg [] w w1 := by rw [hw1]; exact C.alloc _
      have O1 := hown.alloc (.cells #[.int .i64 (q : Nat), .bool t, .int .u64 0] 36)
      have N1 := hown.fresh (.inl (Nat.le_refl wr.heap.size))
      rw [← hw1] at O1 ⊢
      obtain ⟨B, hB⟩ : ∃ B, B = wr.heap.size := ⟨_, rfl⟩
      rw [← hB] at B1 N1 ⊢
      have hob := O1.block
      have hwz1 := C1.size
      have HXh := Lib.hid HX1
      have HLB := Lib.hid (show w.heap.size ≤ B by rw [hB]; exact hwz)
      clear hw1 HX1 C hwz hB hown
      by_cases hlo : f < 128
      · rw [if_pos hlo] at b128
        have HDd := Lib.hid (dec_low f rest hlo)
        rw [← HQ.out, ← HT.out] at HDd
        go_upto_region 7 with (fail)
        have c0 : w1.cell? ⟨B, 0, none⟩ = some (.int .i64 (q : Nat)) := B1.cell 0
        have c1' : w1.cell? ⟨B, 1, none⟩ = some (.bool t) := B1.cell 1
        have c2 : w1.cell? ⟨B, 2, none⟩ = some (.int .u64 0) := B1.cell 2
        have HL := Lib.hid (And.intro hl (And.intro hlen hwz1))
        clear hrt b63 b64 b128 hmax hcap hlen hf hdn hl hwz1
        go_wp2_with (refine wpList_appE rfl (.tmp 31) (.tmp 33) 23 rfl w.heap.size 36 (.agg #[.int .i64 0, .bool false, .int .u64 0]) 24 Tryd.underlying23 infoE' rfl _ done rfl (O1.alloc _) w1.heap.size 1 ⟨(q : Nat), t, 0⟩ rfl (Blk.new w1 #[.int .i64 (q : Nat), .bool t, .int .u64 0] 36) (by have := HL.out; unfold maxLen; omega) (by have := HL.out; omega) (by have := HL.out; simp; omega) ?_)
        intro v' w6 O6 C6
        have C36 : Chg [] w w6 := (C1.alloc _).then C6 (fun g hg => .inr ((hob g hg).1))
        obtain ⟨gx', capx', rfl, O7⟩ := O6.shape
        rw [List.length_append, List.length_singleton] at O7 ⊢
        clear c0 c1' c2
        go_wp2_with fail
        have hL := HL.out
        exact ⟨⟨done ++ [⟨(q : Nat), t, 0⟩], rest, a1, c1, gx', capx', by rw [HM.out], by rw [List.length_append, List.length_singleton], by rw [HD.out, HDd.out, List.append_assoc]; rfl, by rw [← HM.out]; exact HXh.out, HB.out,
          by rw [List.length_append, List.length_singleton, ← HM.out]; omega, by rw [List.length_append, List.length_singleton]; exact O7, C36⟩, by simp [lenOf]⟩
      · rw [if_neg hlo] at b128
        have HL := Lib.hid (And.intro hl (And.intro hlen hwz1))
        have hrl := HM.out
        by_cases h8 : m < 8
        · have HDd := Lib.hid (dec_short f rest hlo (by omega))
          have h8' : (m : Int) < 8 := by omega
          clear hrt b63 b64 hmax hcap hlen hf hdn hl hwz1 hrl h8
          go_wp2_with fail
          rw [Exit.noGoto_ret]
          go_ret
          exact ⟨_, rfl, by rw [HD.out, HDd.out, List.append_nil]; exact O1, C1⟩
        · have HDd := Lib.hid (dec_high f rest hlo (by omega))
          rw [← HQ.out, ← HT.out] at HDd
          have h8' : ¬ (m : Int) < 8 := by omega
          obtain ⟨a1', c1', hv1, hcap1, hmax1, hcell1⟩ := HXh.out
          obtain ⟨r0, hr0⟩ : ∃ r0, rest[0]? = some r0 := ⟨rest[0]'(by omega), List.getElem?_eq_getElem _⟩
          obtain ⟨g1, off1, rfl, _⟩ := hcell1 0 (.int .u8 r0) (by simp [bytesV, hr0])
          simp at hv1
          obtain ⟨rfl, hmm, rfl⟩ := hv1
          clear hmm
          rw [bytesV_len, ← hrl] at hcap1 hmax1
          have hc1i : (8 : Int) ≤ (c1 : Int) := by omega
          have hc10 : ¬ c1 = 0 := by omega
          have hc18 : ¬ c1 = 8 ∨ m = 8 := by omega
          clear hrt b63 b64 hmax hcap hlen hf hdn hl hwz1 hrl h8 hmax1 hcap1
          go_upto_region 10 with (fail)
          go_loopw [41] (fun x41 wq => ∃ j : Nat, j ≤ 8 ∧ x41 = .int .i64 j ∧ Blk wq B #[.int .i64 (q : Nat), .bool t, .int .u64 (num8 (rest.take j) : Nat)] 36 ∧ OwnE wq w.heap.size 36 (.slice gx done.length capx) done ∧ Chg [] w wq) (fun x41 _ => 8 - (intOf x41).toNat)
          case atStart => exact ⟨0, by omega, rfl, B1, O1, C1⟩
          case round =>
            obtain ⟨j, hj, rfl, BQ, OQ, CQ⟩ := hrel
            by_cases hj8 : j < 8
            · have hjr : j < rest.length := by have := HM.out; omega
              obtain ⟨c, hc⟩ : ∃ c, c = rest[j] := ⟨_, rfl⟩
              obtain ⟨g2, off2, he2, hcq⟩ := hcell1 j (.int .u8 c) (by simp [bytesV, hc, hjr])
              simp at he2
              obtain ⟨rfl, rfl⟩ := he2
              have hcq : wr.cell? ⟨g1, off1 + j, none⟩ = some (.int .u8 c) := (World.cell?_of_block (w := w) (CQ.block g1 (World.block_lt_of_cell? w _ hcq) (by simp))).trans hcq
              have hj8i : (j : Int) < 8 := by omega
              have q2 : wr.cell? ⟨B, 2, none⟩ = some (.int .u64 (num8 (rest.take j) : Nat)) := BQ.cell 2
              have qz : wr.frozen? ⟨B, 2, none⟩ = false := BQ.frozen 2
              obtain ⟨N, hN⟩ : ∃ N, N = num8 (rest.take j) := ⟨_, rfl⟩
              rw [← hN] at q2 BQ
              have HN := Lib.hid hN
              have HC := Lib.hid hc
              have HH := Lib.hid hcell1
              clear hcell1 hN hc
              go_wp2_with fail
              have hcb : c < 256 := HB.out c (by rw [HC.out]; exact List.getElem_mem _)
              have hN7 : N < 72057594037927936 := by
                rw [HN.out]
                exact num8_7 _ (fun x hx => HB.out x (List.mem_of_mem_take hx)) (by rw [List.length_take]; omega)
              rw [orB N c hN7 hcb]
              have e8 : num8 (rest.take (j + 1)) = N * 256 + c := by
                rw [List.take_add_one, List.getElem?_eq_getElem hjr, Option.toList_some, num8_snoc, ← HN.out, ← HC.out]
              exact ⟨⟨j + 1, by omega, by go_num, by rw [e8]; exact BQ.setCell 2 _, OQ.chg (S := [B]) ((Chg.refl _ _).setCell (.inl (by simp)) _) (by intro g hg; obtain rfl := List.mem_singleton.1 hg; exact N1), CQ.setCell (.inr HLB.out) _⟩, by simp only [intOf]; omega⟩
            · obtain rfl : j = 8 := by omega
              obtain ⟨N, hN⟩ : ∃ N, N = num8 (rest.take 8) := ⟨_, rfl⟩
              rw [← hN] at BQ HDd
              have q0 : wr.cell? ⟨B, 0, none⟩ = some (.int .i64 (q : Nat)) := BQ.cell 0
              have q1 : wr.cell? ⟨B, 1, none⟩ = some (.bool t) := BQ.cell 1
              have q2 : wr.cell? ⟨B, 2, none⟩ = some (.int .u64 (N : Nat)) := BQ.cell 2
              have HX8 : RdC w (.slice (if c1 = 8 then some (⟨g1, off1, none⟩ : Addr) else some ⟨g1, off1 + 8, none⟩) (m - 8) (c1 - 8)) (bytesV (rest.drop 8)) := by
                have h := RdC.drop HXh.out (k := 8) (by rw [bytesV_len]; have := HM.out; omega)
                simpa [sliced, add_plain, bytesV] using h
              obtain ⟨a2, ha2⟩ : ∃ a2, a2 = if c1 = 8 then some (⟨g1, off1, none⟩ : Addr) else some ⟨g1, off1 + 8, none⟩ := ⟨_, rfl⟩
              obtain ⟨c2, hc2⟩ : ∃ c2, c2 = c1 - 8 := ⟨_, rfl⟩
              obtain ⟨m2, hm2⟩ : ∃ m2, m2 = m - 8 := ⟨_, rfl⟩
              have hob := OQ.block
              have hzq := CQ.size
              have h8i : ((8 : Nat) : Int) = 8 := rfl
              rw [h8i]
              have HZ := Lib.hid hzq
              clear hN hcell1 hzq hj hj8 h8i hc18 O1 C1 B1 b128 hq64
              go_upto_region 15 with (fail)
              rw [← ha2, ← hc2, ← hm2] at HX8 ⊢
              clear ha2 hc2
              go_wp2_with (refine wpList_appE rfl (.tmp 55) (.tmp 57) 23 rfl w.heap.size 36 (.agg #[.int .i64 0, .bool false, .int .u64 0]) 24 Tryd.underlying23 infoE' rfl _ done rfl (OQ.alloc _) wr.heap.size 1 ⟨(q : Nat), t, N⟩ rfl (Blk.new wr #[.int .i64 (q : Nat), .bool t, .int .u64 (N : Nat)] 36) (by have := HL.out; unfold maxLen; omega) (by have := HL.out; omega) (by have := HZ.out; simp; omega) ?_)
              intro v' w6 O6 C6
              have C36 : Chg [] w w6 := (CQ.alloc _).then C6 (fun g hg => .inr ((hob g hg).1))
              obtain ⟨gx', capx', rfl, O7⟩ := O6.shape
              rw [List.length_append, List.length_singleton] at O7 ⊢
              clear q0 q1 q2
              go_wp2_with fail
              have hL := HL.out
              have hM := HM.out
              have hdl : (rest.drop 8).length = m2 := by rw [List.length_drop, hm2, hM]
              exact ⟨⟨done ++ [⟨(q : Nat), t, N⟩], rest.drop 8, a2, c2, gx', capx', by rw [hdl, hm2], by rw [List.length_append, List.length_singleton], by rw [HD.out, HDd.out, List.append_assoc]; rfl, by rw [hdl]; exact HX8, fun x hx => HB.out x (List.mem_of_mem_drop hx),
                by rw [List.length_append, List.length_singleton, hdl]; omega, by rw [List.length_append, List.length_singleton]; exact O7, C36⟩, by simp only [lenOf]; omega⟩
end Go.Proofs.YtjohbnfeijhcmaaDoor
