/- For all words and all orders the law DequeWins returns true: of thieves that saw the same top the one whose fourth step comes first gets the word, and no other one. No conditions. -/
import Derived.Test.YtidooepalfegdaaRows
import Derived.Test.YtidooepalfegdaaDqW2
import Derived.Test.YtidooepalfegdaaDq8
import Derived.Deep.RegionHeld3
import Derived.ProofKit
import Derived.OpenShut
namespace Go.Proofs.Ytidooepalfegdaa
open Go.RowKit Bosun
set_option maxRecDepth 100000
theorem infoOp : (Try.prog.info? 36).map (fun i => (i.zero, i.size, i.bytes)) = some (some (.pointer none), 1, 8) := by kernel_rfl
def WinsR (i x0 : Nat) (first : Bool) (W' : List Nat) (os : Nat → DOp) : Prop := i ≠ 0 → (first = true ∧ getA W' 0 = 0 ∧ ∀ j, j < 5 → os j = th3 i x0) ∨ (first = false ∧ getA W' 0 = 1 ∧ ∀ j, j < 5 → os j = th3 i x0 ∨ ∃ b, os j = th4 i x0 b)
theorem WinsR.use {i x0 : Nat} {first : Bool} {W' : List Nat} {os : Nat → DOp} (h : WinsR i x0 first W' os) (hi : i ≠ 0) : (first = true ∧ getA W' 0 = 0 ∧ ∀ j, j < 5 → os j = th3 i x0) ∨ (first = false ∧ getA W' 0 = 1 ∧ ∀ j, j < 5 → os j = th3 i x0 ∨ ∃ b, os j = th4 i x0 b) := h hi
theorem WinsR.mk {i x0 : Nat} {first : Bool} {W' : List Nat} {os : Nat → DOp} (h : i ≠ 0 → (first = true ∧ getA W' 0 = 0 ∧ ∀ j, j < 5 → os j = th3 i x0) ∨ (first = false ∧ getA W' 0 = 1 ∧ ∀ j, j < 5 → os j = th3 i x0 ∨ ∃ b, os j = th4 i x0 b)) : WinsR i x0 first W' os := h
theorem getD_word {l : List Nat} {j : Nat} (h : j < l.length) : l.getD j 0 = l[j] := by simp [List.getD, h]
theorem res_th4 (n x : Nat) (b : Bool) : resD (th4 n x b) = (if b then x else 0, if b then 0 else 8) := by cases b <;> rfl
theorem seen_th3 (n x : Nat) : seenD (th3 n x) = (if n = 0 then 0 else x, decide (n ≠ 0)) := by
  unfold th3 seenD
  by_cases h : n = 0
  · simp [h]
  · simp [h]
theorem th3_kind (n x : Nat) : (th3 n x).kind = 2 ∧ (th3 n x).steps ≤ 6 ∧ (th3 n x).done = decide (n = 0) := by
  unfold th3
  by_cases h : n = 0
  · simp [h]
  · simp [h]
theorem okTh4 (n x : Nat) (b : Bool) (hn : n < 200) (hx : x < 18446744073709551616) : OkOp (th4 n x b) := by
  have p : Pow2 256 := ⟨8, by omega, rfl⟩
  cases b
  · exact okMk (by decide) (fun h => by cases h) (fun h => by cases h) p (by omega) (by omega) (by omega) (by omega) hx (by decide) (by decide) (by decide)
  · exact okMk (by decide) (fun h => by cases h) (fun h => by cases h) p (by omega) (by omega) (by omega) (by omega) hx (by decide) (by decide) (by decide)
set_option maxHeartbeats 16000000 in
theorem dequeWins_walk (w : World) (v : Value) (l : List Nat) (hl : ∀ z ∈ l, z < 18446744073709551616) (hv : Reads w v (words l)) (v2 : Value) (q : List Int) (hq : ∀ z ∈ q, 0 ≤ z ∧ z ≤ 255) (hv2 : Reads w v2 (q.map (Value.int .u8))) :
    Calls Try.prog 4 #[v, v2] w fun e w' => e = .returned (.bool true) ∧ Chg [] w w' := by
  obtain ⟨ao, cp, rfl, hm, hcell⟩ := hv
  obtain ⟨ao2, cp2, rfl, hm2, hcell2⟩ := hv2
  rw [words_len] at hm ⊢
  rw [List.length_map] at hm2 ⊢
  unfold maxLen at hm hm2
  have HCELL := Lib.hid (show ∀ j, j < l.length → ∃ g off, ao = some ⟨g, off, none⟩ ∧ w.cell? ⟨g, off + j, none⟩ = some (.int .u64 (l.getD j 0 : Nat)) from fun j hj => by obtain ⟨g, off, a, b⟩ := hcell j _ (words_get l hj); exact ⟨g, off, a, by rw [getD_word hj]; exact b⟩)
  have HCELL2 := Lib.hid (show ∀ j (hj : j < q.length), ∃ g off, ao2 = some ⟨g, off, none⟩ ∧ w.cell? ⟨g, off + j, none⟩ = some (.int .u8 q[j]) from fun j hj => hcell2 j (.int .u8 q[j]) (by simp [hj]))
  have HL := Lib.hid (show ∀ j, l.getD j 0 < 18446744073709551616 from fun j => by
    by_cases h : j < l.length
    · rw [getD_word h]; exact hl _ (List.getElem_mem h)
    · simp [List.getD, h])
  have HQ := Lib.hid hq
  have HAT := Lib.hid (fun w => at_any 0 256 (by omega) (by omega) w)
  rw [show holdN 256 = 256 from by decide +kernel] at HAT
  have P256 := Lib.hid (show Pow2 256 from ⟨8, by omega, rfl⟩)
  obtain ⟨n, hn⟩ : ∃ n : Nat, n = min l.length 20 := ⟨_, rfl⟩
  have HN := Lib.hid (show (n : Int) = if (20 : Int) < (l.length : Int) then (20 : Int) else (l.length : Int) by split <;> omega)
  have hn20 : n ≤ 20 := by omega
  have hnl : n ≤ l.length := by omega
  clear hcell hcell2 hl hq hn
  go_enter Try.func4, Try.ntmps4
  go_wp2_with fail
  refine (new_any 260 260 rfl _).mono ?_
  rintro e w1 ⟨bm, bw, rfl, M1, C1, g1, g2⟩
  go_wp2_with fail
  refine (HAT.out _).mono ?_
  rintro e w4 ⟨rfl, C4⟩
  have M4 := M1.keep C4
  have C14 := C1.then C4 (by simp)
  have zz := C14.size
  clear C1 M1 C4
  go_wp2_with (refine wpList_min rfl (.tmp 22) _ _ _ rfl .i64 (l.length : Nat) 20 (n : Nat) rfl rfl HN.out ?_)
  obtain ⟨w5, hw5⟩ : ∃ w5, w5 = w4.alloc (.cells #[.int .i64 0, .int .i64 ((256 : Nat) : Int)] 28) := ⟨_, rfl⟩
  have D5 : Blk w5 w4.heap.size #[.int .i64 0, .int .i64 ((256 : Nat) : Int)] 28 := by rw [hw5]; exact Blk.new _ _ _
  have C5 : Chg [] w4 w5 := by rw [hw5]; exact (Chg.refl _ _).alloc _
  have M5 := M4.keep C5
  have C15 := C14.then C5 (by simp)
  have hw5' : w4.alloc (.cells #[.int .i64 0, .int .i64 256] 28) = w5 := hw5.symm
  rw [hw5']
  obtain ⟨db, hdb⟩ : ∃ db, db = w4.heap.size := ⟨_, rfl⟩
  rw [← hdb] at D5 zz ⊢
  have PW5 := PW.start l
  obtain ⟨W5, hW5⟩ : ∃ W5, W5 = List.replicate 260 0 := ⟨_, rfl⟩
  rw [← hW5] at M5 PW5
  clear hw5 hw5' C5 M4 C14 hdb hW5
  go_loopw [8] (fun x8 wr => ∃ (i : Nat) (W : List Nat) (u : Nat), i ≤ n ∧ x8 = .int .i64 i ∧ IsMem wr bm bw W u ∧ Blk wr db #[.int .i64 0, .int .i64 ((256 : Nat) : Int)] 28 ∧ PW W l i ∧ Chg [] w wr) (fun x8 _ => n - (intOf x8).toNat)
  case atStart => exact ⟨0, W5, 0, by omega, rfl, M5, D5, PW5, C15⟩
  case round =>
    obtain ⟨i, W, u, hi, rfl, M, D, HPW, C⟩ := hrel
    clear M5 D5 PW5 C15
    have HM := Lib.hid M
    have HD := Lib.hid D
    have HPW := Lib.hid HPW
    have lb1 := M.head.lt
    have lb2 := M.row.lt
    have lb3 := D.lt
    have ne1 := blk_ne M.head D (by decide)
    have ne2 := blk_ne M.row D (by decide)
    clear M D
    by_cases hin : i < n
    · obtain ⟨g, off, rfl, c0⟩ := HCELL.out i (by omega)
      obtain ⟨x, hx⟩ : ∃ x, x = l.getD i 0 := ⟨_, rfl⟩
      rw [← hx] at c0
      have hxl : x < 18446744073709551616 := by rw [hx]; exact HL.out i
      have HPN := Lib.hid (push_next HPW.out (by omega) hx.symm u)
      have c1 : wr.cell? ⟨g, off + i, none⟩ = some (.int .u64 (x : Nat)) := cell_keep C c0
      have c2 := HD.out.cell 0
      have c3 := HD.out.cell 1
      have c2' : wr.cell? ⟨db, 0, none⟩ = some (.int .i64 0) := c2
      have c3' : wr.cell? ⟨db, 1, none⟩ = some (.int .i64 256) := c3
      have hg0 := World.block_lt_of_cell? w _ c0
      have HC0 := Lib.hid c0
      have HCC := Lib.hid C
      have HPUSH := Lib.hid (show ∀ w, Calls Try.prog 20 #[.agg #[.int .i64 0, .int .i64 256], .int .u64 (x : Nat)] w fun e w' => ∃ g, e = .returned (.pointer (some ⟨g, 0, none⟩)) ∧ IsOp w' g (newD 0 256 0 x) ∧ Chg [] w w' ∧ w.heap.size ≤ g from fun w => opush_any 0 256 x w)
      have OKN := Lib.hid (show OkOp (newD 0 256 0 x) from OkOp.new (by omega) (by omega) P256.out (by omega) hxl)
      have zd : wr.drew.heap.size = wr.heap.size := rfl
      clear hx c2 c3 c0
      go_wp2_with fail
      have hi0 : (0 : Int) ≤ (i : Int) := by omega
      have hil : (i : Int) < (l.length : Int) := by omega
      go_region_held3 (fun w' => w'.cell? ⟨db, 0, none⟩ = some (.int .i64 0) ∧ w'.cell? ⟨db, 1, none⟩ = some (.int .i64 256) ∧ w'.cell? ⟨g, off + i, none⟩ = some (.int .u64 (x : Nat))) (first | assumption | exact ⟨c2', c3', c1⟩ | exact ⟨k1, k2, k3⟩ | exact ⟨m1, m2, m3⟩)
        (first
          | (go_at_call 20; refine (HPUSH.out _).mono ?_; rintro e w12 ⟨ga, rfl, H12, C12, g12⟩; have C12 : Chg [] wr w12 := (by first | exact C12.undrew | exact C12); have k1 := cell_keep C12 c2'; have k2 := cell_keep C12 c3'; have k3 := cell_keep C12 c1; have HA := Lib.hid (all_any ga (newD 0 256 0 x) w12 H12 OKN.out bm bw W u (HM.out.keep C12) (by omega) (by omega)); rw [HPN.out.1] at HA; have D12 := HD.out.chg C12 (by simp))
          | (go_at_call 19; refine HA.out.mono ?_; rintro e w13 ⟨rfl, H13, _, M13, C13⟩; have D13 := D12.chg C13 (by simp; exact ⟨by omega, Ne.symm ne1, Ne.symm ne2⟩); have m1 : w13.cell? ⟨db, 0, none⟩ = some (.int .i64 0) := D13.cell 0; have m2 : w13.cell? ⟨db, 1, none⟩ = some (.int .i64 256) := D13.cell 1; have CW13 : Chg [] w w13 := (HCC.out.then C12 (by simp)).then C13 (fun g' hg' => .inr (by have := HCC.out.size; have := C12.size; simp at hg'; omega)); have m3 := cell_keep CW13 HC0.out))
      go_wp2_with fail
      go_roundw
      case rel => exact ⟨i + 1, _, _, by omega, by go_num, M13, D13, HPN.out.2, CW13⟩
      case measure => simp [intOf] <;> omega
    · obtain rfl : i = n := by omega
      clear hin lb1 lb2 lb3 ne1 ne2
      obtain ⟨x0, hx0⟩ : ∃ x0, x0 = l.getD 0 0 := ⟨_, rfl⟩
      have hx0l : x0 < 18446744073709551616 := by rw [hx0]; exact HL.out 0
      have TS := Lib.hid (fun k hk u => thk_step HPW.out (by omega) (k := k) hk u)
      have top0 := Lib.hid HPW.out.top
      have len0 := Lib.hid HPW.out.len
      rw [← hx0] at TS
      have W0 := Lib.hid (show 0 < i → ∃ g off, ao = some ⟨g, off, none⟩ ∧ w.cell? ⟨g, off, none⟩ = some (.int .u64 (x0 : Nat)) from fun h => by obtain ⟨g, off, a, b⟩ := HCELL.out 0 (by omega); exact ⟨g, off, a, by rw [hx0]; exact b⟩)
      have OKT := Lib.hid (fun k => okTh i x0 k (by omega) hx0l)
      clear hx0
      go_wp2_with (refine wpList_make1 rfl (.const (.int .i64 5)) (.const (.int .i64 5)) 33 rfl 36 (.pointer none) 8 Try.underlying33 infoOp rfl .i64 .i64 5 rfl rfl (by omega) (by omega) ?_; intro w8 A8 C8 z8)
      have l1 := HM.out.head.lt
      have l2 := HM.out.row.lt
      have l3 := HD.out.lt
      have zC := C.size
      have P8 : SW w w8 w8.heap.size bm bw db wr.heap.size 0 (fun _ => 0) (fun _ => th3 i x0) W u :=
        ⟨HM.out.keep C8, HD.out.chg C8 (by simp), by rw [← ptr5_none (fun _ => 0)]; exact A8, (fun k hk => by omega), (fun j k hj _ _ => by omega), ⟨by omega, by omega, by omega, by omega⟩, ⟨g1, g2, zz, by omega, by omega⟩, Nat.le_refl _, C.then C8 (by simp)⟩
      obtain ⟨ab, hab⟩ : ∃ ab, ab = wr.heap.size := ⟨_, rfl⟩
      obtain ⟨lim, hlim⟩ : ∃ lim, lim = w8.heap.size := ⟨_, rfl⟩
      rw [← hab, ← hlim] at P8
      rw [← hab]
      clear hab hlim l1 l2 l3 zC A8 C8 z8 HM HD C HPW g1 g2 zz
      go_loopw [10] (fun x10 wp => ∃ (m : Nat) (gb : Nat → Nat) (u : Nat), m ≤ 5 ∧ x10 = .int .i64 m ∧ SW w wp lim bm bw db ab m gb (fun _ => th3 i x0) W u) (fun x10 _ => 5 - (intOf x10).toNat)
      case atStart => exact ⟨0, _, u, by omega, rfl, P8⟩
      case round =>
        obtain ⟨m, gb, u2, hm5, rfl, P⟩ := hrel
        clear P8
        have HP := Lib.hid P
        clear P
        by_cases hml : m < 5
        · have e10 := HP.out.d.cell 0
          have e11 := HP.out.d.cell 1
          have e10' : wr.cell? ⟨db, 0, none⟩ = some (.int .i64 0) := e10
          have e11' : wr.cell? ⟨db, 1, none⟩ = some (.int .i64 256) := e11
          have hm0 : (0 : Int) ≤ (m : Int) := by omega
          clear e10 e11
          go_wp2_with (go_at_call 21; refine (osteal_any 0 256 _).mono ?_; rintro e w12 ⟨ga, rfl, H12, C12, g12⟩; have Q12 := HP.out.keep C12; have P13 := SW.new HP.out hml C12 g12 H12 (OKT.out 0) rfl; have c12 : w12.cell? ⟨ab, m, none⟩ = some (.pointer none) := (by rw [Q12.arr.cell, ptr5_get _ _ hml, if_neg (by omega)]); have f12 := Q12.arr.frozen m; have HP13 := Lib.hid P13; clear P13 Q12)
          obtain ⟨gb2, hgb2⟩ : ∃ gb2, gb2 = updG gb m ga := ⟨_, rfl⟩
          rw [← hgb2] at HP13
          clear hgb2 HP c12 f12 e10' e11'
          go_loopw [11] (fun x11 wq => ∃ (j u3 : Nat), j ≤ 3 ∧ x11 = .int .i64 j ∧ SW w wq lim bm bw db ab (m + 1) gb2 (updO (fun _ => th3 i x0) m (thk i x0 j)) W u3) (fun x11 _ => 3 - (intOf x11).toNat)
          case atStart => exact ⟨0, u2, by omega, rfl, HP13.out⟩
          case round =>
            obtain ⟨j, u3, hj, rfl, Q⟩ := hrel
            have HQ2 := Lib.hid Q
            clear Q HP13
            obtain ⟨iop, ok, lgb⟩ := HQ2.out.ops m (by omega)
            rw [updO_same] at iop ok
            have low := HQ2.out.low
            have ca : wr.cell? ⟨ab, m, none⟩ = some (.pointer (some ⟨gb2 m, 0, none⟩)) := by rw [HQ2.out.arr.cell, ptr5_yes _ _ hml (by omega)]
            by_cases hj3 : j < 3
            · have HT := Lib.hid (step_any (gb2 m) (thk i x0 j) wr iop ok bm bw W u3 HQ2.out.mem (by omega) (by omega))
              obtain ⟨t1, t2⟩ := TS.out j hj3 u3
              have T1 := Lib.hid t1
              have T2 := Lib.hid t2
              clear t1 t2 iop ok
              go_wp2_with (go_at_call 16; refine HT.out.mono ?_; rintro e w14 ⟨rfl, H14, M14, C14⟩; rw [T1.out] at H14; rw [T2.out] at M14; have PS := HQ2.out.step (by omega) H14 (OKT.out (j + 1)) M14 C14; rw [updO_upd] at PS; have HPS := Lib.hid PS; clear PS H14 M14 C14)
              go_roundw
              case rel => exact ⟨j + 1, _, by omega, by go_num, HPS.out⟩
              case measure => simp [intOf] <;> omega
            · obtain rfl : j = 3 := by omega
              have hth : thk i x0 3 = th3 i x0 := rfl
              rw [hth] at iop
              have hq3 := HQ2.out
              rw [hth, updO_const] at hq3
              have HQ3 := Lib.hid hq3
              obtain ⟨tk1, tk2, tk3⟩ := th3_kind i x0
              have HS := Lib.hid (seen_any (gb2 m) (th3 i x0) wr iop tk1 tk2)
              rw [seen_th3] at HS
              clear hth hq3 iop ok tk1 tk2 tk3 HQ2 hj3
              by_cases hi0 : i = 0
              · rw [if_pos hi0, decide_eq_false (fun h => h hi0)] at HS
                have d0 : decide ((0 : Int) < (i : Int)) = false := decide_eq_false (by omega)
                have d1 : decide (0 < i) = false := decide_eq_false (by omega)
                clear hi0
                go_wp2_with (go_at_call 22; refine HS.out.mono ?_; rintro e y ⟨rfl, rfl⟩)
                go_roundw
                case rel => exact ⟨m + 1, gb2, u3, by omega, by go_num, HQ3.out⟩
                case measure => simp [intOf] <;> omega
              · rw [if_neg hi0, decide_eq_true hi0] at HS
                have d0 : decide ((0 : Int) < (i : Int)) = true := decide_eq_true (by omega)
                obtain ⟨g, off, rfl, c0⟩ := W0.out (by omega)
                have c1 := cell_keep HQ3.out.chg c0
                have ll : (0 : Int) < (l.length : Int) := by omega
                have ln : 0 < l.length := by omega
                have xx : ((x0 : Int) != (x0 : Int)) = false := by simp
                clear c0
                go_wp2_with (go_at_call 22; refine HS.out.mono ?_; rintro e y ⟨rfl, rfl⟩)
                go_roundw
                case rel => exact ⟨m + 1, gb2, u3, by omega, by go_num, HQ3.out⟩
                case measure => simp [intOf] <;> omega
        · obtain rfl : m = 5 := by omega
          clear hml hm5
          rw [show ((5 : Nat) : Int) = 5 from rfl]
          go_wp2_with fail
          go_loopw [14, 15] (fun x14 x15 wp => ∃ (k : Nat) (first : Bool) (os : Nat → DOp) (W' : List Nat) (u' : Nat), k ≤ q.length ∧ k ≤ 20 ∧ x15 = .int .i64 k ∧ x14 = .bool first ∧ SW w wp lim bm bw db ab 5 gb os W' u' ∧ W'.length = 260 ∧
            WinsR i x0 first W' os) (fun _ x15 _ => 20 - (intOf x15).toNat)
          case atStart => exact ⟨0, true, _, W, u2, by omega, by omega, rfl, rfl, HP.out, len0.out, WinsR.mk (fun _ => .inl ⟨rfl, top0.out, fun _ _ => rfl⟩)⟩
          case round =>
            obtain ⟨r, first, os, W', u', hr, hr2, rfl, rfl, P, hl', HR⟩ := hrel
            have HP' := Lib.hid P
            clear P
            by_cases hrl : r < q.length ∧ r < 20
            · obtain ⟨hrl, hr20⟩ := hrl
              obtain ⟨g, off, rfl, c0⟩ := HCELL2.out r hrl
              obtain ⟨z, hz⟩ : ∃ z, z = q[r] := ⟨_, rfl⟩
              have hz2 := HQ.out _ (List.getElem_mem hrl)
              rw [← hz] at c0 hz2
              have c1 := cell_keep HP'.out.chg c0
              clear hz c0
              obtain ⟨k, ek, hk⟩ : ∃ k : Nat, z % 5 = (k : Int) ∧ k < 5 := ⟨(z % 5).toNat, by omega, by omega⟩
              have ca : wr.cell? ⟨ab, k, none⟩ = some (.pointer (some ⟨gb k, 0, none⟩)) := by rw [HP'.out.arr.cell, ptr5_yes _ _ hk hk]
              by_cases hi0 : i = 0
              · have d0 : ((i : Int) == 0) = true := by rw [hi0]; rfl
                clear hi0
                go_wp2_with fail
                go_roundw
                case rel => exact ⟨r + 1, first, os, W', u', by omega, by omega, by go_num, rfl, HP'.out, hl', HR⟩
                case measure => simp [intOf] <;> omega
              · have d0 : ((i : Int) == 0) = false := by simp only [beq_eq_false_iff_ne, ne_eq]; omega
                obtain ⟨iop, ok, lgb⟩ := HP'.out.ops k hk
                have low := HP'.out.low
                have HDN := Lib.hid (done_any (gb k) (os k) wr iop)
                have hR := HR.use hi0
                have hcase : os k = th3 i x0 ∨ (first = false ∧ ∃ b, os k = th4 i x0 b) := by
                  rcases hR with ⟨_, _, h3⟩ | ⟨h1, _, h3⟩
                  · exact .inl (h3 k hk)
                  · rcases h3 k hk with h | h
                    · exact .inl h
                    · exact .inr ⟨h1, h⟩
                rcases hcase with hos | ⟨rfl, b, hos⟩
                · rw [hos, (th3_kind i x0).2.2, decide_eq_false hi0] at HDN
                  rw [hos] at iop ok
                  have HT := Lib.hid (step_any (gb k) (th3 i x0) wr iop ok bm bw W' u' HP'.out.mem (by omega) (by omega))
                  obtain ⟨t1, t2, t3⟩ := th_fourth hl' hi0 x0 u'
                  obtain ⟨so, hso⟩ : ∃ so, so = stepD (th3 i x0) W' u' := ⟨_, rfl⟩
                  have HT2 := Lib.hid (show Calls Try.prog 16 #[.pointer (some ⟨gb k, 0, none⟩), .pointer (some ⟨bm, 0, none⟩)] wr fun e w' => (∃ b, e = .returned (.bool b)) ∧ IsOp w' (gb k) so.1 ∧ IsMem w' bm bw so.2.1 so.2.2 ∧ Chg [gb k, bm, bw] wr w' from HT.out.mono fun e w' h => ⟨⟨_, h.1⟩, hso ▸ h.2.1, hso ▸ h.2.2.1, h.2.2.2⟩)
                  rw [← hso] at t1 t2 t3
                  have hR2 : ∀ j, j < 5 → j ≠ k → os j = th3 i x0 ∨ ∃ b, os j = th4 i x0 b := fun j hj _ => by
                    rcases hR with ⟨_, _, h3⟩ | ⟨_, _, h3⟩
                    · exact .inl (h3 j hj)
                    · exact h3 j hj
                  have hF : (first = true ∧ so.1 = th4 i x0 true ∧ getA so.2.1 0 = 1) ∨ (first = false ∧ so.1 = th4 i x0 false ∧ getA so.2.1 0 = 1) := by
                    rcases hR with ⟨h1, h2, _⟩ | ⟨h1, h2, _⟩
                    · rw [h2, decide_eq_true rfl] at t1; rw [h2, if_pos rfl] at t3; exact .inl ⟨h1, t1, t3⟩
                    · rw [h2, decide_eq_false (by omega)] at t1; rw [h2, if_neg (by omega)] at t3; exact .inr ⟨h1, t1, t3⟩
                  clear hso HT t1 t3 hR iop ok hos
                  have T2 := Lib.hid t2
                  have R2 := Lib.hid hR2
                  clear t2 hR2
                  obtain ⟨g, off, rfl, cw⟩ := W0.out (by omega)
                  have ll : (0 : Int) < (l.length : Int) := by omega
                  have ln : 0 < l.length := by omega
                  have xx : ((x0 : Int) != (x0 : Int)) = false := by simp
                  have HCW := Lib.hid cw
                  have x0l : x0 < 18446744073709551616 := hx0l
                  clear cw
                  rcases hF with ⟨rfl, f1, f2⟩ | ⟨rfl, f1, f2⟩
                  all_goals
                    have F1 := Lib.hid f1
                    have F2 := Lib.hid f2
                    clear f1 f2
                    go_wp2_with (first
                      | (go_at_call 13; refine HDN.out.mono ?_; rintro e y ⟨rfl, rfl⟩)
                      | (go_at_call 16; refine HT2.out.mono ?_; rintro e w14 ⟨⟨bb, rfl⟩, H14, M14, C14⟩; rw [F1.out] at H14; have PS := HP'.out.step hk H14 (okTh4 _ _ _ (by omega) hx0l) M14 C14; have HPS := Lib.hid PS; have HRS := Lib.hid (result_any (gb k) _ w14 H14); rw [res_th4] at HRS; clear PS H14 M14 C14)
                      | (go_at_call 23; refine HRS.out.mono ?_; rintro e w15 ⟨rfl, C15⟩; have PF := Lib.hid (HPS.out.keep C15); have cw15 := cell_keep PF.out.chg HCW.out))
                    go_roundw
                    case rel =>
                      refine ⟨r + 1, false, _, _, _, by omega, by omega, by go_num, rfl, PF.out, T2.out, WinsR.mk (fun _ => .inr ⟨rfl, F2.out, fun j hj => ?_⟩)⟩
                      by_cases ej : j = k
                      · subst ej; rw [updO_same]; exact .inr ⟨_, rfl⟩
                      · rw [updO_other _ _ ej]; exact R2.out j hj ej
                    case measure => simp [intOf] <;> omega
                · rw [hos, show (th4 i x0 b).done = true from rfl] at HDN
                  clear hos iop ok hR
                  go_wp2_with (go_at_call 13; refine HDN.out.mono ?_; rintro e y ⟨rfl, rfl⟩)
                  go_roundw
                  case rel => exact ⟨r + 1, false, os, W', u', by omega, by omega, by go_num, rfl, HP'.out, hl', HR⟩
                  case measure => simp [intOf] <;> omega
            · rcases (show (r < q.length ∧ decide ((r : Int) < 20) = false) ∨ ¬ r < q.length by by_cases h : r < q.length; exact .inl ⟨h, by simp; omega⟩; exact .inr h) with ⟨hkl2, d150⟩ | hkl2
              all_goals
                clear hrl
                go_wp2_with (go_at_call 18; refine (awake_any _).mono ?_; rintro e w17 ⟨rfl, C17⟩)
                go_ret
                exact ⟨rfl, HP'.out.chg.then C17 (by simp)⟩

namespace dequeWins
open Go.ChangeShapes Go.WideShapes Go.ChangeAt
theorem own : ownKnob Try.prog.godebug = none := by kernel_rfl
theorem laidOut : laidOutB Try.prog = true := by kernel_rfl

set_option maxRecDepth 100000 in
theorem lifted (os : Os) (started : os.Started) (H : Type) (enc : TypeId × Value → H) :
    ReturnsInHanded {} Try.checked os 4 .any (Rows.dequeWinsSpec.pre6 enc Try.prog Try.f4 Rows.dequeWinsRow.domain false) (Rows.dequeWinsSpec.post enc Try.prog Try.f4 false true false false) := by
  refine returnsInHanded_of_change (C := Try.checked) own started (by kernel_rfl) Try.func4
    (ChangeSpec.witness6 (enc := enc) (C := Try.checked) false ⟨#[], #[.slice none 0 0, .slice none 0 0], []⟩ 8 (by kernel_rfl) (by kernel_rfl) (by kernel_rfl) (by kernel_rfl)) ?_
  intro W base args ds gs before hval0 hW hcnd _
  have hval : ∀ (j : Nat) t v, Try.f4.params[j]? = some t → args[j]? = some v → Value.okWide Try.prog W .any base t v := hval0
  have hW' := hW
  obtain ⟨p, q, hA0, hV, rfl, hfz, hnd⟩ := hW
  have hA : DataW.TrodAll enc Try.prog W 0 (fun _ => true) true Try.f4.params.toList args.toList ds p := hA0
  rw [Try.params4] at hA hval
  obtain ⟨v0, vs0, d0, ds0, p0, q0, hargs, rfl, rfl, h0, r0⟩ := trodAll_cons hA
  obtain ⟨v1, vs1, d1, ds1, p1, q1, rfl, rfl, rfl, h1, r1⟩ := trodAll_cons r0
  obtain ⟨rfl, rfl, rfl⟩ := trodAll_nil r1
  obtain rfl : args = #[v0, v1] := by cases args; simp_all
  obtain ⟨rfl, rfl⟩ := trodVars_none hV
  obtain ⟨a0, len0, cap0, rfl⟩ := okWide_slice Try.underlying46 (hval 0 46 v0 rfl rfl)
  have k0 := h0
  have lt0 : ∀ x ∈ p0, x.block < W.heap.size := by obtain ⟨m, hm⟩ := k0; exact DataW.trod_lt m _ _ _ hm
  obtain ⟨l0, hl0, hr0⟩ := open_words Try.underlying46 Try.underlying22 (by kernel_rfl) h0
  obtain ⟨a1, len1, cap1, rfl⟩ := okWide_slice Try.underlying47 (hval 1 47 v1 rfl rfl)
  have k1 := h1
  have lt1 : ∀ x ∈ p1, x.block < W.heap.size := by obtain ⟨m, hm⟩ := k1; exact DataW.trod_lt m _ _ _ hm
  obtain ⟨l1, hl1, hr1⟩ := open_small Try.underlying47 Try.underlying5 (by kernel_rfl) h1
  clear hA0 hval0
  simp only [List.append_nil] at hW'
  refine (dequeWins_walk W _ l0 hl0 hr0 _ l1 hl1 hr1).mono fun e W' ⟨he, hg⟩ => ?_
  subst he
  exact ⟨_, rfl, _, _, _, [], _, [], hW', trodAll_mk1 (shut_bool Try.underlying4 _), (trodAll_cons_mk (Below.trod laidOut (by kernel_rfl) (of_decide_eq_true (by kernel_rfl)) k0 hg.below lt0) (trodAll_cons_mk (Below.trod laidOut (by kernel_rfl) (of_decide_eq_true (by kernel_rfl)) k1 hg.below lt1) trodAll_mk0)), rfl, hg.below.frame _, fun h => by cases h⟩

theorem over : Rows.dequeWinsRow.holds Try.pinned (OpenSpec.ofChange Rows.dequeWinsSpec) :=
  OpenClaim.holds_of_wide 4 Try.f4 rfl rfl rfl rfl rfl rfl rfl ⟨rfl, rfl, rfl, rfl, rfl⟩ rfl rfl rfl rfl rfl (by kernel_rfl) Try.func4 (by kernel_rfl)
    (of_decide_eq_true (by kernel_rfl)) (by unfold Func.isWrapper; first | (rw [if_pos (by decide +kernel)]; kernel_rfl) | (rw [if_neg (by decide +kernel)]; exact ⟨rfl, rfl⟩))
    (fun os started H enc _ => lifted os started H enc)
end dequeWins

theorem dequeWins_holds : Rows.DequeWinsSaid := dequeWins.over
#print axioms dequeWins_holds
end Go.Proofs.Ytidooepalfegdaa

