/- plan: what the page's examples need: Print of 3, Hex of 255, Line, and awake. -/
import Derived.Test.YtjohbnfeijhcmaaDoorPl5
import Derived.Laws.BytesArg
namespace Go.Proofs.YtjohbnfeijhcmaaDoor
open Go.RowKit Bosun Go.ChangeShapes Go.WideShapes Go.ChangeAt
/-- The text of bytes. -/
def strN (l : List Nat) : ByteArray := strOfNums (l.map fun (n : Nat) => ((n : Nat) : Int))
theorem run_str (w : World) (v : Value) (l : List Nat) (h : RdC w v (bytesV l)) : (convert 22 9 v).run Tryd.prog w = .ok (.string (strN l)) w := by
  obtain ⟨ao, cap, rfl, hm, hm2, hc⟩ := h
  cases l with
  | nil =>
    cases ao with
    | none => exact run_convert_bytes_nil w 22 5 Tryd.underlying22 Tryd.underlying5 _ _ 9 Tryd.underlying9
    | some a =>
      obtain ⟨g, off, s⟩ := a
      rw [run_convert_bytes_string w 22 9 5 _ _ cap Tryd.underlying22 Tryd.underlying5 Tryd.underlying9]
      exact run_bytesToString w ⟨g, off, s⟩ 0 cap [] (by simp [loadCells, loadCellsFrom])
  | cons x l =>
    obtain ⟨g, off, rfl, _⟩ := hc 0 (.int .u8 (x : Nat)) rfl
    rw [bytesV_len]
    refine run_convert_bytes_arg w 22 5 Tryd.underlying22 Tryd.underlying5 g off _ cap _ (by simp) ?_ 9 Tryd.underlying9
    intro i hi
    obtain ⟨g', off', he, hcell⟩ := hc i (.int .u8 ((x :: l)[i] : Nat)) (by rw [bytesV, List.getElem?_map, List.getElem?_eq_getElem hi]; rfl)
    simp at he
    obtain ⟨rfl, rfl⟩ := he
    rw [hcell]
    congr 2
    rw [List.getD, List.getElem?_map, List.getElem?_eq_getElem hi]; rfl
set_option maxHeartbeats 4000000 in
theorem small3 (w : World) : Calls Tryd.prog 34 #[.int .i64 3] w fun e w' => e = .returned (.string ⟨#[51]⟩) ∧ Chg [] w w' := by
  go_enter Tryd.func34, Tryd.ntmps34
  go_wp2_with fail
  go_ret
  exact ⟨by first | rfl | (congr 2 <;> rfl), Chg.refl _ _⟩
set_option maxHeartbeats 4000000 in
theorem ifmt3 (w : World) : Calls Tryd.prog 33 #[.int .u64 3, .int .i64 10] w fun e w' => e = .returned (.string ⟨#[51]⟩) ∧ Chg [] w w' := by
  go_enter Tryd.func33, Tryd.ntmps33
  go_wp2_with (go_at_call 34; refine (small3 _).mono ?_; rintro e w1 ⟨rfl, C⟩)
  go_ret
  exact ⟨rfl, C⟩
set_option maxHeartbeats 4000000 in
theorem fmt3 (w : World) : Calls Tryd.prog 32 #[.int .u64 3, .int .i64 10] w fun e w' => e = .returned (.string ⟨#[51]⟩) ∧ Chg [] w w' := by
  go_enter Tryd.func32, Tryd.ntmps32
  go_wp2_with (go_at_call 33; refine (ifmt3 _).mono ?_; rintro e w1 ⟨rfl, C⟩)
  go_ret
  exact ⟨rfl, C⟩
set_option maxHeartbeats 4000000 in
theorem print3 (w : World) : Calls Tryd.prog 30 #[.int .u64 3] w fun e w' => e = .returned (.string ⟨#[51]⟩) ∧ Chg [] w w' := by
  go_enter Tryd.func30, Tryd.ntmps30
  go_wp2_with (go_at_call 32; refine (fmt3 _).mono ?_; rintro e w1 ⟨rfl, C⟩)
  go_ret
  exact ⟨rfl, C⟩
/-- Hex of 255: the digits laid behind k rounds. -/
def hexN (k : Nat) : Nat := 255 / 16 ^ k
def hexRow (k : Nat) : List Nat := (List.range 16).map fun j => if 15 - j < k then (if 14 ≤ j then 102 else 48) else 0
theorem hexAnd : ∀ k : Fin 16, bits BinOp.and .u64 ((hexN k.val : Nat) : Int) 15 = if k.val < 2 then 15 else 0 := by decide +kernel
theorem hexZero : ∀ k : Fin 16, (bytesV (hexRow k.val)).toArray[15 - k.val]? = some (.int .u8 0) := by
  intro k
  have h : (hexRow k.val)[15 - k.val]? = some 0 := by
    have := k.isLt
    simp [hexRow, show 15 - k.val < 16 by omega]; omega
  rw [List.getElem?_toArray, bytesV, List.getElem?_map, h]; rfl
theorem hexN_succ (k : Nat) : ((hexN k : Nat) : Int) / 16 = ((hexN (k + 1) : Nat) : Int) := by
  unfold hexN; rw [Nat.pow_succ, ← Nat.div_div_eq_div_mul]; rfl
theorem hexRow_succ : ∀ k : Fin 16, (hexRow k.val).set (15 - k.val) (if k.val < 2 then 102 else 48) = hexRow (k.val + 1) := by decide +kernel
theorem hexSet (k : Nat) (hk : k < 16) (x : Nat) : (bytesV (hexRow k)).toArray.setIfInBounds (15 - k) (.int .u8 (x : Nat)) = (bytesV ((hexRow k).set (15 - k) x)).toArray := by
  simp [bytesV, List.map_set]
set_option maxHeartbeats 4000000 in
theorem hex255 (w : World) : Calls Tryd.prog 31 #[.int .u64 255] w fun e w' => e = .returned (.string (strN (hexRow 16))) ∧ Chg [] w w' := by
  go_enter Tryd.func31, Tryd.ntmps31
  go_wp2_with fail
  obtain ⟨w1, hw1⟩ : ∃ w1, w1 = w.alloc (.cells (bytesV (hexRow 0)).toArray 52) := ⟨_, rfl⟩
  have B1 : Blk w1 w.heap.size (bytesV (hexRow 0)).toArray 52 := by rw [hw1]; exact Blk.new w _ _
  have C1 : Chg [] w w1 := by rw [hw1]; exact (Chg.refl _ _).alloc _
  rw [show (#[.int .u8 0, .int .u8 0, .int .u8 0, .int .u8 0, .int .u8 0, .int .u8 0, .int .u8 0, .int .u8 0, .int .u8 0, .int .u8 0, .int .u8 0, .int .u8 0, .int .u8 0, .int .u8 0, .int .u8 0, .int .u8 0] : Array Value) = (bytesV (hexRow 0)).toArray from rfl, ← hw1]
  obtain ⟨B, hB⟩ : ∃ B, B = w.heap.size := ⟨_, rfl⟩
  rw [← hB] at B1 ⊢
  have HB := Lib.hid (show w.heap.size ≤ B by rw [hB]; exact Nat.le_refl _)
  clear hw1 hB
  go_loopw [0, 4] (fun x0 x4 wr => ∃ k : Nat, k ≤ 16 ∧ x0 = .int .u64 (hexN k : Nat) ∧ x4 = .int .i64 (15 - (k : Int)) ∧ Blk wr B (bytesV (hexRow k)).toArray 52 ∧ Chg [] w wr) (fun _ x4 _ => (intOf x4 + 1).toNat)
  case atStart => exact ⟨0, by omega, rfl, rfl, B1, C1⟩
  case round =>
    obtain ⟨k, hk, rfl, rfl, BQ, CQ⟩ := hrel
    by_cases hk16 : k < 16
    · have h4 : (0 : Int) ≤ 15 - (k : Int) := by omega
      have h5 : (15 : Int) - (k : Int) < 16 := by omega
      have ht : ((15 : Int) - (k : Int)).toNat = 15 - k := by omega
      have hand := hexAnd ⟨k, hk16⟩
      simp only at hand
      have q2 : wr.cell? ⟨B, 15 - k, none⟩ = some (.int .u8 0) := by
        rw [BQ.cell]; exact hexZero ⟨k, hk16⟩
      have qz : wr.frozen? ⟨B, 15 - k, none⟩ = false := BQ.frozen _
      obtain ⟨N, hN⟩ : ∃ N, N = hexN k := ⟨_, rfl⟩
      rw [← hN] at hand ⊢
      have HN := Lib.hid hN
      clear hN
      by_cases hk2 : k < 2
      · have hS := hexRow_succ ⟨k, hk16⟩
        simp only at hS
        rw [if_pos hk2] at hand hS
        have HS := Lib.hid hS
        clear hS
        go_wp2_with fail
        exact ⟨⟨k + 1, by omega, by rw [HN.out, hexN_succ], by go_num, by have h := BQ.setCell (15 - k) (.int .u8 (102 : Nat)); rw [hexSet k hk16, HS.out] at h; exact h, CQ.setCell (.inr HB.out) _⟩, by simp only [intOf]; omega⟩
      · have hS := hexRow_succ ⟨k, hk16⟩
        simp only at hS
        rw [if_neg hk2] at hand hS
        have HS := Lib.hid hS
        clear hS
        go_wp2_with fail
        exact ⟨⟨k + 1, by omega, by rw [HN.out, hexN_succ], by go_num, by have h := BQ.setCell (15 - k) (.int .u8 (48 : Nat)); rw [hexSet k hk16, HS.out] at h; exact h, CQ.setCell (.inr HB.out) _⟩, by simp only [intOf]; omega⟩
    · obtain rfl : k = 16 := by omega
      have hcv := run_str wr (.slice (some ⟨B, 0, none⟩) 16 16) (hexRow 16) (RdC.of_reads (BQ.reads 16 16 (by simp [bytesV, hexRow]) (by simp [bytesV, hexRow, maxLen]) rfl) (by omega))
      clear BQ B1
      go_wp2_with fail
      go_ret
      exact ⟨rfl, CQ⟩
theorem hexRow16 : hexRow 16 = [48, 48, 48, 48, 48, 48, 48, 48, 48, 48, 48, 48, 48, 48, 102, 102] := by decide +kernel
theorem line3_txt : (⟨#[115, 116, 101, 112, 32]⟩ : ByteArray) ++ ⟨#[51]⟩ ++ ⟨#[32, 116, 105, 99, 107]⟩ ++ (⟨#[32]⟩ ++ strN (hexRow 16)) = ⟨#[115, 116, 101, 112, 32, 51, 32, 116, 105, 99, 107, 32, 48, 48, 48, 48, 48, 48, 48, 48, 48, 48, 48, 48, 48, 48, 102, 102]⟩ := by
  rw [hexRow16]
  rfl
set_option maxHeartbeats 4000000 in
theorem line3 (w : World) : Calls Tryd.prog 24 #[.agg #[.int .i64 3, .bool true, .int .u64 255]] w fun e w' => e = .returned (.string ⟨#[115, 116, 101, 112, 32, 51, 32, 116, 105, 99, 107, 32, 48, 48, 48, 48, 48, 48, 48, 48, 48, 48, 48, 48, 48, 48, 102, 102]⟩) ∧ Chg [] w w' := by
  have HG := Lib.hid (fun w => good_any ⟨3, true, 255⟩ 64 w)
  rw [decide_eq_true (show Ent.good ⟨3, true, 255⟩ 64 by decide)] at HG
  go_enter Tryd.func24, Tryd.ntmps24
  go_wp2_with (first
    | (go_at_call 16; refine (HG.out _).mono ?_; rintro e w1 ⟨rfl, C1⟩
       have B1 := (Blk.new w #[.int .i64 3, .bool true, .int .u64 255] 36).chg C1 (by simp)
       have k0 : w1.cell? ⟨w.heap.size, 0, none⟩ = some (.int .i64 3) := B1.cell 0)
    | (go_at_call 30; refine (print3 _).mono ?_; rintro e w2 ⟨rfl, C2⟩
       have B2 := B1.chg C2 (by simp)
       have k1 : w2.cell? ⟨w.heap.size, 1, none⟩ = some (.bool true) := B2.cell 1
       have k2 : w2.cell? ⟨w.heap.size, 2, none⟩ = some (.int .u64 255) := B2.cell 2)
    | (go_at_call 31; refine (hex255 _).mono ?_; rintro e w3 ⟨rfl, C3⟩)
    | fail)
  go_ret
  exact ⟨congrArg (fun s => Ending.returned (Value.string s)) line3_txt, (((Chg.refl _ _).alloc _).then C1 (by simp)).then (C2.then C3 (by simp)) (by simp)⟩
theorem enc1_txt : strN (encE [⟨3, true, 255⟩]) = ⟨#[195, 0, 0, 0, 0, 0, 0, 0, 255]⟩ := by rfl
theorem readsE_one {w : World} {g c : Nat} {t : TypeId} {e : Ent} (h : Blk w g e.cells.toArray t) : ReadsE w (.slice (some ⟨g, 0, none⟩) 1 c) [e] :=
  ⟨_, c, rfl, by simp [maxLen], fun i r hr => ⟨g, 0, rfl, fun j y hy => by
    have hi : i = 0 := by have := (List.getElem?_eq_some_iff.1 hr).1; simp at this; exact this
    subst hi
    simp at hr
    subst hr
    rw [show 0 + 0 * 3 + j = j from by omega, h.cell]
    simpa using hy⟩⟩
theorem enc1_any (w : World) (v : Value) (h : ReadsE w v [⟨3, true, 255⟩]) : Calls Tryd.prog 8 #[v] w fun e w' => ∃ u, e = .returned (.tuple #[u, .int .i64 0]) ∧ (convert 22 9 u).run Tryd.prog w' = .ok (.string ⟨#[195, 0, 0, 0, 0, 0, 0, 0, 255]⟩) w' ∧ Chg [] w w' := by
  refine (encode_any v [⟨3, true, 255⟩] w h (by simp) ?_).mono ?_
  · intro e he
    obtain rfl := List.mem_singleton.1 he
    exact ⟨by unfold Ent.good; simp, by unfold Ent.small; simp⟩
  · rintro e w2 ⟨u, rfl, O2, C2⟩
    have hcv := run_str w2 u _ (RdC.of_own O2)
    rw [enc1_txt] at hcv
    exact ⟨u, rfl, hcv, C2⟩
set_option maxHeartbeats 4000000 in
theorem awake_any (w : World) : Calls Tryd.prog 11 #[] w fun e w' => e = .returned (.bool true) ∧ Chg [] w w' := by
  go_enter Tryd.func11, Tryd.ntmps11
  go_upto_region 2 with (fail)
  obtain ⟨w1, hw1⟩ : ∃ w1, w1 = w.alloc (.cells #[.int .i64 3, .bool true, .int .u64 255] 36) := ⟨_, rfl⟩
  have B1 : Blk w1 w.heap.size #[.int .i64 3, .bool true, .int .u64 255] 36 := by rw [hw1]; exact Blk.new w _ _
  have C1 : Chg [] w w1 := by rw [hw1]; exact (Chg.refl _ _).alloc _
  rw [← hw1]
  clear hw1
  have k0 : w1.cell? ⟨w.heap.size, 0, none⟩ = some (.int .i64 3) := B1.cell 0
  have k1 : w1.cell? ⟨w.heap.size, 1, none⟩ = some (.bool true) := B1.cell 1
  have k2 : w1.cell? ⟨w.heap.size, 2, none⟩ = some (.int .u64 255) := B1.cell 2
  go_wp2_with (first
    | (go_at_call 8
       have B4 := Blk.new w1 #[.int .i64 3, .bool true, .int .u64 255] 36
       refine (enc1_any _ _ (readsE_one (e := ⟨3, true, 255⟩) B4)).mono ?_
       rintro e w2 ⟨u, rfl, hcv, C2⟩
       have B2 := (B1.alloc (.cells #[.int .i64 3, .bool true, .int .u64 255] 36)).chg C2 (by simp)
       have CC := (C1.alloc (.cells #[.int .i64 3, .bool true, .int .u64 255] 36)).then C2 (by simp)
       have k3 : w2.cell? ⟨w.heap.size, 0, none⟩ = some (.int .i64 3) := B2.cell 0
       have k4 : w2.cell? ⟨w.heap.size, 1, none⟩ = some (.bool true) := B2.cell 1
       have k5 : w2.cell? ⟨w.heap.size, 2, none⟩ = some (.int .u64 255) := B2.cell 2
       clear k0 k1 k2)
    | (go_at_call 24; refine (line3 _).mono ?_; rintro e w3 ⟨rfl, C3⟩)
    | fail)
  go_ret
  exact ⟨rfl, CC.then C3 (by simp)⟩
end Go.Proofs.YtjohbnfeijhcmaaDoor
