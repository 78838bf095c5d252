/- rack: all its words. -/
import Derived.Test.YtjdbgohfedjifaaGreatDoorRkP2
import Derived.Test.YtjdbgohfedjifaaGreatDoorBs
import Derived.Deep.MidRow
namespace Bosun
open Go
/-- So many of a rack's cells from a place on. -/
def seg (r : RRack) (a n : Nat) : Array Value := ((List.range n).map fun i => rackCell r (a + i)).toArray
theorem seg_cut (r : RRack) {a n i m : Nat} (h : i + m ≤ n) : (seg r a n).extract i (i + m) = seg r (a + i) m := by
  apply Array.ext
  · simp [seg]; omega
  · intro j h1 h2
    simp [seg, Nat.add_assoc]
/-- The words of the first deques. -/
def allTo16 (r : RRack) (M : List Nat) (c : Nat) : List Nat := (List.range c).flatMap fun c => allD (r.at (c / 8) (c % 8)) r.cap M
def allR (r : RRack) (M : List Nat) : List Nat := allTo16 r M 16
theorem allTo16_succ (r : RRack) (M : List Nat) (c : Nat) : allTo16 r M (c + 1) = allTo16 r M c ++ allD (r.at (c / 8) (c % 8)) r.cap M := by
  unfold allTo16; rw [List.range_succ, List.flatMap_append]; simp
theorem allD_len (base : Int) (cap : Nat) (W : List Nat) : (allD base cap W).length ≤ cap := by unfold allD; rw [List.length_map, List.length_range]; exact lenD_le _ _ _
theorem allTo16_len (r : RRack) (M : List Nat) : ∀ c, (allTo16 r M c).length ≤ c * r.cap
  | 0 => by simp [allTo16]
  | c + 1 => by
    rw [allTo16_succ, List.length_append, Nat.add_mul]
    have := allTo16_len r M c
    have := allD_len (r.at (c / 8) (c % 8)) r.cap M
    omega
theorem words_app (l m : List Nat) : words (l ++ m) = words l ++ words m := by simp [words]
end Bosun
namespace Go.Proofs.YtjdbgohfedjifaaGreatDoor
open Go.RowKit Bosun
theorem wpList_index {P : Program} {ops : Array Oper} {rest : List Oper} {o : Oper} {a : Go.Act} {w : World} {Q : Exit → Go.Act → World → Prop} (hgd : o.guard = none) (T : TypeId) (x i : Operand) (ho : o.op = .index T x i)
    (v iv : Value) (hx : a.eval x = v) (hi : a.eval i = iv) (r : Value) (hr : (Instr.index T v iv).run P w = .ok r w) (h : wpList P ops Q rest (a.put o.dst r) w) : wpList P ops Q (o :: rest) a w :=
  wpList_val hgd (by unfold execOp; simp only [ho, hx, hi, Sem.run_bind, hr, Result.andThen_ok, Sem.run_pure]) h
theorem ix72 (cs : Array Value) {k : Nat} (hk : k < 2) (w : World) : (Instr.index 72 (.agg cs) (.int .i64 (k : Nat))).run Tryz.prog w = .ok (.agg (cs.extract (16 * k) (16 * k + 16))) w := by
  rcases (show k = 0 ∨ k = 1 by omega) with rfl | rfl <;> kernel_rfl
theorem ix71 (cs : Array Value) {l : Nat} (hl : l < 8) (w : World) : (Instr.index 71 (.agg cs) (.int .i64 (l : Nat))).run Tryz.prog w = .ok (.agg (cs.extract (2 * l) (2 * l + 2))) w := by
  rcases (show l = 0 ∨ l = 1 ∨ l = 2 ∨ l = 3 ∨ l = 4 ∨ l = 5 ∨ l = 6 ∨ l = 7 by omega) with rfl | rfl | rfl | rfl | rfl | rfl | rfl | rfl <;> kernel_rfl
theorem seg_dq (r : RRack) {k l : Nat} (hk : k < 2) (hl : l < 8) : ((seg r 1 32).extract (16 * k) (16 * k + 16)).extract (2 * l) (2 * l + 2) = #[.int .i64 (r.at k l), .int .i64 (r.cap : Nat)] := by
  rw [seg_cut r (by omega), seg_cut r (by omega)]
  obtain ⟨h1, h2⟩ := rackCell_at r hk hl
  rw [show 1 + 16 * k + 2 * l = 1 + k * 16 + l * 2 from by omega]
  show #[rackCell r (1 + k * 16 + l * 2 + 0), rackCell r (1 + k * 16 + l * 2 + 1)] = _
  rw [Nat.add_zero, h1, h2]
theorem IsRk.range {W : World} {rb : Nat} {r : RRack} (h : IsRk W rb r) : W.rangeAt rb 1 (seg r 1 32).toList := by
  intro j v hj
  have hj2 : j < 32 := by have := (List.getElem?_eq_some_iff.1 hj).1; simpa [seg] using this
  rw [Blk.cell h, rackRow_get r (by omega)]
  simp [seg, hj2] at hj
  rw [← hj]
theorem seg_one (r : RRack) (a n : Nat) (ha : 1 ≤ a) (hn : a + n ≤ 33) : (seg r a n).all (·.oneCell') = true := by
  rw [Array.all_eq_true]
  intro i h
  simp only [seg, List.getElem_toArray, List.getElem_map, List.getElem_range]
  have hi : i < n := by simpa [seg] using h
  unfold rackCell
  rw [if_neg (by omega), if_pos (by omega)]
  split <;> rfl
theorem zero71 (w : World) : (Instr.alloc 71 true (.tuple #[])).run Tryz.prog w = .ok (.pointer (some ⟨w.heap.size, 0, none⟩)) (w.alloc (.cells (Array.replicate 16 (.int .i64 0)) 71)) := by kernel_rfl
set_option maxRecDepth 8000 in
set_option maxHeartbeats 8000000 in
theorem rackall_any (W : World) (rb bm bw : Nat) (r : RRack) (M : List Nat) (u : Nat) (h : IsRk W rb r) (hm : IsMem W bm bw M u) (ok : OkRack r) :
    Calls Tryz.prog 20 #[.pointer (some ⟨rb, 0, none⟩), .pointer (some ⟨bm, 0, none⟩)] W fun e W' => ∃ v, e = .returned v ∧ Own W' W.heap.size 35 v (words (allR r M)) ∧ Chg [] W W' := by
  have HH := Lib.hid (And.intro h (And.intro hm ok))
  have HRG := Lib.hid h.range
  have HDQ := Lib.hid (fun (k l : Nat) (hk : k < 2) (hl : l < 8) => seg_dq r hk hl)
  have H1 := Lib.hid (seg_one r 1 32 (by omega) (by omega))
  have HC := Lib.hid (fun k (hk : k < 2) => show (seg r 1 32).extract (16 * k) (16 * k + 16) = seg r (1 + 16 * k) 16 from seg_cut r (by omega))
  have HO := Lib.hid (fun k (hk : k < 2) => seg_one r (1 + 16 * k) 16 (by omega) (by omega))
  have hsz : (seg r 1 32).toList.length = 32 := by simp [seg]
  have HAT := Lib.hid (fun (k l : Nat) (hk : k < 2) (hl : l < 8) => atOk ok hk hl)
  have HAL := Lib.hid (fun (w : World) (hm : IsMem w bm bw M u) (k l : Nat) (hk : k < 2) (hl : l < 8) => dall_any (r.at k l) (atOk ok hk hl).1 (atOk ok hk hl).2 r.cap ok.cap bm bw M u w hm)
  have HLE := Lib.hid (And.intro (allTo16_len r M) ok.cap.le)
  have HEND := Lib.hid (show allR r M = allTo16 r M 16 from rfl)
  obtain ⟨cs, hcs⟩ : ∃ cs, cs = seg r 1 32 := ⟨_, rfl⟩
  rw [← hcs] at HRG HDQ HC hsz
  obtain ⟨c16, hc16⟩ : ∃ c16 : Nat → Array Value, c16 = fun k => cs.extract (16 * k) (16 * k + 16) := ⟨_, rfl⟩
  have HI72 := Lib.hid (fun k (hk : k < 2) w => show (Instr.index 72 (.agg cs) (.int .i64 (k : Nat))).run Tryz.prog w = .ok (.agg (c16 k)) w by rw [hc16]; exact ix72 cs hk w)
  have HI71 := Lib.hid (fun (k l : Nat) (hk : k < 2) (hl : l < 8) w => show (Instr.index 71 (.agg (c16 k)) (.int .i64 (l : Nat))).run Tryz.prog w = .ok (.agg #[.int .i64 (r.at k l), .int .i64 (r.cap : Nat)]) w by rw [ix71 (c16 k) hl w, hc16]; simp only [HDQ.out k l hk hl])
  have HC16 := Lib.hid (fun k (hk : k < 2) => show (c16 k).size = 16 ∧ (c16 k).all (·.oneCell') = true by
    rw [hc16]; simp only [HC.out k hk]; exact ⟨by simp [seg], HO.out k hk⟩)
  have hi72 : (Tryz.prog.info? 72).map (·.size) = some cs.toList.length := by rw [hsz]; kernel_rfl
  have HSZ := Lib.hid hi72
  clear h hm ok hcs hc16 hsz HDQ HC HO H1 hi72
  go_enter Tryz.func20, Tryz.ntmps20
  go_wp2_with (refine wpList_load_mid rfl 72 (.tmp 14) rfl rb 1 rfl cs.toList _ HRG.out Tryz.underlying72 rfl HSZ.out ?_)
  have HA72 : (Value.agg cs.toList.toArray) = .agg cs := by rw [Array.toArray_toList]
  rw [HA72]
  clear HA72
  go_loopw [5, 7, 9, 16, 20] (fun x5 _ _ x16 _ wr => ∃ k : Nat, k ≤ 2 ∧ x16 = .int .i64 k ∧ Own wr W.heap.size 35 x5 (words (allTo16 r M (8 * k))) ∧ Chg [] W wr) (fun _ _ _ x16 _ _ => 2 - (intOf x16).toNat)
  case atStart => exact ⟨0, by omega, rfl, Own.nil _ _ _, Chg.refl _ _⟩
  case round =>
    obtain ⟨k, hk, rfl, O, C⟩ := hrel
    by_cases hk2 : k < 2
    · have hk2i : (k : Int) < 2 := by omega
      have hk0i : (0 : Int) ≤ (k : Int) := by omega
      have HI := Lib.hid (HI72.out k hk2)
      obtain ⟨hs16, ho16⟩ := HC16.out k hk2
      have HS16 := Lib.hid hs16
      have HO16 := Lib.hid ho16
      have HI2 := Lib.hid (fun l (hl : l < 8) w => HI71.out k l hk2 hl w)
      obtain ⟨row, hrow⟩ : ∃ row, row = c16 k := ⟨_, rfl⟩
      rw [← hrow] at HI HS16 HO16 HI2
      have HOC := Lib.hid (And.intro O C)
      clear O C hs16 ho16 hrow
      have h16 : (Tryz.prog.info? 71).map (·.size) = some row.size := by rw [HS16.out]; kernel_rfl
      have H16 := Lib.hid h16
      clear h16
      go_wp2_with (first
        | (refine wpList_index rfl 72 (.tmp 15) (.tmp 16) rfl _ _ rfl rfl _ (HI.out _) ?_)
        | (refine wpList_new_row rfl 71 rfl (Array.replicate 16 (.int .i64 0)) (zero71 _) ?_; intro w3 B3 C3 z3)
        | (refine wpList_put_row rfl 71 (.tmp 7) (.tmp 18) rfl wr.heap.size row rfl rfl 71 _ B3 H16.out (by rw [HS16.out]; rfl) HO16.out ?_; intro w4 B4 C4)
        | (refine wpList_get_row rfl 71 (.tmp 7) rfl wr.heap.size rfl 71 row _ B4 Tryz.underlying71 rfl H16.out ?_)
        | fail)
      have C5 : Chg [] W w4 := (HOC.out.2.then C3 (by simp)).then C4 (fun g hg => .inr (by simp at hg; subst hg; exact HOC.out.2.size))
      have O5 : Own w4 W.heap.size 35 u5 (words (allTo16 r M (8 * k))) := (HOC.out.1.keep C3).chg C4 (fun g hg => by
        simp at hg; subst hg
        intro he
        have := (HOC.out.1.block wr.heap.size (by rw [he]; simp)).2
        omega)
      have HOC5 := Lib.hid (And.intro O5 C5)
      clear C5 O5 B3 C3 z3 B4 C4 HOC HI HO16 H16 HS16
      go_loopw [5, 9, 20] (fun y5 _ x20 ws => ∃ l : Nat, l ≤ 8 ∧ x20 = .int .i64 l ∧ Own ws W.heap.size 35 y5 (words (allTo16 r M (8 * k + l))) ∧ Chg [] W ws) (fun _ _ x20 _ => 8 - (intOf x20).toNat)
      case atStart => exact ⟨0, by omega, rfl, HOC5.out.1, HOC5.out.2⟩
      case round =>
        obtain ⟨l, hl, rfl, O, C⟩ := hrel
        by_cases hl8 : l < 8
        · have hl8i : (l : Int) < 8 := by omega
          have hl0i : (0 : Int) ≤ (l : Int) := by omega
          have HI := Lib.hid (HI2.out l hl8)
          have HA := Lib.hid (fun w hm => HAL.out w hm k l hk2 hl8)
          have HSU := Lib.hid (allTo16_succ r M (8 * k + l))
          have hq1 : (8 * k + l) / 8 = k := by omega
          have hq2 : (8 * k + l) % 8 = l := by omega
          rw [hq1, hq2] at HSU
          have hln := HLE.out.1 (8 * k + l)
          have hcp := HLE.out.2.2
          have hmul : (8 * k + l) * r.cap ≤ 16 * 256 := Nat.mul_le_mul (by omega) hcp
          have hdl := allD_len (r.at k l) r.cap M
          have HLN := Lib.hid (show (words (allTo16 r M (8 * k + l))).length + (words (allD (r.at k l) r.cap M)).length ≤ 5000 by rw [words_len, words_len]; omega)
          obtain ⟨at_, hat⟩ : ∃ a, a = r.at k l := ⟨_, rfl⟩
          rw [← hat] at HI HA HSU HLN
          have HOC := Lib.hid (And.intro O C)
          clear O C hln hcp hmul hdl hat hq1 hq2
          go_wp2_with (first
            | (refine wpList_index rfl 71 (.tmp 19) (.tmp 20) rfl _ _ rfl rfl _ (HI.out _) ?_)
            | (go_at_call 50; refine (HA.out _ (HH.out.2.1.keep (HOC.out.2.alloc _))).mono ?_; rintro e w6 ⟨vd, rfl, O6, C6⟩; have O5 := (HOC.out.1.alloc (.cells #[.int .i64 at_, .int .i64 (r.cap : Nat)] 70)).keep C6; have C56 := (HOC.out.2.alloc (.cells #[.int .i64 at_, .int .i64 (r.cap : Nat)] 70)).then C6 (by simp))
            | (refine wpList_app_own rfl (.tmp 23) (.tmp 26) 36 rfl W.heap.size 35 (.int .u64 0) 8 Tryz.underlying36 infoU64' rfl _ _ rfl O5 _ _ _ _ rfl O6 (fun y hy => by simp only [words, List.mem_map] at hy; obtain ⟨z, _, rfl⟩ := hy; rfl) (by have := HLN.out; unfold maxLen; omega) (by have := HLN.out; omega) C56.size ?_; intro v' w7 O7 C7 _; rw [← words_app, ← HSU.out] at O7; have C8 := C56.then C7 (fun g hg => .inr (O5.block g hg).1); have HO7 := Lib.hid (And.intro O7 C8); clear O7 C7 C8 O5 C56 O6 C6)
            | fail)
          go_roundw
          case rel => exact ⟨l + 1, by omega, by go_num, by rw [show 8 * k + (l + 1) = 8 * k + l + 1 from rfl]; exact HO7.out.1, HO7.out.2⟩
          case measure => simp [intOf] <;> omega
        · obtain rfl : l = 8 := by omega
          have HOC := Lib.hid (And.intro O C)
          clear O C
          rw [show ((8 : Nat) : Int) = 8 from rfl]
          go_wp2_with fail
          go_roundw
          case rel => exact ⟨k + 1, by omega, by go_num, by rw [show 8 * (k + 1) = 8 * k + 8 from by omega]; exact HOC.out.1, HOC.out.2⟩
          case measure => simp [intOf] <;> omega
    · obtain rfl : k = 2 := by omega
      have HOC := Lib.hid (And.intro O C)
      clear O C
      rw [show ((2 : Nat) : Int) = 2 from rfl]
      go_wp2_with fail
      go_ret
      exact ⟨_, rfl, by rw [HEND.out]; exact HOC.out.1, HOC.out.2⟩
end Go.Proofs.YtjdbgohfedjifaaGreatDoor
