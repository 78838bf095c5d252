/- rack: Hold, sure, Words; what begins (Put, Take). -/
import Derived.Test.YtjdbgohfedjifaaGreatDoorRk9
import Derived.Test.YtjdbgohfedjifaaGreatDoorBs
import Derived.Test.YtjdbgohfedjifaaGreatDoorMm
import Derived.Test.YtjdbgohfedjifaaGreatDoorRkP4b
namespace Bosun
open Go
/-- A level, held. -/
def holdL (l : Int) : Nat := (min (max l 0) 7).toNat
theorem holdL_lt (l : Int) : holdL l < 8 := by unfold holdL; omega
theorem holdL_int (l : Int) : min (max l 0) 7 = (holdL l : Int) := by unfold holdL; omega
end Bosun
namespace Go.Proofs.YtjdbgohfedjifaaGreatDoor
open Go.RowKit Bosun
theorem ghold_any (l : Int) (w : World) : Calls Tryz.prog 59 #[.int .i64 l] w fun e w' => e = .returned (.int .i64 (holdL l : Nat)) ∧ w = w' := by
  have h1 := holdL_int l
  obtain ⟨z, hz⟩ : ∃ z, z = holdL l := ⟨_, rfl⟩
  rw [← hz] at h1 ⊢
  have a1 : max l 0 = if l < 0 then 0 else l := by split <;> omega
  have a2 : min (max l 0) 7 = if 7 < max l 0 then 7 else max l 0 := by split <;> omega
  rw [h1] at a2
  obtain ⟨y, hy⟩ : ∃ y, y = max l 0 := ⟨_, rfl⟩
  rw [← hy] at a1 a2
  have A1 := Lib.hid a1
  have A2 := Lib.hid a2
  clear h1 hz hy a1 a2
  go_enter Tryz.func59, Tryz.ntmps59
  go_wp2_with (first
    | (refine wpList_max rfl (.tmp 3) _ _ _ rfl .i64 l 0 y rfl rfl ?_ ?_; first | exact A1.out | (rw [A1.out]; done) | (rw [A1.out]; split <;> split <;> omega))
    | (refine wpList_min rfl (.tmp 4) _ _ _ rfl .i64 y 7 (z : Int) rfl rfl ?_ ?_; first | exact A2.out | (rw [A2.out]; split <;> split <;> omega)))
  go_ret
  exact ⟨rfl, rfl⟩
theorem rhold5_any (l : Int) (w : World) : Calls Tryz.prog 63 #[.int .i64 l] w fun e w' => e = .returned (.int .i64 (holdL l : Nat)) ∧ w = w' := by
  have h1 : (if l < 0 then 0 else if l > 7 then 7 else l) = (holdL l : Int) := by unfold holdL; split <;> (try split) <;> omega
  have H1 := Lib.hid h1
  clear h1
  go_enter Tryz.func63, Tryz.ntmps63
  by_cases h0 : l < 0
  · go_wp2_with fail
    go_ret
    exact ⟨ret_int (by rw [← H1.out]; split <;> (try split) <;> omega), rfl⟩
  · by_cases h7 : l > 7
    · go_wp2_with fail
      go_ret
      exact ⟨ret_int (by rw [← H1.out]; split <;> (try split) <;> omega), rfl⟩
    · go_wp2_with fail
      go_ret
      exact ⟨ret_int (by rw [← H1.out]; split <;> (try split) <;> omega), rfl⟩
theorem bin_nilF (w : World) : (binOp .eql 79 .nilFunc .nilFunc).run Tryz.prog w = .ok (.bool true) w := by kernel_rfl
set_option maxRecDepth 8000 in
theorem sure_nil (w : World) : Calls Tryz.prog 58 #[.nilFunc] w fun e w' => e = .returned (.func (.func 92) #[] #[]) ∧ w = w' := by
  go_enter Tryz.func58, Tryz.ntmps58
  go_wp2_with fail
  rw [bin_nilF]
  go_wp2_with fail
  go_ret
  exact ⟨rfl, rfl⟩
theorem sure1_any (x : Nat) (w : World) : Calls Tryz.prog 92 #[.int .u64 (x : Nat)] w fun e w' => e = .returned (.bool true) ∧ w = w' := by
  go_enter Tryz.func92, Tryz.ntmps92
  go_wp2_with fail
  go_ret
  exact ⟨rfl, rfl⟩
theorem rwords_any (c : Int) (h0 : -9223372036854775808 ≤ c) (h1 : c ≤ 9223372036854775807) (w : World) :
    Calls Tryz.prog 22 #[.int .i64 c] w fun e w' => e = .returned (.int .i64 (1 + 16 * (2 + (holdN c : Nat)))) ∧ w = w' := by
  have HL := Lib.hid (fun w => words_any c h0 h1 w)
  have hl := (holdN_pow2 c).le
  obtain ⟨n, hn⟩ : ∃ n, n = holdN c := ⟨_, rfl⟩
  rw [← hn] at HL hl ⊢
  clear h0 h1 hn
  go_enter Tryz.func22, Tryz.ntmps22
  go_wp2_with fail
  refine (HL.out _).mono ?_
  rintro e w1 ⟨rfl, rfl⟩
  go_wp2_with fail
  go_ret
  exact ⟨rfl, rfl⟩
set_option maxHeartbeats 4000000 in
theorem rtake_any (W : World) (rb bm bw : Nat) (r : RRack) (M : List Nat) (u : Nat) (h : IsRk W rb r) (hm : IsMem W bm bw M u) (ok : OkRack r) :
    Calls Tryz.prog 29 #[.pointer (some ⟨rb, 0, none⟩)] W fun e W' => ∃ wb, e = .returned (.pointer (some ⟨wb, 0, none⟩)) ∧ Rig W' wb rb bm bw .nilFunc none r takeW M u ∧ Chg [] W W' ∧ W.heap.size ≤ wb := by
  have HH := Lib.hid (And.intro h (And.intro hm ok))
  clear h hm ok
  go_enter Tryz.func29, Tryz.ntmps29
  go_wp2_with fail
  go_ret
  exact ⟨W.heap.size, rfl, ⟨Blk.new _ _ _, Blk.chg HH.out.1 ((Chg.refl [] W).alloc _) (by simp), HH.out.2.1.chg ((Chg.refl [] W).alloc _) (by simp) (by simp), trivial, HH.out.2.2, by decide, fun _ => by decide, by decide⟩, (Chg.refl _ _).alloc _, Nat.le_refl _⟩
set_option maxRecDepth 8000 in
set_option maxHeartbeats 8000000 in
theorem rput_any (W : World) (rb bm bw : Nat) (r : RRack) (M : List Nat) (u : Nat) (h : IsRk W rb r) (hm : IsMem W bm bw M u) (ok : OkRack r) (x : Nat) (hx : x < 18446744073709551616) (level : Int) (pin : Bool) (fv : Value) (f : FuncId) (caps : Array Value)
    (hs : ∀ w, Calls Tryz.prog 58 #[fv] w fun e w' => e = .returned (.func (.func f) #[] caps) ∧ w = w') :
    Calls Tryz.prog 34 #[.pointer (some ⟨rb, 0, none⟩), .int .u64 (x : Nat), .int .i64 level, .bool pin, fv] W fun e W' => ∃ wb g, e = .returned (.pointer (some ⟨wb, 0, none⟩)) ∧ Rig W' wb rb bm bw (.func (.func f) #[] caps) (some g) r (putW r x (holdL level) pin) M u ∧ Chg [] W W' ∧ W.heap.size ≤ wb ∧ W.heap.size ≤ g := by
  have HH := Lib.hid (And.intro h (And.intro hm ok))
  have HS := Lib.hid hs
  have HL := Lib.hid (fun w => ghold_any level w)
  have hl := holdL_lt level
  obtain ⟨l, hl'⟩ : ∃ l, l = holdL level := ⟨_, rfl⟩
  rw [← hl'] at HL hl ⊢
  clear h hm ok hl' hs
  have HAT := Lib.hid (fun (k : Nat) (hk : k < 2) => atOk HH.out.2.2 hk hl)
  go_enter Tryz.func34, Tryz.ntmps34
  have HK := Lib.hid (show ∃ k, k = (if pin = true then 1 else 0) ∧ k < 2 ∧ putW r x l pin = ⟨.pushing, x, l, k, some (newD (r.at k l) r.cap 0 x), 0, 0, false, false, false, false, 0, false, 0⟩ from ⟨_, rfl, by split <;> omega, rfl⟩)
  cases pin
  all_goals
    go_wp2_with (first
      | (go_at_call 59; refine (HL.out _).mono ?_; rintro e w1 ⟨rfl, rfl⟩)
      | (go_at_call 58; refine (HS.out _).mono ?_; rintro e w1 ⟨rfl, rfl⟩))
  all_goals
    obtain ⟨k, hk0, hk2, hkp⟩ := HK.out
    simp at hk0
    have B1 : IsWk (W.alloc (.cells (wkCells rb (.func (.func f) #[] caps) none ⟨.pushing, x, l, k, none, 0, 0, false, false, false, false, 0, false, 0⟩) 94)) W.heap.size rb (.func (.func f) #[] caps) none ⟨.pushing, x, l, k, none, 0, 0, false, false, false, false, 0, false, 0⟩ := Blk.new _ _ _
    have C1 : Chg [] W (W.alloc (.cells (wkCells rb (.func (.func f) #[] caps) none ⟨.pushing, x, l, k, none, 0, 0, false, false, false, false, 0, false, 0⟩) 94)) := (Chg.refl _ _).alloc _
    have R1 : IsRk _ rb r := Blk.chg HH.out.1 C1 (by simp)
    have HW := Lib.hid (wdeque_any W.heap.size rb _ none _ r _ B1 R1 hk2 hl)
    have HB := Lib.hid (And.intro B1 C1)
    have HKP := Lib.hid (And.intro hk2 hkp)
    clear B1 C1 R1 hkp hk2
    subst hk0
    refine HW.out.mono ?_
    rintro e w2 ⟨rfl, C2⟩
    have B2 : IsWk w2 W.heap.size rb (.func (.func f) #[] caps) none ⟨.pushing, x, l, _, none, 0, 0, false, false, false, false, 0, false, 0⟩ := Blk.chg HB.out.1 C2 (by simp)
    have D2 : Chg [] W w2 := HB.out.2.then C2 (by simp)
    clear C2 HW HB
    go_wp2_with fail
    refine (opush_any _ r.cap x w2).mono ?_
    rintro e w3 ⟨g, rfl, O3, C3, hg3⟩
    have B3 : IsWk w3 W.heap.size rb (.func (.func f) #[] caps) none ⟨.pushing, x, l, _, none, 0, 0, false, false, false, false, 0, false, 0⟩ := Blk.chg B2 C3 (by simp)
    have D3 : Chg [] W w3 := D2.then C3 (by simp)
    have c6 : w3.cell? ⟨W.heap.size, 6, none⟩ = some (.pointer none) := by rw [Blk.cell B3]; rfl
    have z6 : w3.frozen? ⟨W.heap.size, 6, none⟩ = false := Blk.frozen B3 _
    have hgd : g ≠ W.heap.size := by have := Blk.lt B2; omega
    have hgw : W.heap.size ≤ g := by have := D2.size; omega
    have HX := Lib.hid (And.intro B3 (And.intro D3 (And.intro O3 (And.intro hgd hgw))))
    clear B2 D2 C3 B3 D3 O3 hgd hgw hg3
    go_wp2_with fail
    go_ret
    refine ⟨W.heap.size, g, rfl, ⟨?_, ?_, ?_, ?_, HH.out.2.2, ?_, fun _ => hl, Nat.zero_le _⟩, ?_, Nat.le_refl _, HX.out.2.2.2.2⟩
    · rw [HKP.out.2]; exact Blk.setCell HX.out.1 6 _
    · exact Blk.chg HH.out.1 (HX.out.2.1.setCell (.inr (Nat.le_refl _)) _) (by simp)
    · exact HH.out.2.1.chg (HX.out.2.1.setCell (.inr (Nat.le_refl _)) _) (by simp) (by simp)
    · rw [HKP.out.2]
      exact ⟨Blk.chg HX.out.2.2.1 ((Chg.refl [W.heap.size] _).setCell (.inl (by simp)) _) (by simp; exact HX.out.2.2.2.1), OkOp.new (HAT.out _ HKP.out.1).1 (HAT.out _ HKP.out.1).2 HH.out.2.2.cap (by decide) hx⟩
    · rw [HKP.out.2]; exact HKP.out.1
    · exact HX.out.2.1.setCell (.inr (Nat.le_refl _)) _
end Go.Proofs.YtjdbgohfedjifaaGreatDoor

/- rack: New. -/
namespace Bosun
open Go
/-- A new rack's cells, m deques laid. -/
def partCell (r : RRack) (m i : Nat) : Value := if 2 * m < i ∧ i < 33 then .int .i64 0 else rackCell r i
def partRow (r : RRack) (m : Nat) : Array Value := ((List.range 36).map (partCell r m)).toArray
theorem partRow_size (r : RRack) (m : Nat) : (partRow r m).size = 36 := by simp [partRow]
theorem partRow_get (r : RRack) (m : Nat) {i : Nat} (h : i < 36) : (partRow r m)[i]? = some (partCell r m i) := by simp [partRow, h]
theorem partRow_end (r : RRack) : partRow r 16 = rackRow r := by
  unfold partRow rackRow
  have : partCell r 16 = rackCell r := by funext i; unfold partCell; rw [if_neg (by omega)]
  rw [this]
theorem partRow_step (r : RRack) {k l : Nat} (hk : k < 2) (hl : l < 8) :
    ((partRow r (8 * k + l)).setIfInBounds (1 + k * 16 + l * 2) (.int .i64 (r.at k l))).setIfInBounds (1 + k * 16 + l * 2 + 1) (.int .i64 (r.cap : Nat)) = partRow r (8 * k + l + 1) := by
  obtain ⟨q1, q2⟩ := rackCell_at r hk hl
  apply Array.ext
  · simp [partRow]
  · intro i h1 h2
    have h3 : i < 36 := by simpa [partRow] using h2
    rw [Array.getElem_setIfInBounds (by simpa [partRow] using h3)]
    by_cases e2 : 1 + k * 16 + l * 2 + 1 = i
    · rw [if_pos e2]
      have := partRow_get r (8 * k + l + 1) h3
      rw [Array.getElem?_eq_getElem h2] at this
      rw [Option.some.inj this]
      unfold partCell
      rw [if_neg (by omega), ← e2, q2]
    · rw [if_neg e2, Array.getElem_setIfInBounds (by simpa [partRow] using h3)]
      by_cases e1 : 1 + k * 16 + l * 2 = i
      · rw [if_pos e1]
        have := partRow_get r (8 * k + l + 1) h3
        rw [Array.getElem?_eq_getElem h2] at this
        rw [Option.some.inj this]
        unfold partCell
        rw [if_neg (by omega), ← e1, q1]
      · rw [if_neg e1]
        simp only [partRow, List.getElem_toArray, List.getElem_map, List.getElem_range]
        unfold partCell
        by_cases c : 2 * (8 * k + l) < i ∧ i < 33
        · rw [if_pos c, if_pos (by omega)]
        · rw [if_neg c, if_neg (by omega)]
end Bosun
namespace Go.Proofs.YtjdbgohfedjifaaGreatDoor
open Go.RowKit Bosun
def newR (base : Int) (n : Nat) : RRack := ⟨base, n, 0, 0, 0⟩
set_option maxRecDepth 8000 in
set_option maxHeartbeats 8000000 in
theorem rknew_any (w : World) (base : Int) (b0 : 0 ≤ base) (b1 : base ≤ 5) (c : Int) (h0 : -9223372036854775808 ≤ c) (h1 : c ≤ 9223372036854775807) :
    Calls Tryz.prog 7 #[.int .i64 base, .int .i64 c] w fun e w' => ∃ rb, e = .returned (.pointer (some ⟨rb, 0, none⟩)) ∧ IsRk w' rb (newR base (holdN c)) ∧ OkRack (newR base (holdN c)) ∧ Chg [] w w' ∧ w.heap.size ≤ rb := by
  have HA := Lib.hid (fun (b : Int) w => at_any b c h0 h1 w)
  have HWd := Lib.hid (fun w => words_any c h0 h1 w)
  have HP := Lib.hid (holdN_pow2 c)
  obtain ⟨n, hn⟩ : ∃ n, n = holdN c := ⟨_, rfl⟩
  rw [← hn] at HA HWd HP ⊢
  have hn2 : n ≤ 256 := HP.out.le.2
  clear hn h0 h1
  go_enter Tryz.func7, Tryz.ntmps7
  go_upto_region 3 with (fail)
  generalize hw1 : World.alloc w _ = w1
  have B1 : Blk w1 w.heap.size (partRow (newR base n) 0) 74 := by rw [← hw1]; exact Blk.new w (partRow (newR base n) 0) _
  have C1 : Chg [] w w1 := by rw [← hw1]; exact (Chg.refl _ _).alloc _
  clear hw1
  have HB := Lib.hid (And.intro B1 C1)
  clear B1 C1
  have HBB := Lib.hid (And.intro b0 b1)
  clear b0 b1
  go_wp2_with fail
  go_loopw [6, 7, 8, 14] (fun x6 _ _ x14 wr => ∃ k : Nat, k ≤ 2 ∧ x14 = .int .i64 k ∧ x6 = .int .i64 (base + 1 + ((8 * k) * (2 + n) : Nat)) ∧ Blk wr w.heap.size (partRow (newR base n) (8 * k)) 74 ∧ Chg [] w wr) (fun _ _ _ x14 _ => 2 - (intOf x14).toNat)
  case atStart => exact ⟨0, by omega, rfl, by go_num, HB.out.1, HB.out.2⟩
  case round =>
    obtain ⟨k, hk, rfl, rfl, B, C⟩ := hrel
    by_cases hk2 : k < 2
    · have hk2i : (k : Int) < 2 := by omega
      have hk0i : (0 : Int) ≤ (k : Int) := by omega
      have HBC := Lib.hid (And.intro B C)
      have HBB1 := Lib.hid (show -9223372036854775808 ≤ base + 1 + ((8 * k) * (2 + n) : Nat) ∧ base + 1 + ((8 * k) * (2 + n) : Nat) ≤ 9223372036854775807 from by have : (8 * k) * (2 + n) ≤ 16 * 258 := Nat.mul_le_mul (by omega) (by omega); have := HBB.out; omega)
      clear B C
      go_wp2_with fail
      go_loopw [6, 8, 17] (fun x6 _ x17 ws => ∃ l : Nat, l ≤ 8 ∧ x17 = .int .i64 l ∧ x6 = .int .i64 (base + 1 + ((8 * k + l) * (2 + n) : Nat)) ∧ Blk ws w.heap.size (partRow (newR base n) (8 * k + l)) 74 ∧ Chg [] w ws) (fun _ _ x17 _ => 8 - (intOf x17).toNat)
      case atStart => exact ⟨0, by omega, rfl, rfl, HBC.out.1, HBC.out.2⟩
      case round =>
        obtain ⟨l, hl, rfl, rfl, B, C⟩ := hrel
        by_cases hl8 : l < 8
        · have hl8i : (l : Int) < 8 := by omega
          have hl0i : (0 : Int) ≤ (l : Int) := by omega
          have HBC := Lib.hid (And.intro B C)
          have HSZ := Lib.hid C.size
          have hat : (newR base n).at k l = base + 1 + ((8 * k + l) * (2 + n) : Nat) := rfl
          obtain ⟨at_, hat_⟩ : ∃ a, a = base + 1 + (((8 * k + l) * (2 + n) : Nat) : Int) := ⟨_, rfl⟩
          rw [← hat_] at hat ⊢
          have hatb : at_ + (2 + (n : Int)) = base + 1 + ((8 * k + (l + 1)) * (2 + n) : Nat) := by
            rw [hat_, show 8 * k + (l + 1) = (8 * k + l) + 1 from by omega, Nat.add_mul (8 * k + l) 1]; push_cast; omega
          have hatl : -9223372036854775808 ≤ at_ + (2 + (n : Int)) ∧ at_ + (2 + (n : Int)) ≤ 9223372036854775807 := by
            have : (8 * k + l) * (2 + n) ≤ 16 * 258 := Nat.mul_le_mul (by omega) (by omega)
            have := HBB.out; omega
          have HAT := Lib.hid (And.intro hat (And.intro hatb hatl))
          have HAA := Lib.hid (HA.out at_)
          have HCK := Lib.hid (show ∀ (W' : World), Chg [] wr W' → W'.cell? ⟨w.heap.size, 1 + k * 16 + l * 2, none⟩ = some (.int .i64 0) ∧ W'.cell? ⟨w.heap.size, 1 + k * 16 + l * 2 + 1, none⟩ = some (.int .i64 0) ∧ W'.frozen? ⟨w.heap.size, 1 + k * 16 + l * 2, none⟩ = false ∧ W'.frozen? ⟨w.heap.size, 1 + k * 16 + l * 2 + 1, none⟩ = false from fun W' C' => by
            have B' := Blk.chg B C' (by simp)
            refine ⟨?_, ?_, Blk.frozen B' _, Blk.frozen B' _⟩
            · rw [Blk.cell B', partRow_get _ _ (by omega)]; unfold partCell; rw [if_pos (by omega)]
            · rw [Blk.cell B', partRow_get _ _ (by omega)]; unfold partCell; rw [if_pos (by omega)])
          have HKL := Lib.hid (And.intro hk2 hl8)
          clear hat hat_ hatb hatl B C hk hl hn2
          go_wp2_with fail
          go_region_held3 (fun _ => True) (trivial)
            (first | (go_at_call 26; refine (HAA.out _).mono ?_; rintro e w2 ⟨rfl, C2⟩; obtain ⟨k1, k2, k3, k4⟩ := HCK.out w2 C2.undrew) | fail)
          have B3 := Blk.setCell (Blk.setCell (Blk.chg HBC.out.1 C2.undrew (by simp)) (1 + k * 16 + l * 2) (.int .i64 at_)) (1 + k * 16 + l * 2 + 1) (.int .i64 (n : Nat))
          rw [← HAT.out.1, show ((n : Nat) : Int) = (((newR base n).cap : Nat) : Int) from rfl, partRow_step (newR base n) HKL.out.1 HKL.out.2, HAT.out.1, show (((newR base n).cap : Nat) : Int) = ((n : Nat) : Int) from rfl] at B3
          have C3 : Chg [] w ((w2.setCell ⟨w.heap.size, 1 + k * 16 + l * 2, none⟩ (.int .i64 at_)).setCell ⟨w.heap.size, 1 + k * 16 + l * 2 + 1, none⟩ (.int .i64 (n : Nat))) :=
            ((HBC.out.2.then C2.undrew (by simp)).setCell (a := ⟨w.heap.size, 1 + k * 16 + l * 2, none⟩) (.inr (Nat.le_refl _)) _).setCell (a := ⟨w.heap.size, 1 + k * 16 + l * 2 + 1, none⟩) (.inr (Nat.le_refl _)) _
          have hat1 := HAT.out.2.2.1
          have hat2 := HAT.out.2.2.2
          have HB3 := Lib.hid (And.intro B3 C3)
          clear k1 k2 k3 k4 C2 B3 C3 HCK
          go_wp2_with (go_at_call 27; refine (HWd.out _).mono ?_; rintro e w4 ⟨rfl, rfl⟩)
          go_roundw
          case rel => exact ⟨l + 1, by have := HKL.out; omega, by go_num, congrArg (fun z => Value.int .i64 z) HAT.out.2.1, HB3.out.1, HB3.out.2⟩
          case measure => have := HKL.out; simp [intOf] <;> omega
        · obtain rfl : l = 8 := by omega
          have HBC := Lib.hid (And.intro B C)
          clear B C
          rw [show ((8 : Nat) : Int) = 8 from rfl]
          go_wp2_with fail
          go_roundw
          case rel => exact ⟨k + 1, by omega, by go_num, by rw [show 8 * (k + 1) = 8 * k + 8 from by omega], by rw [show 8 * (k + 1) = 8 * k + 8 from by omega]; exact HBC.out.1, HBC.out.2⟩
          case measure => simp [intOf] <;> omega
    · obtain rfl : k = 2 := by omega
      have HBC := Lib.hid (And.intro B C)
      clear B C
      rw [show ((2 : Nat) : Int) = 2 from rfl]
      go_wp2_with fail
      go_ret
      have B' := HBC.out.1
      rw [show 8 * 2 = 16 from rfl, partRow_end] at B'
      exact ⟨_, rfl, B', ⟨HBB.out.1, HBB.out.2, HP.out, (show 0 < 256 by decide), (show 0 < 256 by decide), (show 0 < 2 by decide)⟩, HBC.out.2, Nat.le_refl _⟩
end Go.Proofs.YtjdbgohfedjifaaGreatDoor

/- rack: the page's example. -/
namespace Go.Proofs.YtjdbgohfedjifaaGreatDoor
open Go.RowKit Bosun
def canB (w : RWork) (M : List Nat) (u : Nat) : Bool :=
  match w.next with
  | .pushing => match w.op with
    | none => false
    | some o => let s := stepD o M u; !(s.1.done && decide (s.1.err = 6))
  | .signing => true
  | .choosing => true
  | .taking => w.op.isSome
  | .emptying => true
  | _ => false
theorem canB_can {w : RWork} {M : List Nat} {u : Nat} (h : canB w M u = true) : Can w M u := by
  unfold canB at h
  unfold Can
  cases hn : w.next <;> rw [hn] at h <;> simp at h ⊢
  · cases ho : w.op with
    | none => rw [ho] at h; simp at h
    | some o => rw [ho] at h; simp at h; exact ⟨o, rfl, fun h1 => by rcases h with h2 | h2; rw [h1] at h2; simp at h2; exact h2⟩
  · exact Option.isSome_iff_exists.1 h
def gT : Nat → Bool := fun _ => true
/-- A work runs to its end, each step of it one that is shown. -/
def goesB : Nat → RRack × RWork × List Nat × Nat → Bool
  | 0, s => s.2.1.done
  | n + 1, s => (s.2.1.done || (decide (s.2.1.steps < 1000000) && canB s.2.1 s.2.2.1 s.2.2.2)) && goesB n (stepR gT s.1 s.2.1 s.2.2.1 s.2.2.2)
theorem goesB_goes : ∀ (n : Nat) (s : RRack × RWork × List Nat × Nat), goesB n s = true → (itR gT n s).2.1.done = true ∧ ∀ k, k < n → (itR gT k s).2.1.done = false → (itR gT k s).2.1.steps < 1000000 ∧ Can (itR gT k s).2.1 (itR gT k s).2.2.1 (itR gT k s).2.2.2
  | 0, s, h => ⟨h, fun k hk => absurd hk (by omega)⟩
  | n + 1, s, h => by
    unfold goesB at h
    rw [Bool.and_eq_true] at h
    obtain ⟨i1, i2⟩ := goesB_goes n _ h.2
    refine ⟨i1, fun k hk hd => ?_⟩
    match k, hk, hd with
    | 0, _, hd =>
      have hd' : s.2.1.done = false := hd
      have h1 := h.1
      rw [hd'] at h1
      simp at h1
      exact ⟨h1.1, canB_can h1.2⟩
    | k + 1, hk, hd => exact i2 k (by omega) hd
/-- A rack and its memory between two works; nothing older is touched. -/
structure Rest (W0 W : World) (rb bm bw : Nat) (r : RRack) (M : List Nat) (u : Nat) : Prop where
  rk : IsRk W rb r
  mem : IsMem W bm bw M u
  ok : OkRack r
  tab : TabW W
  chg : Chg [] W0 W
  l1 : W0.heap.size ≤ rb
  l2 : W0.heap.size ≤ bm
  l3 : W0.heap.size ≤ bw
section
variable {W0 W W1 W2 : World} {wb rb bm bw : Nat} {gv : Value} {ob ob' : Option Nat} {r : RRack} {w : RWork} {M : List Nat} {u : Nat}
theorem Rest.after (h : Rest W0 W rb bm bw r M u) (C1 : Chg [] W W1) (hw : W.heap.size ≤ wb) (ho : ∀ g ∈ ob.toList, W.heap.size ≤ g) (G : Rig W1 wb rb bm bw gv ob r w M u) {s : RRack × RWork × List Nat × Nat}
    (G2 : Rig W2 wb rb bm bw gv ob' s.1 s.2.1 s.2.2.1 s.2.2.2) (C2 : Chg (wb :: rb :: bm :: bw :: ob.toList) W1 W2) : Rest W0 W2 rb bm bw s.1 s.2.2.1 s.2.2.2 := by
  have hsz := h.chg.size
  refine ⟨G2.rk, G2.mem, G2.ok, tab_chg (h.tab.keep C1) C2 (G.ne0 (h.tab.keep C1)), (h.chg.then C1 (by simp)).then C2 fun g hg => ?_, h.l1, h.l2, h.l3⟩
  right
  simp only [List.mem_cons] at hg
  rcases hg with rfl | rfl | rfl | rfl | hg
  · omega
  · exact h.l1
  · exact h.l2
  · exact h.l3
  · have := ho g hg; omega
end
/-- All of a work, from its begin to its end. -/
theorem whole_any {W0 W W1 : World} {wb rb bm bw : Nat} {gv : Value} {ob : Option Nat} {r : RRack} {w : RWork} {M : List Nat} {u : Nat} (h : Rest W0 W rb bm bw r M u) (C1 : Chg [] W W1) (hw : W.heap.size ≤ wb) (ho : ∀ g ∈ ob.toList, W.heap.size ≤ g) (G : Rig W1 wb rb bm bw gv ob r w M u) (hd : w.done = false)
    (n : Nat) (hn : n < 9000) (hg : goesB n (r, w, M, u) = true) (s : RRack × RWork × List Nat × Nat) (hs : itR gT n (r, w, M, u) = s) :
    Calls Tryz.prog 53 #[.pointer (some ⟨wb, 0, none⟩), .pointer (some ⟨bm, 0, none⟩)] W1 fun e W' => e = .returned (.tuple #[.int .u64 ((resR s.2.1).1 : Nat), .int .i64 (resR s.2.1).2.1, .int .i64 (resR s.2.1).2.2]) ∧ Rest W0 W' rb bm bw s.1 s.2.2.1 s.2.2.2 := by
  obtain ⟨a1, a2⟩ := goesB_goes n _ hg
  refine (wall_any W1 wb rb bm bw gv ob r w M u G gT (h.tab.keep C1) hd n hn a1 a2).mono ?_
  rintro e W' ⟨rfl, ob', G2, C2, _⟩
  subst hs
  exact ⟨rfl, h.after C1 hw ho G G2 C2⟩
def e1 : RRack × RWork × List Nat × Nat := itR gT 5 (newR 0 4, putW (newR 0 4) 300 3 false, List.replicate 100 0, 0)
def e2 : RRack × RWork × List Nat × Nat := itR gT 4 (e1.1, putW e1.1 200 1 true, e1.2.2.1, e1.2.2.2)
def e3 : RRack × RWork × List Nat × Nat := itR gT 5 (e2.1, takeW, e2.2.2.1, e2.2.2.2)
def e4 : RRack × RWork × List Nat × Nat := itR gT 3 (e3.1, takeW, e3.2.2.1, e3.2.2.2)
def e5 : RRack × RWork × List Nat × Nat := itR gT 5 (e4.1, takeW, e4.2.2.1, e4.2.2.2)
theorem goes1 : goesB 5 (newR 0 4, putW (newR 0 4) 300 3 false, List.replicate 100 0, 0) = true := by kernel_rfl
theorem goes2 : goesB 4 (e1.1, putW e1.1 200 1 true, e1.2.2.1, e1.2.2.2) = true := by kernel_rfl
theorem goes3 : goesB 5 (e2.1, takeW, e2.2.2.1, e2.2.2.2) = true := by kernel_rfl
theorem goes4 : goesB 3 (e3.1, takeW, e3.2.2.1, e3.2.2.2) = true := by kernel_rfl
theorem goes5 : goesB 5 (e4.1, takeW, e4.2.2.1, e4.2.2.2) = true := by kernel_rfl
theorem best2 : bestR e2.1 = 1 := by kernel_rfl
theorem res3 : resR e3.2.1 = (200, 1, 0) := by kernel_rfl
theorem res4 : resR e4.2.1 = (0, 8, 8) := by kernel_rfl
theorem res5 : resR e5.2.1 = (300, 3, 0) := by kernel_rfl
theorem hold4 : holdN 4 = 4 := by kernel_rfl
set_option maxRecDepth 8000 in
set_option maxHeartbeats 8000000 in
theorem awake_any (W : World) (hT : TabW W) : Calls Tryz.prog 23 #[] W fun e W' => e = .returned (.bool true) ∧ Chg [] W W' := by
  have HT := Lib.hid hT
  clear hT
  go_enter Tryz.func23, Tryz.ntmps23
  go_wp2_with fail
  refine (new_any 100 100 (by omega) W).mono ?_
  rintro e W1 ⟨bm, bw, rfl, M1, C1, l2, l3⟩
  have HX1 := Lib.hid (And.intro M1 (And.intro C1 (And.intro l2 l3)))
  clear M1 C1 l2 l3
  go_wp2_with fail
  refine (rknew_any W1 0 (by omega) (by omega) 4 (by omega) (by omega)).mono ?_
  rw [hold4]
  rintro e W2 ⟨rb, rfl, R2, K2, C2, l1⟩
  have R2' : Rest W W2 rb bm bw (newR 0 4) (List.replicate 100 0) 0 := by
    have := HX1.out.2.1.size
    exact ⟨R2, HX1.out.1.chg C2 (by simp) (by simp), K2, (HT.out.keep HX1.out.2.1).keep C2, HX1.out.2.1.then C2 (by simp), by omega, HX1.out.2.2.1, HX1.out.2.2.2⟩
  have HR2 := Lib.hid R2'
  clear R2' R2 K2 C2 l1 HX1
  go_wp2_with fail
  refine (rput_any W2 rb bm bw _ _ _ HR2.out.rk HR2.out.mem HR2.out.ok 300 (by decide) 3 false .nilFunc _ _ sure_nil).mono ?_
  rintro e W3 ⟨wb, g, rfl, G3, C3, k1, k2⟩
  have HA3 := Lib.hid (whole_any HR2.out C3 k1 (by simp; exact k2) G3 rfl 5 (by decide) goes1 e1 rfl)
  clear G3 C3 k1 k2
  go_wp2_with fail
  refine HA3.out.mono ?_
  rintro e W4 ⟨rfl, R4⟩
  have HR4 := Lib.hid R4
  clear R4 HA3
  go_wp2_with fail
  refine (rput_any W4 rb bm bw _ _ _ HR4.out.rk HR4.out.mem HR4.out.ok 200 (by decide) 1 true .nilFunc _ _ sure_nil).mono ?_
  rintro e W5 ⟨wb5, g5, rfl, G5, C5, k51, k52⟩
  have HA5 := Lib.hid (whole_any HR4.out C5 k51 (by simp; exact k52) G5 rfl 4 (by decide) goes2 e2 rfl)
  clear G5 C5 k51 k52
  go_wp2_with fail
  refine HA5.out.mono ?_
  rintro e W6 ⟨rfl, R6⟩
  have HR6 := Lib.hid R6
  clear R6 HA5
  go_wp2_with fail
  have HB := best_any rb _ W6 HR6.out.rk HR6.out.ok HR6.out.tab
  rw [best2] at HB
  refine HB.mono ?_
  rintro e W7 ⟨rfl, C7⟩
  have R7 : Rest W W7 rb bm bw e2.1 e2.2.2.1 e2.2.2.2 := ⟨Blk.chg HR6.out.rk C7 (by simp), HR6.out.mem.chg C7 (by simp) (by simp), HR6.out.ok, HR6.out.tab.keep C7, HR6.out.chg.then C7 (by simp), HR6.out.l1, HR6.out.l2, HR6.out.l3⟩
  have HR7 := Lib.hid R7
  clear R7 C7 HB
  go_wp2_with fail
  refine (rtake_any W7 rb bm bw _ _ _ HR7.out.rk HR7.out.mem HR7.out.ok).mono ?_
  rintro e W8 ⟨wb8, rfl, G8, C8, k8⟩
  have HA8 := Lib.hid (whole_any HR7.out C8 k8 (by simp) G8 rfl 5 (by decide) goes3 e3 rfl)
  rw [res3] at HA8
  clear G8 C8 k8
  go_wp2_with fail
  refine HA8.out.mono ?_
  rintro e W9 ⟨rfl, R9⟩
  have HR9 := Lib.hid R9
  clear R9 HA8
  go_wp2_with fail
  refine (rtake_any W9 rb bm bw _ _ _ HR9.out.rk HR9.out.mem HR9.out.ok).mono ?_
  rintro e W10 ⟨wb10, rfl, G10, C10, k10⟩
  have HA10 := Lib.hid (whole_any HR9.out C10 k10 (by simp) G10 rfl 3 (by decide) goes4 e4 rfl)
  rw [res4] at HA10
  clear G10 C10 k10
  go_wp2_with fail
  refine HA10.out.mono ?_
  rintro e W11 ⟨rfl, R11⟩
  have HR11 := Lib.hid R11
  clear R11 HA10
  go_wp2_with fail
  refine (rtake_any W11 rb bm bw _ _ _ HR11.out.rk HR11.out.mem HR11.out.ok).mono ?_
  rintro e W12 ⟨wb12, rfl, G12, C12, k12⟩
  have HA12 := Lib.hid (whole_any HR11.out C12 k12 (by simp) G12 rfl 5 (by decide) goes5 e5 rfl)
  rw [res5] at HA12
  clear G12 C12 k12
  go_wp2_with fail
  refine HA12.out.mono ?_
  rintro e W13 ⟨rfl, R13⟩
  have HR13 := Lib.hid R13
  clear R13 HA12
  have HWd := Lib.hid (rwords_any 4 (by omega) (by omega) W13)
  rw [hold4] at HWd
  go_wp2_with (go_at_call 22; refine HWd.out.mono ?_; rintro e w2 ⟨rfl, rfl⟩)
  go_ret
  exact ⟨rfl, HR13.out.chg⟩
end Go.Proofs.YtjdbgohfedjifaaGreatDoor

/- rack: few, in. -/
namespace Go.Proofs.YtjdbgohfedjifaaGreatDoor
open Go.RowKit Bosun
theorem few_any (ao : Option Addr) (n c : Nat) (hn : n ≤ c) (hm : n ≤ maxLen) (w : World) : Calls Tryz.prog 28 #[.slice ao n c] w fun e w' => e = .returned (.slice ao (min n 20) c) ∧ w = w' := by
  unfold maxLen at hm
  by_cases h : 20 < n
  · rw [Nat.min_eq_right (by omega)]
    go_enter Tryz.func28, Tryz.ntmps28
    go_wp2_with fail
    go_ret
    exact ⟨rfl, rfl⟩
  · rw [Nat.min_eq_left (by omega)]
    go_enter Tryz.func28, Tryz.ntmps28
    go_wp2_with fail
    go_ret
    exact ⟨rfl, rfl⟩
theorem Reads_take {w : World} {ao : Option Addr} {n c k : Nat} {xs : List Value} (h : Reads w (.slice ao n c) xs) (hk : k ≤ n) : Reads w (.slice ao k c) (xs.take k) := by
  obtain ⟨ao', c', hv, hm, hc⟩ := h
  injection hv with e1 e2 e3
  subst e1 e3
  have hl : (xs.take k).length = k := by rw [List.length_take]; omega
  refine ⟨ao, c, by rw [hl], by rw [hl]; omega, fun j x hx => ?_⟩
  rw [List.getElem?_take] at hx
  split at hx
  · exact hc j x hx
  · cases hx
theorem words_take (l : List Nat) (k : Nat) : words (l.take k) = (words l).take k := by simp [words]
theorem few_reads {w : World} {ao : Option Addr} {n c : Nat} {l : List Nat} (h : Reads w (.slice ao n c) (words l)) : n = l.length ∧ n ≤ maxLen ∧ Reads w (.slice ao (min n 20) c) (words (l.take 20)) := by
  have hn : n = l.length := by
    obtain ⟨a', c', hv, _, _⟩ := h
    injection hv with e1 e2 e3
    rw [e2, words_len]
  have hm : n ≤ maxLen := by
    obtain ⟨a', c', hv, hm, _⟩ := h
    injection hv with e1 e2 e3
    rw [e2]; exact hm
  refine ⟨hn, hm, ?_⟩
  have := Reads_take h (Nat.min_le_left n 20)
  rw [words_take, show (words l).take 20 = (words l).take (min n 20) from by
    rw [hn]
    by_cases h2 : l.length ≤ 20
    · rw [Nat.min_eq_left h2, List.take_of_length_le (by rw [words_len]; omega), List.take_of_length_le (by rw [words_len]; omega)]
    · rw [Nat.min_eq_right (by omega)]]
  exact this
theorem mem_take_succ {l : List Nat} {k x : Nat} (hk : k < l.length) : x ∈ l.take (k + 1) ↔ x ∈ l.take k ∨ x = l[k] := by
  rw [List.take_succ_eq_append_getElem hk, List.mem_append, List.mem_singleton]
theorem in_any (v : Value) (l : List Nat) (x : Nat) (w : World) (hv : Reads w v (words l)) :
    Calls Tryz.prog 32 #[v, .int .u64 (x : Nat)] w fun e w' => e = .returned (.bool (decide (x ∈ l))) ∧ w = w' := by
  obtain ⟨ao, cap, rfl, hm, hc⟩ := hv
  rw [words_len] at hm ⊢
  unfold maxLen at hm
  have HC := Lib.hid hc
  clear hc
  go_enter Tryz.func32, Tryz.ntmps32
  go_wp2_with fail
  go_loopw [5] (fun i wr => ∃ k : Nat, k ≤ l.length ∧ i = .int .i64 k ∧ Hid (x ∉ l.take k) ∧ w = wr) (fun i _ => l.length - (intOf i).toNat)
  case atStart => exact ⟨0, by omega, rfl, Lib.hid (by simp), rfl⟩
  case round =>
    obtain ⟨k, hk, rfl, HN, rfl⟩ := hrel
    by_cases hkl : k < l.length
    · have b1 : (k : Int) < (l.length : Int) := by omega
      have b0 : (0 : Int) ≤ (k : Int) := by omega
      obtain ⟨g, off, rfl, hcell⟩ := HC.out k (.int .u64 (l[k] : Nat)) (by simp [words, hkl])
      have HM := Lib.hid (mem_take_succ (x := x) hkl)
      have HIN := Lib.hid (List.getElem_mem hkl)
      obtain ⟨y, hy⟩ : ∃ y, y = l[k] := ⟨_, rfl⟩
      rw [← hy] at hcell HM HIN
      clear hy
      by_cases hxy : y = x
      · have e1 : ((y : Int) == (x : Int)) = true := by simp [hxy]
        have HD := Lib.hid (show decide (x ∈ l) = true by rw [← hxy]; exact decide_eq_true HIN.out)
        clear hxy
        go_wp2_with fail
        go_ret
        exact ⟨ret_bool HD.out.symm, rfl⟩
      · have e1 : ((y : Int) == (x : Int)) = false := by simp; omega
        have HN2 := Lib.hid (show x ∉ l.take (k + 1) by rw [HM.out]; intro h; rcases h with h | h; exact HN.out h; exact hxy h.symm)
        clear hxy
        go_wp2_with fail
        go_roundw
        case rel => exact ⟨k + 1, by omega, by go_num, HN2, by trivial⟩
        case measure => simp [intOf] <;> omega
    · obtain rfl : k = l.length := by omega
      have HD := Lib.hid (show decide (x ∈ l) = false by have h := HN.out; rw [List.take_length] at h; exact decide_eq_false h)
      go_wp2_with fail
      go_ret
      exact ⟨ret_bool HD.out.symm, rfl⟩
end Go.Proofs.YtjdbgohfedjifaaGreatDoor

/- rack: what begins: Rob, Shed, and the law's begin; what tells of a word. -/
namespace Bosun
open Go
/-- A worker's next work. -/
def beginW (r : RRack) (k : Nat) (name : Nat) (x : Nat) (level : Int) (pin : Bool) : RWork :=
  if k = 0 ∧ name % 4 = 2 then takeW else if k = 0 ∧ name % 4 = 3 then shedW else if 0 < k then robW else putW r x (holdL level) pin
end Bosun
namespace Go.Proofs.YtjdbgohfedjifaaGreatDoor
open Go.RowKit Bosun
theorem bin_fnb (a : Option Addr) (w : World) : (binOp .eql 79 (.func (.func 31) #[] #[.pointer a]) .nilFunc).run Tryz.prog w = .ok (.bool false) w := by kernel_rfl
set_option maxRecDepth 8000 in
theorem sure_fnb (a : Option Addr) (w : World) : Calls Tryz.prog 58 #[.func (.func 31) #[] #[.pointer a]] w fun e w' => e = .returned (.func (.func 31) #[] #[.pointer a]) ∧ w = w' := by
  go_enter Tryz.func58, Tryz.ntmps58
  go_wp2_with fail
  rw [bin_fnb]
  go_wp2_with fail
  go_ret
  exact ⟨rfl, rfl⟩
set_option maxHeartbeats 4000000 in
theorem rrob_any (W : World) (rb bm bw : Nat) (r : RRack) (M : List Nat) (u : Nat) (h : IsRk W rb r) (hm : IsMem W bm bw M u) (ok : OkRack r) (cb : Nat) :
    Calls Tryz.prog 33 #[.pointer (some ⟨rb, 0, none⟩), .func (.func 31) #[] #[.pointer (some ⟨cb, 0, none⟩)]] W fun e W' => ∃ wb, e = .returned (.pointer (some ⟨wb, 0, none⟩)) ∧ Rig W' wb rb bm bw (.func (.func 31) #[] #[.pointer (some ⟨cb, 0, none⟩)]) none r robW M u ∧ Chg [] W W' ∧ W.heap.size ≤ wb := by
  have HH := Lib.hid (And.intro h (And.intro hm ok))
  have HS := Lib.hid (fun w => sure_fnb (some ⟨cb, 0, none⟩) w)
  clear h hm ok
  go_enter Tryz.func33, Tryz.ntmps33
  go_wp2_with (go_at_call 58; refine (HS.out _).mono ?_; rintro e w1 ⟨rfl, rfl⟩)
  go_ret
  exact ⟨W.heap.size, rfl, ⟨Blk.new _ _ _, Blk.chg HH.out.1 ((Chg.refl [] W).alloc _) (by simp), HH.out.2.1.chg ((Chg.refl [] W).alloc _) (by simp) (by simp), trivial, HH.out.2.2, by decide, fun _ => by decide, by decide⟩, (Chg.refl _ _).alloc _, Nat.le_refl _⟩
set_option maxHeartbeats 4000000 in
theorem rshed_any (W : World) (rb bm bw : Nat) (r : RRack) (M : List Nat) (u : Nat) (h : IsRk W rb r) (hm : IsMem W bm bw M u) (ok : OkRack r) :
    Calls Tryz.prog 30 #[.pointer (some ⟨rb, 0, none⟩)] W fun e W' => ∃ wb, e = .returned (.pointer (some ⟨wb, 0, none⟩)) ∧ Rig W' wb rb bm bw .nilFunc none r shedW M u ∧ Chg [] W W' ∧ W.heap.size ≤ wb := by
  have HH := Lib.hid (And.intro h (And.intro hm ok))
  clear h hm ok
  go_enter Tryz.func30, Tryz.ntmps30
  go_wp2_with fail
  go_ret
  exact ⟨W.heap.size, rfl, ⟨Blk.new _ _ _, Blk.chg HH.out.1 ((Chg.refl [] W).alloc _) (by simp), HH.out.2.1.chg ((Chg.refl [] W).alloc _) (by simp) (by simp), trivial, HH.out.2.2, by decide, fun _ => by decide, by decide⟩, (Chg.refl _ _).alloc _, Nat.le_refl _⟩
theorem b1_any (W : World) (cb : Nat) (v : Value) (l : List Nat) (x : Nat) (hB : Blk W cb #[v] 36) (hv : Reads W v (words l)) :
    Calls Tryz.prog 31 #[.int .u64 (x : Nat), .pointer (some ⟨cb, 0, none⟩)] W fun e W' => e = .returned (.bool (!decide (x ∈ l))) ∧ Chg [] W W' := by
  have c0 : W.cell? ⟨cb, 0, none⟩ = some v := hB.cell 0
  have HI := Lib.hid (in_any v l x W hv)
  obtain ⟨ao, cap, rfl, hm, hc⟩ := hv
  obtain ⟨b, hb⟩ : ∃ b, b = decide (x ∈ l) := ⟨_, rfl⟩
  rw [← hb] at HI ⊢
  clear hB hb hm hc
  go_enter Tryz.func31, Tryz.ntmps31
  go_wp2_with (go_at_call 32; refine HI.out.mono ?_; rintro e w2 ⟨rfl, rfl⟩)
  go_ret
  exact ⟨rfl, Chg.refl _ _⟩
theorem goodF_b1 {W : World} {wb cb : Nat} {v : Value} {l : List Nat} (hB : Blk W cb #[v] 36) (hne : cb ≠ wb) (hR : ∀ W1, Chg [wb] W W1 → Reads W1 v (words l)) :
    GoodF W wb (.func (.func 31) #[] #[.pointer (some ⟨cb, 0, none⟩)]) (fun x => !decide (x ∈ l)) :=
  ⟨cb, rfl, fun W1 C x _ => b1_any W1 cb v l x (hB.chg C (by simp; exact hne)) (hR W1 C)⟩
/-- What a work's closure leans on. -/
def Box (W : World) (gv : Value) (sl : Value) : Prop := ∃ cb, gv = .func (.func 31) #[] #[.pointer (some ⟨cb, 0, none⟩)] ∧ Blk W cb #[sl] 36
/-- What begin leaves. sl: what the closure's box holds; nb: whether there is a closure. -/
def Begun (W W' : World) (rb bm bw : Nat) (r : RRack) (M : List Nat) (u : Nat) (w0 : RWork) (sl : Value) (nb : Prop) (e : Ending) : Prop :=
  ∃ wb gv ob, e = .returned (.pointer (some ⟨wb, 0, none⟩)) ∧ Rig W' wb rb bm bw gv ob r w0 M u ∧ Chg [] W W' ∧ W.heap.size ≤ wb ∧ (∀ g ∈ ob.toList, W.heap.size ≤ g) ∧ (nb → Box W' gv sl)
set_option maxRecDepth 8000 in
set_option maxHeartbeats 8000000 in
theorem begin_any (W : World) (rb bm bw : Nat) (r : RRack) (M : List Nat) (u : Nat) (h : IsRk W rb r) (hm : IsMem W bm bw M u) (ok : OkRack r) (k : Nat) (hk : k < 4) (who name : Nat) (hname : name < 256) (x : Nat) (hx : x < 18446744073709551616) (level : Int) (pin : Bool) (ao : Option Addr) (n c : Nat) (hn : n ≤ c) (hnm : n ≤ maxLen) :
    Calls Tryz.prog 9 #[.pointer (some ⟨rb, 0, none⟩), .int .i64 (k : Nat), .agg #[.int .u8 (who : Nat), .int .u8 (name : Nat), .int .u64 (x : Nat), .int .i64 level, .bool pin, .slice ao n c]] W fun e W' => Begun W W' rb bm bw r M u (beginW r k name x level pin) (.slice ao (min n 20) c) (¬ (k = 0 ∧ (name % 4 = 2 ∨ name % 4 = 3))) e := by
  have HH := Lib.hid (And.intro h (And.intro hm ok))
  have HF := Lib.hid (few_any ao n c hn hnm)
  obtain ⟨n20, hn20⟩ : ∃ n20, n20 = min n 20 := ⟨_, rfl⟩
  rw [← hn20] at HF ⊢
  have hnm4 : (IntKind.u8.wrap ((name : Int) % 4)) = ((name % 4 : Nat) : Int) := by rw [IntKind.wrap_u8]; omega
  have hm4 : Int.tmod (name : Int) 4 = ((name % 4 : Nat) : Int) := by rw [Int.tmod_eq_emod_of_nonneg (by omega)]; omega
  clear h hm ok hn20 hn hnm
  have C2 : Chg [] W ((W.alloc (.cells #[.int .u8 (who : Nat), .int .u8 (name : Nat), .int .u64 (x : Nat), .int .i64 level, .bool pin, .slice ao n c] 38)).alloc (.cells #[.slice ao n20 c] 36)) := ((Chg.refl _ _).alloc _).alloc _
  have B2 := Blk.new (W.alloc (.cells #[.int .u8 (who : Nat), .int .u8 (name : Nat), .int .u64 (x : Nat), .int .i64 level, .bool pin, .slice ao n c] 38)) #[.slice ao n20 c] 36
  simp only [World.size_alloc] at B2
  have HC2 := Lib.hid C2
  have HB2 := Lib.hid B2
  clear C2 B2
  have HTAKE := Lib.hid (fun W1 (C : Chg [] W W1) => rtake_any W1 rb bm bw r M u (Blk.chg HH.out.1 C (by simp)) (HH.out.2.1.chg C (by simp) (by simp)) HH.out.2.2)
  have HSHED := Lib.hid (fun W1 (C : Chg [] W W1) => rshed_any W1 rb bm bw r M u (Blk.chg HH.out.1 C (by simp)) (HH.out.2.1.chg C (by simp) (by simp)) HH.out.2.2)
  have HROB := Lib.hid (fun W1 (C : Chg [] W W1) => rrob_any W1 rb bm bw r M u (Blk.chg HH.out.1 C (by simp)) (HH.out.2.1.chg C (by simp) (by simp)) HH.out.2.2 (W.heap.size + 1))
  have HPUT := Lib.hid (fun W1 (C : Chg [] W W1) => rput_any W1 rb bm bw r M u (Blk.chg HH.out.1 C (by simp)) (HH.out.2.1.chg C (by simp) (by simp)) HH.out.2.2 x hx level pin (.func (.func 31) #[] #[.pointer (some ⟨W.heap.size + 1, 0, none⟩)]) _ _ (fun w => sure_fnb (some ⟨W.heap.size + 1, 0, none⟩) w))
  go_enter Tryz.func9, Tryz.ntmps9
  by_cases hk0 : k = 0
  · subst hk0
    by_cases h2 : name % 4 = 2
    · have HN := Lib.hid (show beginW r 0 name x level pin = takeW by unfold beginW; rw [if_pos ⟨rfl, h2⟩])
      have HN2 := Lib.hid h2
      go_wp2_with (first
        | (go_at_call 28; refine (HF.out _).mono ?_; rintro e w1 ⟨rfl, rfl⟩)
        | (go_at_call 29; refine (HTAKE.out _ HC2.out).mono ?_; rintro e w2 ⟨wb, rfl, G, C, q⟩)
        | fail)
      go_ret
      rw [HN.out]
      unfold Begun
      exact ⟨wb, _, _, rfl, G, HC2.out.then C (by simp), by have := HC2.out.size; omega, by simp, fun h => by first | exact h.elim | exact absurd ⟨rfl, .inl HN2.out⟩ h⟩
    · by_cases h3 : name % 4 = 3
      · have HN := Lib.hid (show beginW r 0 name x level pin = shedW by unfold beginW; rw [if_neg (by omega), if_pos ⟨rfl, h3⟩])
        have HN2 := Lib.hid h3
        have e2 : ((((name % 4 : Nat) : Int)) == 2) = false := by simp; omega
        go_wp2_with (first
          | (go_at_call 28; refine (HF.out _).mono ?_; rintro e w1 ⟨rfl, rfl⟩)
          | (go_at_call 30; refine (HSHED.out _ HC2.out).mono ?_; rintro e w2 ⟨wb, rfl, G, C, q⟩)
          | fail)
        go_ret
        rw [HN.out]
        unfold Begun
        exact ⟨wb, _, _, rfl, G, HC2.out.then C (by simp), by have := HC2.out.size; omega, by simp, fun h => by first | exact h.elim | exact absurd ⟨rfl, .inr HN2.out⟩ h⟩
      · have HN := Lib.hid (show beginW r 0 name x level pin = putW r x (holdL level) pin by unfold beginW; rw [if_neg (by omega), if_neg (by omega), if_neg (by omega)])
        have e2 : ((((name % 4 : Nat) : Int)) == 2) = false := by simp; omega
        have e3 : ((((name % 4 : Nat) : Int)) == 3) = false := by simp; omega
        clear h2 h3
        go_wp2_with (first
          | (go_at_call 28; refine (HF.out _).mono ?_; rintro e w1 ⟨rfl, rfl⟩)
          | (go_at_call 34; refine (HPUT.out _ HC2.out).mono ?_; rintro e w2 ⟨wb, g, rfl, G, C, q, q2⟩)
          | fail)
        go_ret
        rw [HN.out]
        unfold Begun
        exact ⟨wb, _, _, rfl, G, HC2.out.then C (by simp), by have := HC2.out.size; omega, by simp; have := HC2.out.size; omega, fun _ => ⟨_, rfl, HB2.out.chg C (by simp)⟩⟩
  · have HN := Lib.hid (show beginW r k name x level pin = robW by unfold beginW; rw [if_neg (by omega), if_neg (by omega), if_pos (by omega)])
    have e0 : ((k : Int) == 0) = false := by simp; omega
    have e1 : (0 : Int) < (k : Int) := by omega
    go_wp2_with (first
      | (go_at_call 28; refine (HF.out _).mono ?_; rintro e w1 ⟨rfl, rfl⟩)
      | (go_at_call 33; refine (HROB.out _ HC2.out).mono ?_; rintro e w2 ⟨wb, rfl, G, C, q⟩)
      | fail)
    go_ret
    rw [HN.out]
    unfold Begun
    exact ⟨wb, _, _, rfl, G, HC2.out.then C (by simp), by have := HC2.out.size; omega, by simp, fun _ => ⟨_, rfl, HB2.out.chg C (by simp)⟩⟩
end Go.Proofs.YtjdbgohfedjifaaGreatDoor
