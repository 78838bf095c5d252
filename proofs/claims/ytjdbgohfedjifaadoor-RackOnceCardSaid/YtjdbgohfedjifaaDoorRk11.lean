/- rack: New. -/
import Derived.Test.YtjdbgohfedjifaaDoorRk10
namespace Bosun
open Go
/-- A new rack's cells, m deques laid. -/
def partCell (r : RRack) (m i : Nat) : Value := if 2 * m < i ∧ i < 33 then .int .i64 0 else rackCell r i
def partRow (r : RRack) (m : Nat) : Array Value := ((List.range 36).map (partCell r m)).toArray
theorem partRow_size (r : RRack) (m : Nat) : (partRow r m).size = 36 := by simp [partRow]
theorem partRow_get (r : RRack) (m : Nat) {i : Nat} (h : i < 36) : (partRow r m)[i]? = some (partCell r m i) := by simp [partRow, h]
theorem partRow_end (r : RRack) : partRow r 16 = rackRow r := by
  unfold partRow rackRow
  have : partCell r 16 = rackCell r := by funext i; unfold partCell; rw [if_neg (by omega)]
  rw [this]
theorem partRow_step (r : RRack) {k l : Nat} (hk : k < 2) (hl : l < 8) :
    ((partRow r (8 * k + l)).setIfInBounds (1 + k * 16 + l * 2) (.int .i64 (r.at k l))).setIfInBounds (1 + k * 16 + l * 2 + 1) (.int .i64 (r.cap : Nat)) = partRow r (8 * k + l + 1) := by
  obtain ⟨q1, q2⟩ := rackCell_at r hk hl
  apply Array.ext
  · simp [partRow]
  · intro i h1 h2
    have h3 : i < 36 := by simpa [partRow] using h2
    rw [Array.getElem_setIfInBounds (by simpa [partRow] using h3)]
    by_cases e2 : 1 + k * 16 + l * 2 + 1 = i
    · rw [if_pos e2]
      have := partRow_get r (8 * k + l + 1) h3
      rw [Array.getElem?_eq_getElem h2] at this
      rw [Option.some.inj this]
      unfold partCell
      rw [if_neg (by omega), ← e2, q2]
    · rw [if_neg e2, Array.getElem_setIfInBounds (by simpa [partRow] using h3)]
      by_cases e1 : 1 + k * 16 + l * 2 = i
      · rw [if_pos e1]
        have := partRow_get r (8 * k + l + 1) h3
        rw [Array.getElem?_eq_getElem h2] at this
        rw [Option.some.inj this]
        unfold partCell
        rw [if_neg (by omega), ← e1, q1]
      · rw [if_neg e1]
        simp only [partRow, List.getElem_toArray, List.getElem_map, List.getElem_range]
        unfold partCell
        by_cases c : 2 * (8 * k + l) < i ∧ i < 33
        · rw [if_pos c, if_pos (by omega)]
        · rw [if_neg c, if_neg (by omega)]
end Bosun
namespace Go.Proofs.YtjdbgohfedjifaaDoor
open Go.RowKit Bosun
def newR (base : Int) (n : Nat) : RRack := ⟨base, n, 0, 0, 0⟩
set_option maxRecDepth 8000 in
set_option maxHeartbeats 8000000 in
theorem rknew_any (w : World) (base : Int) (b0 : 0 ≤ base) (b1 : base ≤ 5) (c : Int) (h0 : -9223372036854775808 ≤ c) (h1 : c ≤ 9223372036854775807) :
    Calls Tryd.prog 9 #[.int .i64 base, .int .i64 c] w fun e w' => ∃ rb, e = .returned (.pointer (some ⟨rb, 0, none⟩)) ∧ IsRk w' rb (newR base (holdN c)) ∧ OkRack (newR base (holdN c)) ∧ Chg [] w w' ∧ w.heap.size ≤ rb := by
  have HA := Lib.hid (fun (b : Int) w => at_any b c h0 h1 w)
  have HWd := Lib.hid (fun w => words_any c h0 h1 w)
  have HP := Lib.hid (holdN_pow2 c)
  obtain ⟨n, hn⟩ : ∃ n, n = holdN c := ⟨_, rfl⟩
  rw [← hn] at HA HWd HP ⊢
  have hn2 : n ≤ 256 := HP.out.le.2
  clear hn h0 h1
  go_enter Tryd.func9, Tryd.ntmps9
  go_upto_region 3 with (fail)
  generalize hw1 : World.alloc w _ = w1
  have B1 : Blk w1 w.heap.size (partRow (newR base n) 0) 75 := by rw [← hw1]; exact Blk.new w (partRow (newR base n) 0) _
  have C1 : Chg [] w w1 := by rw [← hw1]; exact (Chg.refl _ _).alloc _
  clear hw1
  have HB := Lib.hid (And.intro B1 C1)
  clear B1 C1
  have HBB := Lib.hid (And.intro b0 b1)
  clear b0 b1
  go_wp2_with fail
  go_loopw [6, 7, 8, 14] (fun x6 _ _ x14 wr => ∃ k : Nat, k ≤ 2 ∧ x14 = .int .i64 k ∧ x6 = .int .i64 (base + 1 + ((8 * k) * (2 + n) : Nat)) ∧ Blk wr w.heap.size (partRow (newR base n) (8 * k)) 75 ∧ Chg [] w wr) (fun _ _ _ x14 _ => 2 - (intOf x14).toNat)
  case atStart => exact ⟨0, by omega, rfl, by go_num, HB.out.1, HB.out.2⟩
  case round =>
    obtain ⟨k, hk, rfl, rfl, B, C⟩ := hrel
    by_cases hk2 : k < 2
    · have hk2i : (k : Int) < 2 := by omega
      have hk0i : (0 : Int) ≤ (k : Int) := by omega
      have HBC := Lib.hid (And.intro B C)
      have HBB1 := Lib.hid (show -9223372036854775808 ≤ base + 1 + ((8 * k) * (2 + n) : Nat) ∧ base + 1 + ((8 * k) * (2 + n) : Nat) ≤ 9223372036854775807 from by have : (8 * k) * (2 + n) ≤ 16 * 258 := Nat.mul_le_mul (by omega) (by omega); have := HBB.out; omega)
      clear B C
      go_wp2_with fail
      go_loopw [6, 8, 17] (fun x6 _ x17 ws => ∃ l : Nat, l ≤ 8 ∧ x17 = .int .i64 l ∧ x6 = .int .i64 (base + 1 + ((8 * k + l) * (2 + n) : Nat)) ∧ Blk ws w.heap.size (partRow (newR base n) (8 * k + l)) 75 ∧ Chg [] w ws) (fun _ _ x17 _ => 8 - (intOf x17).toNat)
      case atStart => exact ⟨0, by omega, rfl, rfl, HBC.out.1, HBC.out.2⟩
      case round =>
        obtain ⟨l, hl, rfl, rfl, B, C⟩ := hrel
        by_cases hl8 : l < 8
        · have hl8i : (l : Int) < 8 := by omega
          have hl0i : (0 : Int) ≤ (l : Int) := by omega
          have HBC := Lib.hid (And.intro B C)
          have HSZ := Lib.hid C.size
          have hat : (newR base n).at k l = base + 1 + ((8 * k + l) * (2 + n) : Nat) := rfl
          obtain ⟨at_, hat_⟩ : ∃ a, a = base + 1 + (((8 * k + l) * (2 + n) : Nat) : Int) := ⟨_, rfl⟩
          rw [← hat_] at hat ⊢
          have hatb : at_ + (2 + (n : Int)) = base + 1 + ((8 * k + (l + 1)) * (2 + n) : Nat) := by
            rw [hat_, show 8 * k + (l + 1) = (8 * k + l) + 1 from by omega, Nat.add_mul (8 * k + l) 1]; push_cast; omega
          have hatl : -9223372036854775808 ≤ at_ + (2 + (n : Int)) ∧ at_ + (2 + (n : Int)) ≤ 9223372036854775807 := by
            have : (8 * k + l) * (2 + n) ≤ 16 * 258 := Nat.mul_le_mul (by omega) (by omega)
            have := HBB.out; omega
          have HAT := Lib.hid (And.intro hat (And.intro hatb hatl))
          have HAA := Lib.hid (HA.out at_)
          have HCK := Lib.hid (show ∀ (W' : World), Chg [] wr W' → W'.cell? ⟨w.heap.size, 1 + k * 16 + l * 2, none⟩ = some (.int .i64 0) ∧ W'.cell? ⟨w.heap.size, 1 + k * 16 + l * 2 + 1, none⟩ = some (.int .i64 0) ∧ W'.frozen? ⟨w.heap.size, 1 + k * 16 + l * 2, none⟩ = false ∧ W'.frozen? ⟨w.heap.size, 1 + k * 16 + l * 2 + 1, none⟩ = false from fun W' C' => by
            have B' := Blk.chg B C' (by simp)
            refine ⟨?_, ?_, Blk.frozen B' _, Blk.frozen B' _⟩
            · rw [Blk.cell B', partRow_get _ _ (by omega)]; unfold partCell; rw [if_pos (by omega)]
            · rw [Blk.cell B', partRow_get _ _ (by omega)]; unfold partCell; rw [if_pos (by omega)])
          have HKL := Lib.hid (And.intro hk2 hl8)
          clear hat hat_ hatb hatl B C hk hl hn2
          go_wp2_with fail
          go_region_held3 (fun _ => True) (trivial)
            (first | (go_at_call 34; refine (HAA.out _).mono ?_; rintro e w2 ⟨rfl, C2⟩; obtain ⟨k1, k2, k3, k4⟩ := HCK.out w2 C2.undrew) | fail)
          have B3 := Blk.setCell (Blk.setCell (Blk.chg HBC.out.1 C2.undrew (by simp)) (1 + k * 16 + l * 2) (.int .i64 at_)) (1 + k * 16 + l * 2 + 1) (.int .i64 (n : Nat))
          rw [← HAT.out.1, show ((n : Nat) : Int) = (((newR base n).cap : Nat) : Int) from rfl, partRow_step (newR base n) HKL.out.1 HKL.out.2, HAT.out.1, show (((newR base n).cap : Nat) : Int) = ((n : Nat) : Int) from rfl] at B3
          have C3 : Chg [] w ((w2.setCell ⟨w.heap.size, 1 + k * 16 + l * 2, none⟩ (.int .i64 at_)).setCell ⟨w.heap.size, 1 + k * 16 + l * 2 + 1, none⟩ (.int .i64 (n : Nat))) :=
            ((HBC.out.2.then C2.undrew (by simp)).setCell (a := ⟨w.heap.size, 1 + k * 16 + l * 2, none⟩) (.inr (Nat.le_refl _)) _).setCell (a := ⟨w.heap.size, 1 + k * 16 + l * 2 + 1, none⟩) (.inr (Nat.le_refl _)) _
          have hat1 := HAT.out.2.2.1
          have hat2 := HAT.out.2.2.2
          have HB3 := Lib.hid (And.intro B3 C3)
          clear k1 k2 k3 k4 C2 B3 C3 HCK
          go_wp2_with (go_at_call 35; refine (HWd.out _).mono ?_; rintro e w4 ⟨rfl, rfl⟩)
          go_roundw
          case rel => exact ⟨l + 1, by have := HKL.out; omega, by go_num, congrArg (fun z => Value.int .i64 z) HAT.out.2.1, HB3.out.1, HB3.out.2⟩
          case measure => have := HKL.out; simp [intOf] <;> omega
        · obtain rfl : l = 8 := by omega
          have HBC := Lib.hid (And.intro B C)
          clear B C
          rw [show ((8 : Nat) : Int) = 8 from rfl]
          go_wp2_with fail
          go_roundw
          case rel => exact ⟨k + 1, by omega, by go_num, by rw [show 8 * (k + 1) = 8 * k + 8 from by omega], by rw [show 8 * (k + 1) = 8 * k + 8 from by omega]; exact HBC.out.1, HBC.out.2⟩
          case measure => simp [intOf] <;> omega
    · obtain rfl : k = 2 := by omega
      have HBC := Lib.hid (And.intro B C)
      clear B C
      rw [show ((2 : Nat) : Int) = 2 from rfl]
      go_wp2_with fail
      go_ret
      have B' := HBC.out.1
      rw [show 8 * 2 = 16 from rfl, partRow_end] at B'
      exact ⟨_, rfl, B', ⟨HBB.out.1, HBB.out.2, HP.out, (show 0 < 256 by decide), (show 0 < 256 by decide), (show 0 < 2 by decide)⟩, HBC.out.2, Nat.le_refl _⟩
end Go.Proofs.YtjdbgohfedjifaaDoor
