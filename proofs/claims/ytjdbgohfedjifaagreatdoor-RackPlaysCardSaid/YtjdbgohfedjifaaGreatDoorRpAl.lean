/- rack, the document's: all its words. -/
import Derived.Test.YtjdbgohfedjifaaGreatDoorRpV
import Derived.Test.YtjdbgohfedjifaaGreatDoorRkAll
namespace Go.Proofs.YtjdbgohfedjifaaGreatDoor
open Go.RowKit Bosun
set_option maxRecDepth 8000 in
set_option maxHeartbeats 8000000 in
theorem qall_any (W : World) (sb nm nw : Nat) (r : RRack) (M : List Nat) (u : Nat) (h : IsSb W sb r) (hm : IsRef W nm nw M u) (ok : OkRack r) :
    Calls Tryz.prog 21 #[.pointer (some ⟨sb, 0, none⟩), .pointer (some ⟨nm, 0, none⟩)] W fun e W' => ∃ v, e = .returned v ∧ Bosun.Own W' W.heap.size 35 v (words (allR r M)) ∧ Chg [] W W' := by
  have HH := Lib.hid (And.intro h (And.intro hm ok))
  have HAT := Lib.hid (fun (W1 : World) (C : Chg [] W W1) (k l : Nat) (hk : k < 2) (hl : l < 8) => qat_any sb r k l W1 (Blk.chg h C (by simp)) ok hk hl)
  have HAL := Lib.hid (fun (w : World) (hm : IsRef w nm nw M u) (k l : Nat) (hk : k < 2) (hl : l < 8) => rall_any (r.at k l) (atOk ok hk hl).1 (atOk ok hk hl).2 r.cap ok.cap nm nw M u w hm)
  have HLE := Lib.hid (And.intro (allTo16_len r M) ok.cap.le)
  have HEND := Lib.hid (show allR r M = allTo16 r M 16 from rfl)
  clear h hm ok
  go_enter Tryz.func21, Tryz.ntmps21
  go_wp2_with fail
  go_loopw [5, 6, 7] (fun x5 x6 _ wr => ∃ k : Nat, k ≤ 2 ∧ x6 = .int .i64 k ∧ Bosun.Own wr W.heap.size 35 x5 (words (allTo16 r M (8 * k))) ∧ Chg [] W wr) (fun _ x6 _ _ => 2 - (intOf x6).toNat)
  case atStart => exact ⟨0, by omega, rfl, Bosun.Own.nil _ _ _, Chg.refl _ _⟩
  case round =>
    obtain ⟨k, hk, rfl, O, C⟩ := hrel
    by_cases hk2 : k < 2
    · have hk2i : (k : Int) < 2 := by omega
      have HOC5 := Lib.hid (And.intro O C)
      clear O C
      go_wp2_with fail
      go_loopw [5, 7] (fun y5 x7 ws => ∃ l : Nat, l ≤ 8 ∧ x7 = .int .i64 l ∧ Bosun.Own ws W.heap.size 35 y5 (words (allTo16 r M (8 * k + l))) ∧ Chg [] W ws) (fun _ x7 _ => 8 - (intOf x7).toNat)
      case atStart => exact ⟨0, by omega, rfl, HOC5.out.1, HOC5.out.2⟩
      case round =>
        obtain ⟨l, hl, rfl, O, C⟩ := hrel
        by_cases hl8 : l < 8
        · have hl8i : (l : Int) < 8 := by omega
          have HI := Lib.hid (fun W1 C => HAT.out W1 C k l hk2 hl8)
          have HA := Lib.hid (fun w hm => HAL.out w hm k l hk2 hl8)
          have HSU := Lib.hid (allTo16_succ r M (8 * k + l))
          have hq1 : (8 * k + l) / 8 = k := by omega
          have hq2 : (8 * k + l) % 8 = l := by omega
          rw [hq1, hq2] at HSU
          have hln := HLE.out.1 (8 * k + l)
          have hcp := HLE.out.2.2
          have hmul : (8 * k + l) * r.cap ≤ 16 * 256 := Nat.mul_le_mul (by omega) hcp
          have hdl := allD_len (r.at k l) r.cap M
          have HLN := Lib.hid (show (words (allTo16 r M (8 * k + l))).length + (words (allD (r.at k l) r.cap M)).length ≤ 5000 by rw [words_len, words_len]; omega)
          obtain ⟨at_, hat⟩ : ∃ a, a = r.at k l := ⟨_, rfl⟩
          rw [← hat] at HI HA HSU HLN
          have HOC := Lib.hid (And.intro O C)
          clear O C hln hcp hmul hdl hat hq1 hq2
          go_wp2_with (first
            | (go_at_call 52; refine (HI.out _ HOC.out.2).mono ?_; rintro e w5 ⟨rfl, C5⟩; have O4 := HOC.out.1.keep C5; have C45 := HOC.out.2.then C5 (by simp))
            | (go_at_call 51; refine (HA.out _ (HH.out.2.1.keep C45)).mono ?_; rintro e w6 ⟨vd, rfl, O6, C6⟩; have O5 := O4.keep C6; have C56 := C45.then C6 (by simp))
            | (refine wpList_app_own rfl (.tmp 16) (.tmp 22) 36 rfl W.heap.size 35 (.int .u64 0) 8 Tryz.underlying36 infoU64' rfl _ _ rfl O5 _ _ _ _ rfl O6 (fun y hy => by simp only [words, List.mem_map] at hy; obtain ⟨z, _, rfl⟩ := hy; rfl) (by have := HLN.out; unfold maxLen; omega) (by have := HLN.out; omega) C56.size ?_; intro v' w7 O7 C7 _; rw [← words_app, ← HSU.out] at O7; have C8 := C56.then C7 (fun g hg => .inr (O5.block g hg).1); have HO7 := Lib.hid (And.intro O7 C8); clear O7 C7 C8 O5 C56 O6 C6 C45)
            | fail)
          go_roundw
          case rel => exact ⟨l + 1, by omega, by go_num, by rw [show 8 * k + (l + 1) = 8 * k + l + 1 from rfl]; exact HO7.out.1, HO7.out.2⟩
          case measure => simp [intOf] <;> omega
        · obtain rfl : l = 8 := by omega
          have HOC := Lib.hid (And.intro O C)
          clear O C
          rw [show ((8 : Nat) : Int) = 8 from rfl]
          go_wp2_with fail
          go_roundw
          case rel => exact ⟨k + 1, by omega, by go_num, by rw [show 8 * (k + 1) = 8 * k + 8 from by omega]; exact HOC.out.1, HOC.out.2⟩
          case measure => simp [intOf] <;> omega
    · obtain rfl : k = 2 := by omega
      have HOC := Lib.hid (And.intro O C)
      clear O C
      rw [show ((2 : Nat) : Int) = 2 from rfl]
      go_wp2_with fail
      go_ret
      exact ⟨_, rfl, by rw [HEND.out]; exact HOC.out.1, HOC.out.2⟩
end Go.Proofs.YtjdbgohfedjifaaGreatDoor
