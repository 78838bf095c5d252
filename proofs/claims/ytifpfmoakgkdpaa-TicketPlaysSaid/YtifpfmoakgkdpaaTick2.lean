/- ticket: a hand that is nil; the page's example. -/
import Derived.Test.YtifpfmoakgkdpaaTick1
namespace Go.Proofs.Ytifpfmoakgkdpaa
open Go.RowKit Bosun
theorem holds_nil (w : World) : Calls Try.prog 10 #[.pointer none] w fun e w' => e = .returned (.bool false) ∧ w = w' := by
  go_enter Try.func10, Try.ntmps10
  go_wp2_with fail
  go_ret
  exact ⟨rfl, rfl⟩
theorem waits_nil (w : World) : Calls Try.prog 9 #[.pointer none] w fun e w' => e = .returned (.bool false) ∧ w = w' := by
  go_enter Try.func9, Try.ntmps9
  go_wp2_with fail
  go_ret
  exact ⟨rfl, rfl⟩
theorem mine_nil (w : World) : Calls Try.prog 14 #[.pointer none] w fun e w' => e = .returned (.int .u64 0) ∧ w = w' := by
  go_enter Try.func14, Try.ntmps14
  go_wp2_with fail
  go_ret
  exact ⟨rfl, rfl⟩
theorem step_nil (m : Value) (w : World) : Calls Try.prog 12 #[.pointer none, m] w fun e w' => e = .returned (.bool false) ∧ w = w' := by
  go_enter Try.func12, Try.ntmps12
  go_wp2_with fail
  go_step3
  go_wp2_with fail
  rw [Exit.noGoto_ret]
  go_ret
  exact ⟨rfl, rfl⟩
theorem free_nil (m : Value) (w : World) : Calls Try.prog 11 #[.pointer none, m] w fun e w' => e = .returned (.bool false) ∧ w = w' := by
  go_enter Try.func11, Try.ntmps11
  go_wp2_with fail
  refine (holds_nil _).mono ?_
  rintro e w5 ⟨rfl, rfl⟩
  go_wp2_with fail
  go_ret
  exact ⟨rfl, rfl⟩
set_option maxHeartbeats 4000000 in
theorem awake_any (w : World) :
    Calls Try.prog 13 #[] w fun e w' => e = .returned (.bool true) ∧ Chg [] w w' := by
  go_enter Try.func13, Try.ntmps13
  go_wp2_with fail
  refine (new_any 2 2 (by decide) _).mono ?_
  rintro e w1 ⟨bm, bw, rfl, M1, C1, g1, g2⟩
  replace M1 : IsMem w1 bm bw [0, 0] 0 := M1
  have b1 := M1.head.lt
  have b2 := M1.row.lt
  go_wp2_with fail
  refine (tnew_any 0 (by omega) (by omega) _).mono ?_
  rintro e w2 ⟨a, rfl, A2, C2, ha⟩
  have z2 := Blk.lt A2
  go_wp2_with fail
  refine (tnew_any 0 (by omega) (by omega) _).mono ?_
  rintro e w3 ⟨b, rfl, B3, C3, hb⟩
  have z3 := C1.size
  have HNE := Lib.hid (show a ≠ bm ∧ a ≠ bw ∧ b ≠ bm ∧ b ≠ bw ∧ a ≠ b ∧ w.heap.size ≤ a ∧ w.heap.size ≤ b ∧ w.heap.size ≤ bm ∧ w.heap.size ≤ bw from by have := C2.size; omega)
  have M3 := (M1.keep C2).keep C3
  have A3 := A2.chg C3 (by simp)
  have D3 : Chg [] w w3 := (C1.then C2 (by simp)).then C3 (by simp)
  clear C1 C2 C3 M1 A2 g1 g2 b1 b2 z2 z3 ha hb
  have hin : ∀ g, g ∈ [a, bm, bw] ∨ g ∈ [b, bm, bw] → w.heap.size ≤ g := fun g hg => by have := HNE.out; simp at hg; omega
  have HIN := Lib.hid hin
  clear hin
  go_wp2_with fail
  refine (step_any a 0 0 0 _ A3 (by simp [St]) (by omega) bm bw [0, 0] 0 M3 HNE.out.1 HNE.out.2.1).mono ?_
  rw [show stS 0 [0, 0] 0 0 = 1 from rfl, show stM 0 [0, 0] 0 0 = 0 from rfl, show stW 0 [0, 0] 0 = [1, 0] from rfl, show stU 0 [0, 0] 0 0 = 1 from rfl]
  rintro e w4 ⟨rfl, A4, M4, C4⟩
  have B4 := B3.chg C4 (by have := HNE.out; simp; omega)
  have D4 := D3.then C4 (fun g hg => .inr (HIN.out g (.inl hg)))
  clear A3 M3 B3 D3 C4
  go_wp2_with fail
  refine (step_any a 0 1 0 _ A4 (by simp [St]) (by omega) bm bw [1, 0] 1 M4 HNE.out.1 HNE.out.2.1).mono ?_
  rw [show stS 0 [1, 0] 1 0 = 2 from rfl, show stM 0 [1, 0] 1 0 = 0 from rfl, show stW 0 [1, 0] 1 = [1, 0] from rfl, show stU 0 [1, 0] 1 1 = 2 from rfl]
  rintro e w5 ⟨rfl, A5, M5, C5⟩
  have B5 := B4.chg C5 (by have := HNE.out; simp; omega)
  have D5 := D4.then C5 (fun g hg => .inr (HIN.out g (.inl hg)))
  clear A4 M4 B4 D4 C5
  go_wp2_with fail
  refine (step_any b 0 0 0 _ B5 (by simp [St]) (by omega) bm bw [1, 0] 2 M5 HNE.out.2.2.1 HNE.out.2.2.2.1).mono ?_
  rw [show stS 0 [1, 0] 0 0 = 1 from rfl, show stM 0 [1, 0] 0 0 = 1 from rfl, show stW 0 [1, 0] 0 = [2, 0] from rfl, show stU 0 [1, 0] 2 0 = 3 from rfl]
  rintro e w6 ⟨rfl, B6, M6, C6⟩
  have A6 := A5.chg C6 (by have := HNE.out; simp; omega)
  have D6 := D5.then C6 (fun g hg => .inr (HIN.out g (.inr hg)))
  clear A5 M5 B5 D5 C6
  go_wp2_with fail
  refine (step_any b 0 1 1 _ B6 (by simp [St]) (by omega) bm bw [2, 0] 3 M6 HNE.out.2.2.1 HNE.out.2.2.2.1).mono ?_
  rw [show stS 0 [2, 0] 1 1 = 1 from rfl, show stM 0 [2, 0] 1 1 = 1 from rfl, show stW 0 [2, 0] 1 = [2, 0] from rfl, show stU 0 [2, 0] 3 1 = 4 from rfl]
  rintro e w7 ⟨rfl, B7, M7, C7⟩
  have A7 := A6.chg C7 (by have := HNE.out; simp; omega)
  have D7 := D6.then C7 (fun g hg => .inr (HIN.out g (.inr hg)))
  clear A6 M6 B6 D6 C7
  go_wp2_with fail
  refine (free_any a 0 2 0 _ A7 (by omega) bm bw [2, 0] 4 M7 HNE.out.1 HNE.out.2.1).mono ?_
  rw [show frS 2 = 0 from rfl, show frM 2 0 = 0 from rfl, show frW 0 [2, 0] 2 0 = [2, 1] from rfl, show frU 0 [2, 0] 4 2 = 5 from rfl]
  rintro e w8 ⟨rfl, A8, M8, C8⟩
  have B8 := B7.chg C8 (by have := HNE.out; simp; omega)
  have D8 := D7.then C8 (fun g hg => .inr (HIN.out g (.inl hg)))
  clear A7 M7 B7 D7 C8
  go_wp2_with (first
    | (go_at_call 12; refine (step_any b 0 1 1 _ B8 (by simp [St]) (by omega) bm bw [2, 1] 5 M8 HNE.out.2.2.1 HNE.out.2.2.2.1).mono ?_; rw [show stS 0 [2, 1] 1 1 = 2 from rfl, show stM 0 [2, 1] 1 1 = 1 from rfl, show stW 0 [2, 1] 1 = [2, 1] from rfl, show stU 0 [2, 1] 5 1 = 6 from rfl]; rintro e w9 ⟨rfl, B9, M9, C9⟩)
    | (go_at_call 14; refine (mine_any b 0 2 1 _ B9).mono ?_; rintro e w10 ⟨rfl, rfl⟩)
    | (go_at_call 10; refine (holds_any a 0 0 0 _ (A8.chg C9 (by have := HNE.out; simp; omega))).mono ?_; rintro e w11 ⟨rfl, rfl⟩))
  go_ret
  exact ⟨rfl, D8.then C9 (fun g hg => .inr (HIN.out g (.inr hg)))⟩
end Go.Proofs.Ytifpfmoakgkdpaa
