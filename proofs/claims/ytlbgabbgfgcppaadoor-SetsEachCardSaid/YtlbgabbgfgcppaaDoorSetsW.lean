/- sets: the walks of SetsHold and SetsTell. -/
import Derived.Test.YtlbgabbgfgcppaaDoorSet5
namespace Go.Proofs.YtlbgabbgfgcppaaDoor
open Go.RowKit Bosun
set_option maxHeartbeats 4000000 in
theorem setsHold_walk (w : World) (hT : TabW w) (v : Value) (l : List Int) (hl : ∀ z ∈ l, -9223372036854775808 ≤ z ∧ z ≤ 9223372036854775807) (hr : Reads w v (ints l)) (s : Nat) (hs : s < 18446744073709551616) (i : Int) (i0 : -9223372036854775808 ≤ i) (i1 : i ≤ 9223372036854775807) :
    Calls Tryd.prog 4 #[v, .int .u64 (s : Nat), .int .i64 i] w fun e w' => e = .returned (.bool true) ∧ Chg [] w w' := by
  have hwp : 0 < w.heap.size := World.block_lt_of_cell? w _ (hT 0 (by decide))
  have hlt : ∀ z ∈ l.take 90, -9223372036854775808 ≤ z ∧ z ≤ 9223372036854775807 := fun z hz => hl z (List.mem_of_mem_take hz)
  have HF := Lib.hid (few_any v l w hr)
  have HO := Lib.hid (fun v w (h : Reads w v (ints (l.take 90))) => sof_any v _ hlt w h)
  have HP := Lib.hid (fun v w (h : Reads w v (ints (l.take 90))) => of_any v _ hlt w h)
  have HA := Lib.hid (fun w => sall_any i i0 i1 w)
  have HB := Lib.hid (fun w => all_any i i0 i1 w)
  have HH := Lib.hid (fun w => shas_any s hs i i0 i1 w)
  have HI := Lib.hid (fun w => has_any s hs i w)
  have HW := Lib.hid (fun w => with_any s hs i i0 i1 w)
  have HX := Lib.hid (fun w => without_any s hs i i0 i1 w)
  have HT := Lib.hid (fun w => put_any s hs i true w)
  have HU := Lib.hid (fun w => put_any s hs i false w)
  have HK := Lib.hid (fun w1 (H : Chg [] w w1) => awake_any w1 (TabW.below hwp H.below hT))
  obtain ⟨M, hM⟩ : ∃ M, M = l.take 90 := ⟨_, rfl⟩
  rw [← hM] at HF HO HP
  obtain ⟨a, ha⟩ : ∃ a, a = M.foldl (fun s i => put s i true) 0 := ⟨_, rfl⟩
  rw [← ha] at HO HP
  obtain ⟨b, hb⟩ : ∃ b, b = allBelow i := ⟨_, rfl⟩
  rw [← hb] at HA HB
  obtain ⟨c, hc⟩ : ∃ c, c = has s i := ⟨_, rfl⟩
  rw [← hc] at HH HI
  obtain ⟨x, hx⟩ : ∃ x, x = put s i true := ⟨_, rfl⟩
  rw [← hx] at HW HT
  obtain ⟨y, hy⟩ : ∃ y, y = put s i false := ⟨_, rfl⟩
  rw [← hy] at HX HU
  clear hM ha hb hc hx hy hlt hl hr hT
  go_enter Tryd.func4, Tryd.ntmps4
  go_wp2_with fail
  refine HF.out.mono ?_
  rintro e w1 ⟨v1, rfl, R1, H1⟩
  have O1 := Lib.hid (HO.out v1 w1 R1)
  have P1 := Lib.hid (HP.out v1 w1 R1)
  clear R1
  go_wp2_with (first
    | (go_at_call 10; refine O1.out.mono ?_; rintro e w2 ⟨rfl, rfl⟩)
    | (go_at_call 13; refine P1.out.mono ?_; rintro e w3 ⟨rfl, H3⟩)
    | (go_at_call 14; refine (HA.out _).mono ?_; rintro e w4 ⟨rfl, rfl⟩)
    | (go_at_call 15; refine (HB.out _).mono ?_; rintro e w5 ⟨rfl, H5⟩)
    | (go_at_call 16; refine (HH.out _).mono ?_; rintro e w6 ⟨rfl, rfl⟩)
    | (go_at_call 17; refine (HI.out _).mono ?_; rintro e w7 ⟨rfl, H7⟩)
    | (go_at_call 18; refine (HW.out _).mono ?_; rintro e w8 ⟨rfl, rfl⟩)
    | (go_at_call 20; refine (HX.out _).mono ?_; rintro e w9 ⟨rfl, rfl⟩)
    | (go_at_call 19; refine (HT.out _).mono ?_; clear HT; rintro e wa ⟨rfl, Ha⟩)
    | (go_at_call 19; refine (HU.out _).mono ?_; clear HU; rintro e wb ⟨rfl, Hb⟩; have K1 := Lib.hid (HK.out wb (((((H1.trans H3).trans H5).trans H7).trans Ha).trans Hb)))
    | (go_at_call 11; refine K1.out.mono ?_; rintro e wc ⟨rfl, Hc⟩))
  go_ret
  exact ⟨rfl, (((((H1.trans H3).trans H5).trans H7).trans Ha).trans Hb).trans Hc⟩
set_option maxHeartbeats 4000000 in
theorem setsTell_walk (w : World) (hT : TabW w) (s : Nat) (hs : s < 18446744073709551616) (i : Int) (i0 : -9223372036854775808 ≤ i) (i1 : i ≤ 9223372036854775807) :
    Calls Tryd.prog 5 #[.int .u64 (s : Nat), .int .i64 i] w fun e w' => e = .returned (.bool true) ∧ Chg [] w w' := by
  have hwp : 0 < w.heap.size := World.block_lt_of_cell? w _ (hT 0 (by decide))
  have HC := Lib.hid (fun w => count_any s hs w)
  have HL := Lib.hid (fun w => list_any' s hs w)
  have HM := Lib.hid (fun w1 (H : Chg [] w w1) => least_any s hs w1 (TabW.below hwp H.below hT))
  have HR := Lib.hid (fun w => rleast_any s hs w)
  have HN := Lib.hid (fun w1 (H : Chg [] w w1) => next_any s hs i i0 i1 w1 (TabW.below hwp H.below hT))
  have HO := Lib.hid (fun w => rnext_any s hs i w)
  have HX := Lib.hid (fun w1 (H : Chg [] w w1) => text_any s hs w1 (TabW.below hwp H.below hT))
  have HY := Lib.hid (fun w => rtext_any s hs w)
  have HK := Lib.hid (fun w1 (H : Chg [] w w1) => awake_any w1 (TabW.below hwp H.below hT))
  obtain ⟨a, ha⟩ : ∃ a, a = leastI s := ⟨_, rfl⟩
  rw [← ha] at HM HR
  obtain ⟨b, hb⟩ : ∃ b, b = nextI s i := ⟨_, rfl⟩
  rw [← hb] at HN HO
  obtain ⟨c, hc⟩ : ∃ c : ByteArray, c = ⟨(txtN s).toArray⟩ := ⟨_, rfl⟩
  rw [← hc] at HX HY
  obtain ⟨k, hk⟩ : ∃ k, k = (members s).length := ⟨_, rfl⟩
  rw [← hk] at HC HL
  clear ha hb hc hk hT
  go_enter Tryd.func5, Tryd.ntmps5
  go_wp2_with (first
    | (go_at_call 21; refine (HC.out _).mono ?_; rintro e w2 ⟨rfl, rfl⟩)
    | (go_at_call 8; refine (HL.out _).mono ?_; rintro e w3 ⟨ao, cp, rfl, _, H3⟩; have M3 := Lib.hid (HM.out w3 H3))
    | (go_at_call 22; refine M3.out.mono ?_; rintro e w4 ⟨rfl, rfl⟩)
    | (go_at_call 23; refine (HR.out _).mono ?_; rintro e w5 ⟨rfl, H5⟩; have N5 := Lib.hid (HN.out w5 (H3.trans H5)))
    | (go_at_call 24; refine N5.out.mono ?_; rintro e w6 ⟨rfl, rfl⟩)
    | (go_at_call 25; refine (HO.out _).mono ?_; rintro e w7 ⟨rfl, H7⟩; have X7 := Lib.hid (HX.out w7 ((H3.trans H5).trans H7)))
    | (go_at_call 26; refine X7.out.mono ?_; rintro e w8 ⟨rfl, H8⟩)
    | (go_at_call 27; refine (HY.out _).mono ?_; rintro e w9 ⟨rfl, H9⟩; have K9 := Lib.hid (HK.out w9 ((((H3.trans H5).trans H7).trans H8).trans H9)))
    | (go_at_call 11; refine K9.out.mono ?_; rintro e wc ⟨rfl, Hc⟩))
  go_ret
  exact ⟨rfl, ((((H3.trans H5).trans H7).trans H8).trans H9).trans Hc⟩
end Go.Proofs.YtlbgabbgfgcppaaDoor
