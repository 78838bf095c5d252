/- sets: the walk of SetsEach. -/
import Derived.Test.YtlbgabbgfgcppaaDoorSetsR
import Derived.Test.YtlbgabbgfgcppaaDoorTold
namespace Bosun
open Go
theorem reads_takeN {w : World} {ao : Option Addr} {len cp : Nat} {l : List Nat} (h : Reads w (.slice ao len cp) (nats l)) (k : Nat) (hk : k ≤ l.length) : Reads w (.slice ao k cp) (nats (l.take k)) := by
  obtain ⟨ao', cp', e, hm, hc⟩ := h
  cases e
  rw [nats_len] at hm
  have hl : (l.take k).length = k := by rw [List.length_take]; omega
  refine ⟨ao, cp, by rw [nats_len, hl], by rw [nats_len, hl]; omega, fun j x hx => hc j x ?_⟩
  unfold nats at hx ⊢
  rw [List.map_take, List.getElem?_take] at hx
  split at hx
  · exact hx
  · cases hx
theorem take_min (l : List Nat) (k : Nat) : l.take (min l.length k) = l.take k := by
  by_cases h : k ≤ l.length
  · rw [Nat.min_eq_right h]
  · rw [Nat.min_eq_left (by omega), List.take_length, List.take_of_length_le (by omega)]
end Bosun
namespace Go.Proofs.YtlbgabbgfgcppaaDoor
open Go.RowKit Bosun
theorem list_any2 (s : Nat) (hs : s < 18446744073709551616) (w : World) :
    Calls Tryd.prog 8 #[.int .u64 (s : Nat)] w fun e w' => ∃ ao cp, e = .returned (.slice ao (members s).length cp) ∧ Reads w' (.slice ao (members s).length cp) (nats (members s)) ∧ Chg [] w w' ∧ (members s).length ≤ cp ∧ ((ao = none ∧ (members s).length = 0 ∧ cp = 0) ∨ ∃ g, ao = some ⟨g, 0, none⟩) := by
  refine (list_any s hs w).mono ?_
  rintro e w' ⟨v, rfl, ho, H⟩
  have hr := ho.reads
  have hl := nats_len (members s)
  rcases ho.2 with ⟨rfl, h0⟩ | ⟨g, cap, cur, rfl, _, _, hn, _⟩
  · rw [hl] at h0
    refine ⟨none, 0, by rw [h0], by rw [h0]; exact hr, H, by omega, .inl ⟨rfl, h0, rfl⟩⟩
  · rw [hl] at hr hn
    exact ⟨_, cap, by rw [hl], hr, H, hn, .inr ⟨g, rfl⟩⟩
theorem same_nats (v u : Value) (l : List Nat) (w : World) (hv : Reads w v (nats l)) (hu : Reads w u (nats l)) :
    Calls Tryd.prog 9 #[v, u] w fun e w' => e = .returned (.bool true) ∧ Chg [] w w' := by
  rw [nats_ints] at hv hu
  have h := same_any v u _ _ w hv hu
  rw [decide_eq_true rfl] at h
  exact h
set_option maxHeartbeats 4000000 in
theorem setsEach_walk (w : World) (hT : TabW w) (s : Nat) (hs : s < 18446744073709551616) (k : Nat) (hk : k < 256) :
    Calls Tryd.prog 3 #[.int .u64 (s : Nat), .int .u8 (k : Nat)] w fun e w' => e = .returned (.bool true) ∧ Chg [] w w' := by
  have hwp : 0 < w.heap.size := World.block_lt_of_cell? w _ (hT 0 (by decide))
  have hle := members_le s
  have A1 := told_any s hs 64 (by omega) w hT
  rw [List.take_of_length_le hle] at A1
  have H1 := Lib.hid A1
  have H2 := Lib.hid (fun w1 (H : Chg [] w w1) => told_any s hs k (by omega) w1 (TabW.below hwp H.below hT))
  have H3 := Lib.hid (fun w => list_any2 s hs w)
  have HK := Lib.hid (fun w1 (H : Chg [] w w1) => awake_any w1 (TabW.below hwp H.below hT))
  have hof := of_members hs
  have hlt : ∀ z ∈ (members s).map (fun i => ((i : Nat) : Int)), -9223372036854775808 ≤ z ∧ z ≤ 9223372036854775807 := fun z hz => by
    obtain ⟨a, ha, rfl⟩ := List.mem_map.1 hz
    have := (members_mem ha).1; omega
  have HO := Lib.hid (fun v w (h : Reads w v (nats (members s))) => sof_any v _ hlt w (by rw [← nats_ints]; exact h))
  rw [hof] at HO
  have HTM := Lib.hid (take_min (members s) k)
  obtain ⟨L, hL⟩ : ∃ L, L = members s := ⟨_, rfl⟩
  rw [← hL] at hle H1 H2 H3 HO HTM
  obtain ⟨c, hc⟩ : ∃ c, c = min L.length k := ⟨_, rfl⟩
  rw [← hc] at HTM
  have M1 := Lib.hid (show ((c : Nat) : Int) = if ((k : Nat) : Int) < ((L.length : Nat) : Int) then ((k : Nat) : Int) else ((L.length : Nat) : Int) by split <;> omega)
  have hcL : c ≤ L.length := by omega
  clear hL hof hlt A1 hT hc
  go_enter Tryd.func3, Tryd.ntmps3
  go_wp2_with fail
  refine H1.out.mono ?_
  clear H1
  rintro e w1 ⟨v1, rfl, R1, C1⟩
  have T2 := Lib.hid (H2.out w1 C1)
  clear H2
  go_wp2_with fail
  refine T2.out.mono ?_
  clear T2
  rintro e w2 ⟨v2, rfl, R2, C2⟩
  go_wp2_with fail
  refine (H3.out _).mono ?_
  clear H3
  rintro e w3 ⟨ao, cp, rfl, R3, C3, hcp, hao⟩
  have S1 := Lib.hid (same_nats v1 _ L w3 ((R1.keep C2).keep C3) R3)
  have RT := reads_takeN R3 c hcL
  rw [HTM.out] at RT
  have HRT := Lib.hid RT
  have HR2 := Lib.hid (R2.keep C3)
  have HO3 := Lib.hid (fun w4 (H : Chg [] w3 w4) => HO.out v1 w4 (((R1.keep C2).keep C3).keep H))
  have HALL := Lib.hid ((C1.trans C2).trans C3)
  clear R1 R2 R3 RT HO
  have hcc : (c : Int) ≤ (cp : Int) := by omega
  have hc0 : (0 : Int) ≤ (c : Int) := by omega
  rcases hao with ⟨rfl, hl0, rfl⟩ | ⟨g, rfl⟩
  · obtain rfl : c = 0 := by omega
    obtain rfl : L = [] := List.length_eq_zero_iff.1 hl0
    clear hl0 hcL hcp hle hcc hc0
    go_wp2_with (first
      | (go_at_call 9; refine S1.out.mono ?_; clear S1; rintro e w4 ⟨rfl, C4⟩; have S2 := Lib.hid (same_nats v2 _ _ w4 (HR2.out.keep C4) (HRT.out.keep C4)))
      | (refine wpList_min rfl (.tmp 37) _ _ _ rfl .i64 (L.length : Nat) (k : Nat) ((0 : Nat) : Int) rfl rfl M1.out ?_)
      | (go_at_call 9; refine S2.out.mono ?_; rintro e w5 ⟨rfl, C5⟩; have O5 := Lib.hid (HO3.out w5 (C4.trans C5)); have K5 := Lib.hid (HK.out w5 (HALL.out.trans (C4.trans C5))))
      | (go_at_call 10; refine O5.out.mono ?_; rintro e w6 ⟨rfl, rfl⟩)
      | (go_at_call 11; refine K5.out.mono ?_; rintro e w7 ⟨rfl, C7⟩))
    go_ret
    exact ⟨rfl, (HALL.out.trans (C4.trans C5)).trans C7⟩
  · go_wp2_with (first
      | (go_at_call 9; refine S1.out.mono ?_; clear S1; rintro e w4 ⟨rfl, C4⟩; have S2 := Lib.hid (same_nats v2 _ _ w4 (HR2.out.keep C4) (HRT.out.keep C4)))
      | (refine wpList_min rfl (.tmp 37) _ _ _ rfl .i64 (L.length : Nat) (k : Nat) (c : Nat) rfl rfl M1.out ?_)
      | (go_at_call 9; refine S2.out.mono ?_; rintro e w5 ⟨rfl, C5⟩; have O5 := Lib.hid (HO3.out w5 (C4.trans C5)); have K5 := Lib.hid (HK.out w5 (HALL.out.trans (C4.trans C5))))
      | (go_at_call 10; refine O5.out.mono ?_; rintro e w6 ⟨rfl, rfl⟩)
      | (go_at_call 11; refine K5.out.mono ?_; rintro e w7 ⟨rfl, C7⟩))
    go_ret
    exact ⟨rfl, (HALL.out.trans (C4.trans C5)).trans C7⟩
end Go.Proofs.YtlbgabbgfgcppaaDoor
