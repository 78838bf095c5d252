/- plan: the walk of PlanDecodes. -/
import Derived.Test.YtjohbnfeijhcmaaDoorPl6
namespace Bosun
open Go
theorem oneE_byte (e : Ent) (h : e.good 64) : ∀ x ∈ oneE e, x < 256 := by
  intro x hx
  have h1 := headE_lt e h
  unfold oneE at hx
  split at hx
  · simp at hx; omega
  · simp only [bytes8, List.mem_cons, List.not_mem_nil, or_false] at hx
    rcases hx with rfl | rfl | rfl | rfl | rfl | rfl | rfl | rfl | rfl <;> omega
theorem encE_byte (l : List Ent) (h : ∀ e ∈ l, e.good 64) : ∀ x ∈ encE l, x < 256 := by
  intro x hx
  obtain ⟨e, he, hx⟩ := List.mem_flatMap.1 hx
  exact oneE_byte e (h e he) x hx
theorem bytesV_int (l : List Int) (h : ∀ z ∈ l, 0 ≤ z ∧ z ≤ 255) : l.map (Value.int .u8) = bytesV (l.map Int.toNat) ∧ ∀ x ∈ l.map Int.toNat, x < 256 := by
  refine ⟨?_, fun x hx => ?_⟩
  · unfold bytesV
    rw [List.map_map]
    refine List.map_congr_left fun z hz => ?_
    have := h z hz
    show _ = Value.int .u8 ((z.toNat : Nat) : Int)
    rw [Int.toNat_of_nonneg this.1]
  · obtain ⟨z, hz, rfl⟩ := List.mem_map.1 hx
    have := h z hz
    omega
end Bosun
namespace Go.Proofs.YtjohbnfeijhcmaaDoor
open Go.RowKit Bosun Go.ChangeShapes Go.WideShapes Go.ChangeAt
theorem esame_refl (v u : Value) (l : List Ent) (w : World) (hv : ReadsE w v l) (hu : ReadsE w u l) :
    Calls Tryd.prog 9 #[v, u] w fun e w' => e = .returned (.bool true) ∧ Chg [] w w' := by
  have := esame_any v u l l w hv hu
  rw [show decide (l = l) = true by simp] at this
  exact this
set_option maxRecDepth 4000 in
set_option maxHeartbeats 4000000 in
theorem planDecodes_walk (w : World) (v : Value) (l : List Int) (hl : ∀ z ∈ l, 0 ≤ z ∧ z ≤ 255) (hr : RdC w v (l.map (Value.int .u8))) :
    Calls Tryd.prog 3 #[v] w fun e w' => e = .returned (.bool true) ∧ Chg [] w w' := by
  obtain ⟨hm, hb⟩ := bytesV_int l hl
  rw [hm] at hr
  obtain ⟨xs, hxs⟩ : ∃ xs, xs = l.map Int.toNat := ⟨_, rfl⟩
  rw [← hxs] at hr hb
  clear hm hl hxs
  have Tail : ∀ (bs : List Nat), (∀ x ∈ bs, x < 256) → bs.length ≤ 300 → Hid (∀ (u : Value) (w : World), RdC w u (bytesV bs) →
      (Calls Tryd.prog 7 #[u] w fun e w' => ∃ u, e = .returned u ∧ OwnE w' w.heap.size 36 u (dec bs) ∧ Chg [] w w') ∧
      (Calls Tryd.prog 10 #[u] w fun e w' => ∃ u, e = .returned u ∧ OwnE w' w.heap.size 36 u (dec bs) ∧ Chg [] w w')) := fun bs h1 h2 =>
    Lib.hid fun u w h => ⟨decode_any u bs w h h1 (by omega), rdecode_any u bs w h.reads h1 (by omega)⟩
  have Tail2 : ∀ (bs : List Nat), (∀ x ∈ bs, x < 256) → bs.length ≤ 300 → Hid ((∀ (u : Value) (w : World), ReadsE w u (dec bs) →
      (Calls Tryd.prog 8 #[u] w fun e w' => ∃ ao cap, e = .returned (.tuple #[.slice ao (encE (dec bs)).length cap, .int .i64 0]) ∧ RdC w' (.slice ao (encE (dec bs)).length cap) (bytesV (encE (dec bs))) ∧ Chg [] w w')) ∧
      (∀ (u : Value) (w : World), RdC w u (bytesV (encE (dec bs))) →
      (Calls Tryd.prog 7 #[u] w fun e w' => ∃ u, e = .returned u ∧ OwnE w' w.heap.size 36 u (dec bs) ∧ Chg [] w w')) ∧ ((encE (dec bs)).length : Int) ≤ (bs.length : Int)) := by
    intro bs h1 h2
    obtain ⟨g1, g2, g3⟩ := dec_good bs.length bs (Nat.le_refl _) h1
    refine Lib.hid ⟨fun u w h => ?_, fun u w h => ?_, by omega⟩
    · refine (encode_any u (dec bs) w h (by omega) g1).mono ?_
      rintro e w1 ⟨u, rfl, O, C⟩
      obtain ⟨ao, cap, rfl, R⟩ := (RdC.of_own O).shape
      rw [bytesV_len] at R ⊢
      exact ⟨ao, cap, rfl, R, C⟩
    · have := decode_any u (encE (dec bs)) w h (encE_byte _ fun e he => (g1 e he).1) (by omega)
      rw [dec_enc _ g1] at this
      exact this
  go_enter Tryd.func3, Tryd.ntmps3
  obtain ⟨ao, cap, rfl, hr2⟩ := hr.shape
  rw [bytesV_len] at hr2 ⊢
  clear hr
  by_cases hlen : 300 < xs.length
  · have HT := Tail (xs.take 300) (fun x hx => hb x (List.mem_of_mem_take hx)) (by rw [List.length_take]; omega)
    have HU := Tail2 (xs.take 300) (fun x hx => hb x (List.mem_of_mem_take hx)) (by rw [List.length_take]; omega)
    have hlen2 : 300 < (xs.length : Int) := by omega
    have HQ := Lib.hid hr2
    have HL := Lib.hid hlen
    clear hr2
    go_upto_region 3 with (refine wpList_rd_to rfl 22 (.tmp 9) _ rfl 5 Tryd.underlying22 sizeU8' .i64 300 rfl _ rfl (bytesV xs) HQ.out (by have := HL.out; rw [bytesV_len]; omega) ?_; intro v1 hr1)
    rw [show (bytesV xs).take 300 = bytesV (xs.take 300) by simp [bytesV]] at hr1
    obtain ⟨ao1, cap1, rfl, hr2⟩ := hr1.shape
    rw [bytesV_len] at hr2 ⊢
    clear hr1 hlen2 HQ HL
    clear hlen hb Tail Tail2
    obtain ⟨D, hD⟩ : ∃ D, D = dec (xs.take 300) := ⟨_, rfl⟩
    obtain ⟨E, hE⟩ : ∃ E, E = encE D := ⟨_, rfl⟩
    rw [← hD] at HT HU
    rw [← hE] at HU
    have hle := HU.out.2.2
    obtain ⟨m, hmm⟩ : ∃ m, m = E.length := ⟨_, rfl⟩
    obtain ⟨n, hnn⟩ : ∃ n, n = (xs.take 300).length := ⟨_, rfl⟩
    rw [← hmm] at HU hle
    rw [← hnn] at hr2 hle ⊢
    clear hD hE hmm hnn
    have HR := Lib.hid hr2
    clear hr2
    go_wp2_with (first
      | (go_at_call 7; refine ((HT.out _ _ HR.out).1).mono ?_; rintro e w1 ⟨u1, rfl, O1, C1⟩; have R1 := Lib.hid (O1.reads); clear O1)
      | fail)
    refine ((HU.out.1) _ _ R1.out).mono ?_
    rintro e w2 ⟨ao2, cap2, rfl, R2, C2⟩
    have H2 := Lib.hid R2
    have hC2 := Lib.hid (C1.then C2 (by simp))
    have K2 := Lib.hid (R1.out.keep C2)
    clear R2 R1 C1 C2
    go_wp2_with fail
    refine ((HT.out _ _ (HR.out.keep hC2.out)).2).mono ?_
    rintro e w3 ⟨u3, rfl, O3, C3⟩
    have R3 := Lib.hid (O3.reads)
    have hC3 := Lib.hid (hC2.out.then C3 (by simp))
    have K3 := Lib.hid (K2.out.keep C3)
    have H3 := Lib.hid (H2.out.keep C3)
    clear O3 C3 hC2 K2 H2
    go_wp2_with fail
    refine (esame_refl _ _ D _ K3.out R3.out).mono ?_
    rintro e w4 ⟨rfl, C4⟩
    have hC4 := Lib.hid (hC3.out.then C4 (by simp))
    have K4 := Lib.hid (K3.out.keep C4)
    have H4 := Lib.hid (H3.out.keep C4)
    clear C4 hC3 K3 H3 R3
    go_wp2_with fail
    refine (HU.out.2.1 _ _ H4.out).mono ?_
    rintro e w5 ⟨u5, rfl, O5, C5⟩
    have R5 := Lib.hid (O5.reads)
    have hC5 := Lib.hid (hC4.out.then C5 (by simp))
    have K5 := Lib.hid (K4.out.keep C5)
    clear O5 C5 hC4 K4 H4
    go_wp2_with fail
    refine (esame_refl _ _ D _ R5.out K5.out).mono ?_
    rintro e w6 ⟨rfl, C6⟩
    have hC6 := Lib.hid (hC5.out.then C6 (by simp))
    clear C6 hC5 K5 R5
    go_wp2_with fail
    refine (awake_any _).mono ?_
    rintro e w7 ⟨rfl, C7⟩
    have hC7 := Lib.hid (hC6.out.then C7 (by simp))
    clear C7
    go_wp2_with fail
    go_ret
    exact ⟨rfl, hC7.out⟩
  · have HT := Tail (xs) (hb) (by omega)
    have HU := Tail2 (xs) (hb) (by omega)
    have hlen2 : ¬ 300 < (xs.length : Int) := by omega
    go_upto_region 3 with (fail)
    clear hlen2
    clear hlen hb Tail Tail2
    obtain ⟨D, hD⟩ : ∃ D, D = dec (xs) := ⟨_, rfl⟩
    obtain ⟨E, hE⟩ : ∃ E, E = encE D := ⟨_, rfl⟩
    rw [← hD] at HT HU
    rw [← hE] at HU
    have hle := HU.out.2.2
    obtain ⟨m, hmm⟩ : ∃ m, m = E.length := ⟨_, rfl⟩
    obtain ⟨n, hnn⟩ : ∃ n, n = (xs).length := ⟨_, rfl⟩
    rw [← hmm] at HU hle
    rw [← hnn] at hr2 hle ⊢
    clear hD hE hmm hnn
    have HR := Lib.hid hr2
    clear hr2
    go_wp2_with (first
      | (go_at_call 7; refine ((HT.out _ _ HR.out).1).mono ?_; rintro e w1 ⟨u1, rfl, O1, C1⟩; have R1 := Lib.hid (O1.reads); clear O1)
      | fail)
    refine ((HU.out.1) _ _ R1.out).mono ?_
    rintro e w2 ⟨ao2, cap2, rfl, R2, C2⟩
    have H2 := Lib.hid R2
    have hC2 := Lib.hid (C1.then C2 (by simp))
    have K2 := Lib.hid (R1.out.keep C2)
    clear R2 R1 C1 C2
    go_wp2_with fail
    refine ((HT.out _ _ (HR.out.keep hC2.out)).2).mono ?_
    rintro e w3 ⟨u3, rfl, O3, C3⟩
    have R3 := Lib.hid (O3.reads)
    have hC3 := Lib.hid (hC2.out.then C3 (by simp))
    have K3 := Lib.hid (K2.out.keep C3)
    have H3 := Lib.hid (H2.out.keep C3)
    clear O3 C3 hC2 K2 H2
    go_wp2_with fail
    refine (esame_refl _ _ D _ K3.out R3.out).mono ?_
    rintro e w4 ⟨rfl, C4⟩
    have hC4 := Lib.hid (hC3.out.then C4 (by simp))
    have K4 := Lib.hid (K3.out.keep C4)
    have H4 := Lib.hid (H3.out.keep C4)
    clear C4 hC3 K3 H3 R3
    go_wp2_with fail
    refine (HU.out.2.1 _ _ H4.out).mono ?_
    rintro e w5 ⟨u5, rfl, O5, C5⟩
    have R5 := Lib.hid (O5.reads)
    have hC5 := Lib.hid (hC4.out.then C5 (by simp))
    have K5 := Lib.hid (K4.out.keep C5)
    clear O5 C5 hC4 K4 H4
    go_wp2_with fail
    refine (esame_refl _ _ D _ R5.out K5.out).mono ?_
    rintro e w6 ⟨rfl, C6⟩
    have hC6 := Lib.hid (hC5.out.then C6 (by simp))
    clear C6 hC5 K5 R5
    go_wp2_with fail
    refine (awake_any _).mono ?_
    rintro e w7 ⟨rfl, C7⟩
    have hC7 := Lib.hid (hC6.out.then C7 (by simp))
    clear C7
    go_wp2_with fail
    go_ret
    exact ⟨rfl, hC7.out⟩
end Go.Proofs.YtjohbnfeijhcmaaDoor
