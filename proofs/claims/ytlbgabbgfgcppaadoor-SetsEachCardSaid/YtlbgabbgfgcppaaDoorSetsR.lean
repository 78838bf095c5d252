/- sets: the plain law and the walk of SetsRound. -/
import Derived.Test.YtlbgabbgfgcppaaDoorSetsW
namespace Bosun
open Go
theorem members_sorted (s : Nat) : (members s).Pairwise (· < ·) := by
  unfold members
  exact List.Pairwise.filter _ List.pairwise_lt_range
theorem sorted_inj {L : List Nat} (hs : L.Pairwise (· < ·)) {i j : Nat} (hi : i < L.length) (hj : j < L.length) : (L[i] = L[j]) ↔ i = j := by
  constructor
  · intro h
    rcases Nat.lt_trichotomy i j with hl | hl | hl
    · have := List.pairwise_iff_getElem.1 hs i j hi hj hl; omega
    · exact hl
    · have := List.pairwise_iff_getElem.1 hs j i hj hi hl; omega
  · intro h; subst h; rfl
theorem mod_add {p f j : Nat} (hf : f < p) (hj : j ≤ p) : (f + j) % p = if f + j < p then f + j else f + j - p := by
  split
  · exact Nat.mod_eq_of_lt (by assumption)
  · rw [Nat.mod_eq_sub_mod (by omega), Nat.mod_eq_of_lt (by omega)]
theorem leastI_first {s : Nat} (h : 0 < (members s).length) : leastI s = (((members s)[0] : Nat) : Int) := by
  unfold leastI
  generalize members s = L at *
  cases L with
  | nil => simp at h
  | cons a t => rfl
theorem next_cyc {s : Nat} {j : Nat} (hj : j < (members s).length) : nextI s ((((members s)[j] : Nat) : Int) + 1) = (((members s)[(j + 1) % (members s).length]'(Nat.mod_lt _ (by omega)) : Nat) : Int) := by
  have hso := members_sorted s
  by_cases hlt : j + 1 < (members s).length
  · have e : (j + 1) % (members s).length = j + 1 := Nat.mod_eq_of_lt hlt
    have h2 := List.pairwise_iff_getElem.1 hso j (j + 1) hj hlt (by omega)
    rw [nextI_some hlt (by omega) (fun i hi hik => by
      by_cases h : i = j
      · subst h; omega
      · have := List.pairwise_iff_getElem.1 hso i j hi hj (by omega); omega)]
    simp only [e]
  · have e : (j + 1) % (members s).length = 0 := by rw [show j + 1 = (members s).length by omega, Nat.mod_self]
    rw [nextI_none (fun i hi => by
      by_cases h : i = j
      · subst h; omega
      · have := List.pairwise_iff_getElem.1 hso i j hi hj (by omega); omega), leastI_first (by omega)]
    simp only [e]
theorem next_idx {s : Nat} (i : Int) (h : 0 < (members s).length) : ∃ f, ∃ hf : f < (members s).length, nextI s i = (((members s)[f] : Nat) : Int) := by
  rw [nextI_find]
  cases hq : (members s).find? (fun x : Nat => decide (i ≤ (x : Int))) with
  | some x =>
    obtain ⟨f, hf, he⟩ := List.mem_iff_getElem.1 (List.mem_of_find?_eq_some hq)
    exact ⟨f, hf, by rw [he]⟩
  | none => exact ⟨0, h, leastI_first h⟩
theorem fold_put : ∀ (l : List Nat) (s0 : Nat) (_ : s0 < 18446744073709551616) (j : Nat), ((l.map fun i => ((i : Nat) : Int)).foldl (fun s i => put s i true) s0).testBit j = (decide (j < 64) && (s0.testBit j || decide (j ∈ l)))
  | [], s0, h, j => by
    by_cases hj : j < 64
    · simp [hj]
    · simp [hj, bits_above h (show 64 ≤ j by omega)]
  | a :: l, s0, h, j => by
    rw [List.map_cons, List.foldl_cons, fold_put l _ (put_lt _ _ _) j, put_testBit]
    by_cases hj : j < 64
    · by_cases ha : j = a
      · subst ha; simp [hj]
      · have : ¬ ((j : Int) = (a : Int)) := by omega
        simp [hj, ha, this]
    · simp [hj]
theorem fold_set (l : List Nat) {s : Nat} (hs : s < 18446744073709551616) (h : ∀ j, j < 64 → (j ∈ l ↔ s.testBit j = true)) : ((l.map fun i => ((i : Nat) : Int)).foldl (fun s i => put s i true) 0) = s := by
  apply Nat.eq_of_testBit_eq
  intro j
  rw [fold_put _ _ (by decide)]
  by_cases hj : j < 64
  · have e := h j hj
    cases hb : s.testBit j <;> simp [hj, e, hb]
  · simp [hj, bits_above hs (show 64 ≤ j by omega)]
theorem of_members {s : Nat} (hs : s < 18446744073709551616) : ((members s).map fun i => ((i : Nat) : Int)).foldl (fun s i => put s i true) 0 = s :=
  fold_set _ hs (fun j hj => by unfold members; simp [hj])
/-- Those that were met in so many steps. -/
def metL (L : List Nat) (f k : Nat) : List Nat := (List.range k).map fun j => L.getD ((f + j) % L.length) 0
def metN (L : List Nat) (f k : Nat) : Nat := ((metL L f k).map fun i => ((i : Nat) : Int)).foldl (fun s i => put s i true) 0
theorem metN_lt (L : List Nat) (f k : Nat) : metN L f k < 18446744073709551616 := by
  unfold metN
  rcases List.eq_nil_or_concat ((metL L f k).map fun i => ((i : Nat) : Int)) with h | ⟨l', i, h⟩
  · rw [h]; decide
  · rw [h, List.concat_eq_append, List.foldl_append]; exact put_lt _ _ _
theorem metN_step (L : List Nat) (f k : Nat) : metN L f (k + 1) = put (metN L f k) ((L.getD ((f + k) % L.length) 0 : Nat) : Int) true := by
  unfold metN metL
  rw [List.range_succ, List.map_append, List.map_append, List.foldl_append]; rfl
theorem metN_out {L : List Nat} (hs : L.Pairwise (· < ·)) {f k : Nat} (hf : f < L.length) (hk : k < L.length) : has (metN L f k) ((L.getD ((f + k) % L.length) 0 : Nat) : Int) = false := by
  have hm : (f + k) % L.length < L.length := Nat.mod_lt _ (by omega)
  have hn : L.getD ((f + k) % L.length) 0 ∉ metL L f k := by
    intro h
    unfold metL at h
    obtain ⟨j, hj, he⟩ := List.mem_map.1 h
    have hjk := List.mem_range.1 hj
    have hj2 : (f + j) % L.length < L.length := Nat.mod_lt _ (by omega)
    simp only [List.getD, hm, hj2, List.getElem?_eq_getElem, Option.getD_some] at he
    have := (sorted_inj hs hj2 hm).1 he
    rw [mod_add hf (by omega), mod_add hf (by omega)] at this
    split at this <;> split at this <;> omega
  unfold has metN
  rw [fold_put _ _ (by decide), Int.toNat_natCast, decide_eq_false hn]
  simp
theorem metN_all {s : Nat} (hs : s < 18446744073709551616) {f : Nat} (hf : f < (members s).length) : metN (members s) f (members s).length = s := by
  refine fold_set _ hs (fun j hj => ?_)
  have e : (j ∈ members s) ↔ s.testBit j = true := by unfold members; simp [hj]
  rw [← e]
  generalize members s = L at *
  unfold metL
  rw [List.mem_map]
  constructor
  · rintro ⟨k, _, rfl⟩
    have hm : (f + k) % L.length < L.length := Nat.mod_lt _ (by omega)
    simp [List.getD, hm]
  · intro h
    obtain ⟨q, hq, rfl⟩ := List.mem_iff_getElem.1 h
    by_cases hqf : f ≤ q
    · refine ⟨q - f, List.mem_range.2 (by omega), ?_⟩
      rw [show f + (q - f) = q by omega, Nat.mod_eq_of_lt hq]
      simp [List.getD, hq]
    · refine ⟨q + L.length - f, List.mem_range.2 (by omega), ?_⟩
      rw [show f + (q + L.length - f) = q + L.length by omega, Nat.add_mod_right, Nat.mod_eq_of_lt hq]
      simp [List.getD, hq]
theorem has_member {s : Nat} {j : Nat} (hj : j < (members s).length) : has s (((members s)[j] : Nat) : Int) = true := by
  have h := members_mem (List.getElem_mem hj)
  have h1 : ((((members s)[j] : Nat) : Int) < 64) := by omega
  unfold has
  simp [h.2, h1]
theorem getD_eq {L : List Nat} {j : Nat} (h : j < L.length) : L[j] = L.getD j 0 := by simp [List.getD, h]
end Bosun
namespace Go.Proofs.YtlbgabbgfgcppaaDoor
open Go.RowKit Bosun
set_option maxHeartbeats 4000000 in
theorem setsRound_walk (w : World) (hT : TabW w) (s : Nat) (hs : s < 18446744073709551616) (i : Int) (i0 : -9223372036854775808 ≤ i) (i1 : i ≤ 9223372036854775807) :
    Calls Tryd.prog 6 #[.int .u64 (s : Nat), .int .i64 i] w fun e w' => e = .returned (.bool true) ∧ Chg [] w w' := by
  have hwp : 0 < w.heap.size := World.block_lt_of_cell? w _ (hT 0 (by decide))
  have HN := Lib.hid (next_any s hs i i0 i1 w hT)
  have HM := Lib.hid (least_any s hs w hT)
  have HC := Lib.hid (fun w => count_any s hs w)
  have HK := Lib.hid (fun w1 (H : Chg [] w w1) => awake_any w1 (TabW.below hwp H.below hT))
  have HHS := Lib.hid (fun y w => has_any s hs y w)
  have HNX := Lib.hid (fun y (a : -9223372036854775808 ≤ y) (b : y ≤ 9223372036854775807) w1 (H : Chg [] w w1) => next_any s hs y a b w1 (TabW.below hwp H.below hT))
  have hle := members_le s
  have hz := members_nil_iff hs
  by_cases h0 : s = 0
  · subst h0
    have e1 : nextI 0 i = -1 := by rw [nextI_find, members_zero]; exact leastI_zero
    have e2 := leastI_zero
    rw [e1] at HN
    rw [e2] at HM
    have K := Lib.hid (HK.out w (Chg.refl _ _))
    clear e1 e2 hz hle HK HHS HNX HC
    go_enter Tryd.func6, Tryd.ntmps6
    go_wp2_with (first
      | (go_at_call 24; refine HN.out.mono ?_; rintro e w2 ⟨rfl, rfl⟩)
      | (go_at_call 22; refine HM.out.mono ?_; rintro e w2 ⟨rfl, rfl⟩)
      | (go_at_call 11; refine K.out.mono ?_; rintro e w3 ⟨rfl, H3⟩))
    go_ret
    exact ⟨rfl, H3⟩
  · have hp : 0 < (members s).length := List.length_pos_iff.2 (fun e => h0 (hz.1 e))
    have hs0 : ((s : Int) == 0) = false := beq_eq_false_iff_ne.2 (by omega)
    obtain ⟨f, hf, hfe⟩ := next_idx i hp
    rw [hfe, getD_eq hf] at HN
    have HSO := Lib.hid (members_sorted s)
    have HALL := Lib.hid (metN_all hs hf)
    have HCY := Lib.hid (fun j (hj : j < (members s).length) => show nextI s (((members s).getD j 0 : Nat) + 1) = (((members s).getD ((j + 1) % (members s).length) 0 : Nat) : Int) by rw [← getD_eq hj, ← getD_eq (Nat.mod_lt _ (by omega))]; exact next_cyc hj)
    have HHM := Lib.hid (fun j (hj : j < (members s).length) => show has s (((members s).getD j 0 : Nat) : Int) = true by rw [← getD_eq hj]; exact has_member hj)
    have H64 := Lib.hid (fun j (hj : j < (members s).length) => show (members s).getD j 0 < 64 by rw [← getD_eq hj]; exact (members_mem (List.getElem_mem hj)).1)
    obtain ⟨L, hL⟩ : ∃ L, L = members s := ⟨_, rfl⟩
    clear hz h0 hfe HM hT
    rw [← hL] at hp hle HC HSO hf HN HALL HCY HHM H64
    clear hL
    go_enter Tryd.func6, Tryd.ntmps6
    go_wp2_with (first
      | (go_at_call 24; refine HN.out.mono ?_; rintro e w2 ⟨rfl, rfl⟩)
      | (go_at_call 21; refine (HC.out _).mono ?_; rintro e w2 ⟨rfl, rfl⟩))
    go_loopw [6, 7, 8] (fun m a n wr => ∃ k : Nat, k ≤ L.length ∧ m = .int .u64 (metN L f k : Nat) ∧ a = .int .i64 ((L.getD ((f + k) % L.length) 0 : Nat) : Int) ∧ n = .int .i64 ((L.length - k : Nat) : Int) ∧ Chg [] w wr)
      (fun _ _ n _ => (intOf n).toNat)
    case atStart => exact ⟨0, by omega, rfl, by rw [Nat.add_zero, Nat.mod_eq_of_lt hf]; simp [List.getD, hf], rfl, Chg.refl _ _⟩
    case round =>
      obtain ⟨k, hk, rfl, rfl, rfl, H⟩ := hrel
      by_cases hkL : k < L.length
      · have hq : (f + k) % L.length < L.length := Nat.mod_lt _ (by omega)
        have hq1 : (f + k + 1) % L.length < L.length := Nat.mod_lt _ (by omega)
        have y1 := HHM.out _ hq
        have y2 := metN_out HSO.out hf hkL
        have y3 := HCY.out _ hq
        have y4 := metN_step L f k
        have y5 := H64.out _ hq
        have hml := metN_lt L f k
        have e : ((f + k) % L.length + 1) % L.length = (f + (k + 1)) % L.length := by rw [← Nat.add_assoc, Nat.mod_add_mod]
        rw [e] at y3
        obtain ⟨y, hy⟩ : ∃ y, y = L.getD ((f + k) % L.length) 0 := ⟨_, rfl⟩
        rw [← hy] at y1 y2 y3 y4 y5 ⊢
        obtain ⟨z, hz⟩ : ∃ z, z = L.getD ((f + (k + 1)) % L.length) 0 := ⟨_, rfl⟩
        rw [← hz] at y3
        obtain ⟨mm, hmm⟩ : ∃ mm, mm = metN L f k := ⟨_, rfl⟩
        rw [← hmm] at y2 y4 hml ⊢
        have P := Lib.hid (fun w => put_any mm hml (y : Nat) true w)
        rw [← y4] at P
        have A1 := Lib.hid (fun w => HHS.out (y : Nat) w)
        rw [y1] at A1
        have A2 := Lib.hid (fun w => has_any mm hml (y : Nat) w)
        rw [y2] at A2
        have NX := Lib.hid (fun w1 (H1 : Chg [] w w1) => HNX.out ((y : Nat) + 1) (by omega) (by omega) w1 H1)
        rw [y3] at NX
        have HZ := Lib.hid hz
        obtain ⟨d, hd⟩ : ∃ d, L.length - k = d + 1 := ⟨L.length - k - 1, by omega⟩
        have HD := Lib.hid hd
        have hd' : L.length - (k + 1) = d := by omega
        have hdb : d ≤ 64 := by omega
        have HDD := Lib.hid hd'
        rw [hd]
        obtain ⟨m2, hm2⟩ : ∃ m2, m2 = metN L f (k + 1) := ⟨_, rfl⟩
        rw [← hm2] at P
        have HM2 := Lib.hid hm2
        clear hm2 hd hd' hz hy hmm y1 y2 y3 y4 e hq hq1
        go_wp2_with (first
          | (go_at_call 17; refine (A1.out _).mono ?_; clear A1; rintro e w4 ⟨rfl, H4⟩)
          | (go_at_call 17; refine (A2.out _).mono ?_; clear A2; rintro e w5 ⟨rfl, H5⟩)
          | (go_at_call 19; refine (P.out _).mono ?_; rintro e w6 ⟨rfl, H6⟩; have N6 := Lib.hid (NX.out w6 (((H.trans H4).trans H5).trans H6)))
          | (go_at_call 24; refine N6.out.mono ?_; rintro e w7 ⟨rfl, rfl⟩))
        go_roundw
        case rel => exact ⟨k + 1, by omega, by rw [HM2.out], by rw [HZ.out], by rw [HDD.out], ((H.trans H4).trans H5).trans H6⟩
        case measure => simp [intOf]
      · obtain rfl : k = L.length := by omega
        have e1 : L.getD ((f + L.length) % L.length) 0 = L.getD f 0 := by rw [Nat.add_mod_right, Nat.mod_eq_of_lt hf]
        rw [e1, HALL.out, Nat.sub_self]
        have K := Lib.hid (HK.out wr H)
        clear e1
        go_wp2_with (go_at_call 11; refine K.out.mono ?_; rintro e w3 ⟨rfl, H3⟩)
        go_ret
        exact ⟨rfl, H.trans H3⟩
end Go.Proofs.YtlbgabbgfgcppaaDoor
