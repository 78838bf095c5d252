/- seat: the plain law and the walk of SeatIdlest. -/
import Derived.Test.YtalnokbfffhhnaaDoorSeatT
import Derived.Deep.DeepCutAuto
namespace Bosun
open Go
theorem least_fold (l : List Int) : ∀ (L' : List Nat) (a : Nat), L'.foldl (fun b c => if loadI l c < loadI l b then c else b) a ∈ a :: L' ∧ ∀ y ∈ a :: L', loadI l (L'.foldl (fun b c => if loadI l c < loadI l b then c else b) a) ≤ loadI l y
  | [], a => ⟨List.mem_cons_self .., fun y hy => by simp at hy; subst hy; exact Int.le_refl _⟩
  | c :: L', a => by
    obtain ⟨h1, h2⟩ := least_fold l L' (if loadI l c < loadI l a then c else a)
    rw [List.foldl_cons]
    generalize L'.foldl (fun b c => if loadI l c < loadI l b then c else b) (if loadI l c < loadI l a then c else a) = r at *
    have h3 := h2 _ (List.mem_cons_self ..)
    constructor
    · rcases List.mem_cons.1 h1 with h | h
      · split at h
        · simp [h]
        · simp [h]
      · simp [h]
    · intro y hy
      simp only [List.mem_cons] at hy
      rcases hy with rfl | rfl | hy
      · split at h3 <;> omega
      · split at h3 <;> omega
      · exact h2 y (List.mem_cons_of_mem _ hy)
theorem ridl_least (l : List Int) (L : List Nat) (h : 0 < L.length) : ∃ t : Nat, ridl l L = (t : Int) ∧ ∀ y ∈ L, loadI l t ≤ loadI l y := by
  cases L with
  | nil => simp at h
  | cons a L' => exact ⟨_, rfl, (least_fold l L' a).2⟩
theorem reads_take {w : World} {ao : Option Addr} {len cp : Nat} {l : List Int} (h : Reads w (.slice ao len cp) (ints l)) (k : Nat) (hk : k ≤ l.length) : Reads w (.slice ao (l.take k).length cp) (ints (l.take k)) := by
  obtain ⟨ao', cp', e, hm, hc⟩ := h
  cases e
  rw [ints_len] at hm
  refine ⟨ao, cp, by rw [ints_len], by rw [ints_len, List.length_take]; omega, fun j x hx => hc j x ?_⟩
  unfold ints at hx ⊢
  rw [List.map_take, List.getElem?_take] at hx
  split at hx
  · exact hx
  · cases hx
theorem reads_int {w : World} {ao : Option Addr} {len cp : Nat} {l : List Int} (h : Reads w (.slice ao len cp) (ints l)) {j : Nat} (hj : j < l.length) :
    ∃ g off, ao = some ⟨g, off, none⟩ ∧ w.cell? ⟨g, off + j, none⟩ = some (.int .i64 l[j]) := by
  obtain ⟨ao', cp', e, _, hc⟩ := h
  cases e
  exact hc j _ (ints_get l hj)
theorem loadI_in {l : List Int} {j : Nat} (hj : j < l.length) : loadI l j = l[j] := by unfold loadI; simp [List.getD, hj]
end Bosun
namespace Go.Proofs.YtalnokbfffhhnaaDoor
open Go.RowKit Bosun
set_option maxHeartbeats 4000000 in
theorem seatIdlest_walk (w : World) (hT : TabW w) (m : Nat) (hm : m < 18446744073709551616) (n : Int) (h0 : -9223372036854775808 ≤ n) (h1 : n ≤ 9223372036854775807) (ao : Option Addr) (len cp : Nat) (hcp : len ≤ cp) (l : List Int) (hv : Reads w (.slice ao len cp) (ints l)) :
    Calls Tryd.prog 4 #[.int .u64 (m : Nat), .int .i64 n, .slice ao len cp] w fun e w' => e = .returned (.bool true) ∧ Chg [] w w' := by
  have hwp : 0 < w.heap.size := World.block_lt_of_cell? w _ (hT 0 (by decide))
  obtain rfl : len = l.length := by
    obtain ⟨_, _, e, _, _⟩ := hv
    cases e; rw [ints_len]
  have hlm : l.length ≤ 9223372036854775807 := by
    obtain ⟨_, _, e, h, _⟩ := hv
    rw [ints_len] at h; exact h
  have HTW := Lib.hid hT
  have HV := Lib.hid hv
  clear hT hv
  go_enter Tryd.func4, Tryd.ntmps4
  go_upto_if 12 with (fail)
  go_cut [2] (fun s wx => ∃ (M : List Int) (cp : Nat), s = .slice ao M.length cp ∧ Hid (Reads w (.slice ao M.length cp) (ints M)) ∧ w = wx)
  case first =>
    by_cases h : 70 < l.length
    · obtain ⟨g, off, rfl, _⟩ := reads_int HV.out (show 0 < l.length by omega)
      have h' : (70 : Int) < (l.length : Int) := by omega
      have HK := Lib.hid (show (l.take 70).length = 70 by rw [List.length_take]; omega)
      have HR := Lib.hid (reads_take HV.out 70 (by omega))
      have hcp' : 70 ≤ cp := by omega
      go_wp2_with fail
      go_meet
      exact ⟨l.take 70, cp, by rw [HK.out], HR, rfl⟩
    · have h' : (l.length : Int) ≤ 70 := by omega
      go_wp2_with fail
      go_meet
      exact ⟨l, cp, rfl, HV, rfl⟩
  case rest =>
  obtain ⟨M, cp, rfl, HR, hwx⟩ := hcut
  subst hwx
  clear HV hcp hlm
  have hML : M.length ≤ 9223372036854775807 := by
    obtain ⟨_, _, e, h, _⟩ := HR.out
    rw [ints_len] at h; exact h
  have A1 := idlest_any m hm n h0 h1 M _ w HR.out HTW.out
  rw [show members (m &&& allBelow n) = lst m n from rfl, idl_is] at A1
  have HA := Lib.hid A1
  have HB := Lib.hid (fun w1 (H : Chg [] w w1) => ridlest_any m hm n M _ w1 (HR.out.keep H))
  have HW := Lib.hid (fun w1 (H : Chg [] w w1) => awake_any w1 (TabW.below hwp H.below HTW.out))
  have HL := Lib.hid (fun w => rlist_any' m hm n w)
  have F2 := ridl_least M (lst m n)
  have F3 : (lst m n).length = 0 → ridl M (lst m n) = -1 := fun h => by rw [List.length_eq_zero_iff.1 h]; rfl
  have hle := lst_le m n
  obtain ⟨L, hL⟩ : ∃ L, L = lst m n := ⟨_, rfl⟩
  rw [← hL] at HA HB HL F2 F3 hle
  obtain ⟨q, hq⟩ : ∃ q, q = ridl M L := ⟨_, rfl⟩
  rw [← hq] at HA HB F2 F3
  clear hL hq A1 HTW
  by_cases hz : L.length = 0
  · have hqc := F3 hz
    subst hqc
    clear F2 F3
    go_wp2_with (first
      | (go_at_call 12; refine HA.out.mono ?_; rintro e w1 ⟨rfl, H1⟩; have B1 := Lib.hid (HB.out w1 H1))
      | (go_at_call 13; refine B1.out.mono ?_; rintro e w2 ⟨rfl, H2⟩; have W2 := Lib.hid (HW.out w2 (H1.trans H2)))
      | (go_at_call 9; refine W2.out.mono ?_; rintro e w3 ⟨rfl, H3⟩)
      | (go_at_call 11; refine (HL.out _).mono ?_; rintro e w4 ⟨ao4, cp4, rfl, _, H4⟩))
    go_loopw [9] (fun i wr => i = .int .i64 0 ∧ w4 = wr) (fun i _ => 0)
    case atStart => exact ⟨rfl, rfl⟩
    case round =>
      obtain ⟨rfl, rfl⟩ := hrel
      go_wp2_with fail
      go_ret
      exact ⟨rfl, ((H1.trans H2).trans H3).trans H4⟩
  · obtain ⟨t, hqt, ht⟩ := F2 (by omega)
    subst hqt
    have HLE := Lib.hid ht
    have z1 : ((L.length : Int) == 0) = false := beq_eq_false_iff_ne.2 (by omega)
    have z2 : (((t : Nat) : Int) == -1) = false := beq_eq_false_iff_ne.2 (by omega)
    clear ht F3
    go_wp2_with (first
      | (go_at_call 12; refine HA.out.mono ?_; rintro e w1 ⟨rfl, H1⟩; have B1 := Lib.hid (HB.out w1 H1))
      | (go_at_call 13; refine B1.out.mono ?_; rintro e w2 ⟨rfl, H2⟩; have W2 := Lib.hid (HW.out w2 (H1.trans H2)))
      | (go_at_call 9; refine W2.out.mono ?_; rintro e w3 ⟨rfl, H3⟩)
      | (go_at_call 11; refine (HL.out _).mono ?_; rintro e w4 ⟨ao4, cp4, rfl, hr4, H4⟩))
    have HALL := Lib.hid (((H1.trans H2).trans H3).trans H4)
    have HRL := Lib.hid hr4
    have HRM := Lib.hid (HR.out.keep HALL.out)
    clear HR hr4 HA HB HW HL B1 W2 H1 H2 H3 H4
    go_loopw [9] (fun i wr => ∃ k : Nat, k ≤ L.length ∧ i = .int .i64 k ∧ Chg [] w4 wr) (fun i _ => 64 - (intOf i).toNat)
    case atStart => exact ⟨0, by omega, rfl, Chg.refl _ _⟩
    case round =>
      obtain ⟨k, hk, rfl, H⟩ := hrel
      by_cases hkL : k < L.length
      · obtain ⟨g, off, rfl, hc⟩ := reads_cell (HRL.out.keep H) hkL
        obtain ⟨y, hy⟩ : ∃ y, y = L[k] := ⟨_, rfl⟩
        have hly := HLE.out y (by rw [hy]; exact List.getElem_mem hkL)
        rw [← hy] at hc
        clear hy
        have b1 : (k : Int) < (L.length : Int) := by omega
        by_cases hyM : y < M.length
        · by_cases htM : t < M.length
          · rw [loadI_in hyM, loadI_in htM] at hly
            obtain ⟨g2, off2, rfl, hcy⟩ := reads_int (HRM.out.keep H) hyM
            obtain ⟨g3, off3, e3, hct⟩ := reads_int (HRM.out.keep H) htM
            cases e3
            obtain ⟨a, ha⟩ : ∃ a, a = M[y] := ⟨_, rfl⟩
            obtain ⟨b, hb⟩ : ∃ b, b = M[t] := ⟨_, rfl⟩
            rw [← ha, ← hb] at hly
            rw [← ha] at hcy
            rw [← hb] at hct
            clear ha hb
            have c1 : (y : Int) < (M.length : Int) := by omega
            have c2 : (t : Int) < (M.length : Int) := by omega
            have d3 : decide (a < b) = false := decide_eq_false (by omega)
            go_wp2_with fail
            go_quiet (fail)
            go_wp2_with fail
            go_roundw
            case rel => exact ⟨k + 1, by omega, by go_num, H.drewN _⟩
            case measure => simp [intOf] <;> omega
          · have c1 : (y : Int) < (M.length : Int) := by omega
            have d2 : decide ((t : Int) < (M.length : Int)) = false := decide_eq_false (by omega)
            clear hly
            go_wp2_with fail
            go_quiet (fail)
            go_wp2_with fail
            go_roundw
            case rel => exact ⟨k + 1, by omega, by go_num, H.drewN _⟩
            case measure => simp [intOf] <;> omega
        · have d1 : decide ((y : Int) < (M.length : Int)) = false := decide_eq_false (by omega)
          clear hly
          go_wp2_with fail
          go_quiet (fail)
          go_wp2_with fail
          go_roundw
          case rel => exact ⟨k + 1, by omega, by go_num, H.drewN _⟩
          case measure => simp [intOf] <;> omega
      · obtain rfl : k = L.length := by omega
        go_wp2_with fail
        go_ret
        exact ⟨rfl, HALL.out.trans H⟩
end Go.Proofs.YtalnokbfffhhnaaDoor
