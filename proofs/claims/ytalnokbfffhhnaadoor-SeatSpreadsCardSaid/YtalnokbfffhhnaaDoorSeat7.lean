/- seat: the reference's Idlest. -/
import Derived.Test.YtalnokbfffhhnaaDoorSeat6
namespace Bosun
open Go
/-- The reference's choice: of the list's head and the rest. -/
def ridl (l : List Int) (L : List Nat) : Int :=
  match L with
  | [] => -1
  | a :: L' => ((L'.foldl (fun b c => if loadI l c < loadI l b then c else b) a : Nat) : Int)
def ridlTo (l : List Int) (L : List Nat) (k : Nat) : Nat := ((L.drop 1).take k).foldl (fun b c => if loadI l c < loadI l b then c else b) (L.getD 0 0)
theorem ridlTo_step (l : List Int) (L : List Nat) (k : Nat) (hk : k + 1 < L.length) :
    ridlTo l L (k + 1) = if loadI l L[k + 1] < loadI l (ridlTo l L k) then L[k + 1] else ridlTo l L k := by
  unfold ridlTo
  have e : (L.drop 1).take (k + 1) = (L.drop 1).take k ++ [L[k + 1]] := by
    rw [List.take_succ_eq_append_getElem (by rw [List.length_drop]; omega)]
    simp [Nat.add_comm]
  rw [e, List.foldl_append]; rfl
theorem ridlTo_end (l : List Int) (L : List Nat) (k : Nat) (h : 0 < L.length) (hk : k + 1 = L.length) : ((ridlTo l L k : Nat) : Int) = ridl l L := by
  cases L with
  | nil => simp at h
  | cons a L' =>
    have : k = L'.length := by simpa using hk
    unfold ridlTo ridl; subst this; simp
theorem idl_fold (l : List Int) : ∀ (L' : List Nat) (a : Nat), L'.foldl (idlF l) ((a : Nat) : Int) = ((L'.foldl (fun b c => if loadI l c < loadI l b then c else b) a : Nat) : Int)
  | [], _ => rfl
  | c :: L', a => by
    rw [List.foldl_cons, List.foldl_cons]
    have e : idlF l ((a : Nat) : Int) c = (((if loadI l c < loadI l a then c else a) : Nat) : Int) := by
      unfold idlF
      have : ¬ ((a : Int) = -1) := by omega
      simp only [this, false_or, Int.toNat_natCast]
      split <;> rfl
    rw [e]; exact idl_fold l L' _
theorem idl_is (l : List Int) (L : List Nat) : idl l L = ridl l L := by
  unfold idl ridl
  cases L with
  | nil => rfl
  | cons a L' =>
    rw [List.foldl_cons]
    have e : idlF l (-1) a = ((a : Nat) : Int) := by unfold idlF; simp
    rw [e]; exact idl_fold l L' a
end Bosun
namespace Go.Proofs.YtalnokbfffhhnaaDoor
open Go.RowKit Bosun
set_option maxHeartbeats 1000000 in
theorem ridlest_any (m : Nat) (hm : m < 18446744073709551616) (n : Int) (l : List Int) (v : Value) (w : World) (hv : Reads w v (ints l)) :
    Calls Tryd.prog 13 #[.int .u64 (m : Nat), .int .i64 n, v] w fun e w' => e = .returned (.int .i64 (ridl l (lst m n))) ∧ Chg [] w w' := by
  have HA := Lib.hid (rlist_any' m hm n)
  have hle := lst_le m n
  obtain ⟨L, hL⟩ : ∃ L, L = lst m n := ⟨_, rfl⟩
  rw [← hL] at HA hle ⊢
  clear hL
  by_cases hz : L.length = 0
  · have hL0 : L = [] := List.length_eq_zero_iff.1 hz
    subst hL0
    have hq : ridl l [] = -1 := rfl
    rw [hq]
    have HB := Lib.hid (fun w => (HA.out w))
    clear HA hz hq hle
    go_enter Tryd.func13, Tryd.ntmps13
    go_wp2_with (go_at_call 11; refine (HB.out _).mono ?_; rintro e w1 ⟨ao, cp, rfl, hr, H1⟩)
    go_ret
    exact ⟨rfl, H1⟩
  · have hpos : 0 < L.length := by omega
    have HT := Lib.hid (fun k => ridlTo_step l L k)
    have HN := Lib.hid (fun k => ridlTo_end l L k hpos)
    obtain ⟨q, hq⟩ : ∃ q, q = ridl l L := ⟨_, rfl⟩
    rw [← hq] at HN ⊢
    have hz' : ((L.length : Int) == 0) = false := beq_eq_false_iff_ne.2 (by omega)
    have b1 : (0 : Int) < (L.length : Int) := by omega
    clear hq hz
    have HV := Lib.hid hv
    go_enter Tryd.func13, Tryd.ntmps13
    go_wp2_with (go_at_call 11; refine (HA.out _).mono ?_; rintro e w1 ⟨ao, cp, rfl, hr, H1⟩; obtain ⟨g, off, rfl, hc0⟩ := reads_cell hr hpos; rw [Nat.add_zero] at hc0)
    have HR := Lib.hid hr
    have HL := Lib.hid (fun c => rload_any l v c w1 (HV.out.keep H1))
    have HT0 := Lib.hid (show ridlTo l L 0 = L[0] by unfold ridlTo; simp [List.getD, hpos])
    clear hr
    go_loopw [8, 9] (fun b i wr => ∃ k : Nat, k + 1 ≤ L.length ∧ i = .int .i64 ((k : Nat) + 1) ∧ b = .int .i64 ((ridlTo l L k : Nat) : Int) ∧ w1 = wr)
      (fun _ i _ => 65 - (intOf i).toNat)
    case atStart => exact ⟨0, by omega, rfl, by rw [HT0.out], rfl⟩
    case round =>
      obtain ⟨k, hk, rfl, rfl, rfl⟩ := hrel
      obtain ⟨b, hb⟩ : ∃ b, b = ridlTo l L k := ⟨_, rfl⟩
      rw [← hb]
      by_cases hkL : k + 1 < L.length
      · have hS := HT.out k hkL
        obtain ⟨g', off', e', hc⟩ := reads_cell HR.out hkL
        cases e'
        obtain ⟨y, hy⟩ : ∃ y, y = L[k + 1] := ⟨_, rfl⟩
        rw [← hb, ← hy] at hS
        rw [← hy] at hc
        have HST := Lib.hid hS
        clear hy hS hb hc0
        have b2 : ((k : Int) + 1) < (L.length : Int) := by omega
        have b3 : ((k : Int) + 1).toNat = k + 1 := by omega
        by_cases hlt : loadI l y < loadI l b
        · go_wp2_with (go_at_call 26; refine (HL.out _).mono ?_; rintro e w4 ⟨rfl, rfl⟩)
          go_roundw
          case rel => exact ⟨k + 1, by omega, by go_num, by rw [HST.out, if_pos hlt], by trivial⟩
          case measure => simp [intOf] <;> omega
        · go_wp2_with (go_at_call 26; refine (HL.out _).mono ?_; rintro e w4 ⟨rfl, rfl⟩)
          go_roundw
          case rel => exact ⟨k + 1, by omega, by go_num, by rw [HST.out, if_neg (Int.not_lt.2 hlt)], by trivial⟩
          case measure => simp [intOf] <;> omega
      · have hE := Lib.hid (HN.out k (by omega))
        rw [← hb] at hE
        have b2 : ((L.length : Nat) : Int) ≤ (k : Int) + 1 := by omega
        clear hb
        go_wp2_with fail
        go_ret
        exact ⟨by rw [← hE.out]; rfl, H1⟩
end Go.Proofs.YtalnokbfffhhnaaDoor
