/- sets: Of, With, Without; the reference's Least, Next, digits, Text. -/
import Derived.Test.YtlbgabbgfgcppaaDoorTxt
import Derived.Deep.QuietTactic
import Derived.BigQuiet
namespace Bosun
open Go
theorem bitN_testBit (i : Int) (j : Nat) : (bitN i).testBit j = (decide (j < 64) && decide ((j : Int) = i)) := by
  unfold bitN
  by_cases h : 0 ≤ i ∧ i < 64
  · rw [if_pos h, Nat.testBit_two_pow]
    by_cases e : (j : Int) = i
    · simp [e]; omega
    · have : ¬ i.toNat = j := by omega
      simp [e, this]
  · rw [if_neg h, Nat.zero_testBit]
    symm
    simp; omega
theorem or_bit {s : Nat} (hs : s < 18446744073709551616) (i : Int) : s ||| bitN i = put s i true := by
  apply Nat.eq_of_testBit_eq
  intro j
  rw [Nat.testBit_or, bitN_testBit, put_testBit]
  by_cases hj : j < 64
  · by_cases e : (j : Int) = i <;> simp [hj, e]
  · simp [hj, bits_above hs (show 64 ≤ j by omega)]
theorem andNot_bit {s : Nat} (hs : s < 18446744073709551616) (i : Int) : s &&& (18446744073709551615 - bitN i) = put s i false := by
  have hb : bitN i < 2 ^ 64 := by simpa using bitN_lt i
  apply Nat.eq_of_testBit_eq
  intro j
  rw [Nat.testBit_and, show 18446744073709551615 - bitN i = 2 ^ 64 - (bitN i + 1) from by omega, Nat.testBit_two_pow_sub_succ hb, bitN_testBit, put_testBit]
  by_cases hj : j < 64
  · by_cases e : (j : Int) = i <;> simp [hj, e]
  · simp [hj]
theorem members_fold_lt (l : List Int) : l.foldl (fun s i => put s i true) 0 < 18446744073709551616 := by
  rcases List.eq_nil_or_concat l with h | ⟨l', i, h⟩
  · rw [h]; decide
  · rw [h, List.concat_eq_append, List.foldl_append]; exact put_lt _ _ _
end Bosun
namespace Go.Proofs.YtlbgabbgfgcppaaDoor
open Go.RowKit Bosun
theorem with_any (s : Nat) (hs : s < 18446744073709551616) (i : Int) (h0 : -9223372036854775808 ≤ i) (h1 : i ≤ 9223372036854775807) (w : World) :
    Calls Tryd.prog 18 #[.int .u64 (s : Nat), .int .i64 i] w fun e w' => e = .returned (.int .u64 (put s i true : Nat)) ∧ w = w' := by
  have HB := Lib.hid (fun w => bit_any i h0 h1 w)
  have hl := bitN_lt i
  rw [← or_bit hs i]
  obtain ⟨z, hz⟩ : ∃ z, z = bitN i := ⟨_, rfl⟩
  rw [← hz] at HB hl ⊢
  have r1 : bits .or .u64 (s : Int) (z : Int) = ((s ||| z : Nat) : Int) := bits_or_u64_nat _ _ hs hl
  obtain ⟨y, hy⟩ : ∃ y, y = s ||| z := ⟨_, rfl⟩
  rw [← hy] at r1 ⊢
  clear hz hy
  go_enter Tryd.func18, Tryd.ntmps18
  go_wp2_with (go_at_call 30; refine (HB.out _).mono ?_; rintro e w2 ⟨rfl, rfl⟩)
  go_ret
  exact ⟨rfl, rfl⟩
theorem without_any (s : Nat) (hs : s < 18446744073709551616) (i : Int) (h0 : -9223372036854775808 ≤ i) (h1 : i ≤ 9223372036854775807) (w : World) :
    Calls Tryd.prog 20 #[.int .u64 (s : Nat), .int .i64 i] w fun e w' => e = .returned (.int .u64 (put s i false : Nat)) ∧ w = w' := by
  have HB := Lib.hid (fun w => bit_any i h0 h1 w)
  have hl := bitN_lt i
  have hp := andNot_bit hs i
  obtain ⟨y, hy⟩ : ∃ y, y = put s i false := ⟨_, rfl⟩
  rw [← hy] at hp ⊢
  obtain ⟨z, hz⟩ : ∃ z, z = bitN i := ⟨_, rfl⟩
  rw [← hz] at HB hl hp
  have r1 : bits .andNot .u64 (s : Int) (z : Int) = (y : Nat) := by rw [u64_andNot_nat _ _ hs hl, hp]
  clear hz hy hp
  go_enter Tryd.func20, Tryd.ntmps20
  go_wp2_with (go_at_call 30; refine (HB.out _).mono ?_; rintro e w2 ⟨rfl, rfl⟩)
  go_ret
  exact ⟨rfl, rfl⟩
set_option maxHeartbeats 400000 in
theorem sof_any (v : Value) (l : List Int) (hl : ∀ i ∈ l, -9223372036854775808 ≤ i ∧ i ≤ 9223372036854775807) (w : World) (hr : Reads w v (ints l)) :
    Calls Tryd.prog 10 #[v] w fun e w' => e = .returned (.int .u64 (l.foldl (fun s i => put s i true) 0 : Nat)) ∧ w = w' := by
  obtain ⟨ao, cap, rfl, hm, hc⟩ := hr
  rw [ints_len] at hm ⊢
  unfold maxLen at hm
  have HC := Lib.hid hc
  clear hc
  go_enter Tryd.func10, Tryd.ntmps10
  go_wp2
  go_loopw [3, 8] (fun x i wr => ∃ k : Nat, k ≤ l.length ∧ i = .int .i64 k ∧ x = .int .u64 ((l.take k).foldl (fun s i => put s i true) 0 : Nat) ∧ w = wr)
    (fun _ i _ => l.length - (intOf i).toNat)
  case atStart => exact ⟨0, by omega, rfl, rfl, rfl⟩
  case round =>
    obtain ⟨k, hk, rfl, rfl, rfl⟩ := hrel
    have hylt := members_fold_lt (l.take k)
    obtain ⟨y, hy⟩ : ∃ y, y = (l.take k).foldl (fun s i => put s i true) 0 := ⟨_, rfl⟩
    rw [← hy] at hylt ⊢
    have HY := Lib.hid hy
    clear hy
    by_cases hkl : k < l.length
    · obtain ⟨g, off, rfl, hcell⟩ := HC.out k _ (ints_get l hkl)
      have hb := hl _ (List.getElem_mem hkl)
      obtain ⟨x, hx⟩ : ∃ x, x = l[k] := ⟨_, rfl⟩
      rw [← hx] at hcell hb
      have HX := Lib.hid hx
      have HB := Lib.hid (fun w => bit_any x hb.1 hb.2 w)
      have hzl := bitN_lt x
      have hor := or_bit hylt x
      obtain ⟨z, hz⟩ : ∃ z, z = bitN x := ⟨_, rfl⟩
      rw [← hz] at HB hzl hor
      have r1 : bits .or .u64 (y : Int) (z : Int) = ((put y x true : Nat) : Int) := by rw [bits_or_u64_nat _ _ hylt hzl, hor]
      obtain ⟨q, hq⟩ : ∃ q, q = put y x true := ⟨_, rfl⟩
      rw [← hq] at r1
      have HQ := Lib.hid hq
      clear hx hz hor hq
      go_wp2_with (go_at_call 30; refine (HB.out _).mono ?_; rintro e w1 ⟨rfl, rfl⟩)
      go_roundw
      case rel => exact ⟨k + 1, by omega, by go_num, by rw [List.take_succ_eq_append_getElem hkl, List.foldl_append, ← HY.out, HQ.out, HX.out]; rfl, by trivial⟩
      case measure => simp [intOf] <;> omega
    · obtain rfl : k = l.length := by omega
      go_wp2
      go_ret
      exact ⟨ret_int (by rw [HY.out, List.take_length]), rfl⟩
theorem list_any' (s : Nat) (hs : s < 18446744073709551616) (w : World) :
    Calls Tryd.prog 8 #[.int .u64 (s : Nat)] w fun e w' => ∃ ao cp, e = .returned (.slice ao (members s).length cp) ∧ Reads w' (.slice ao (members s).length cp) (nats (members s)) ∧ Chg [] w w' := by
  refine (list_any s hs w).mono ?_
  rintro e w' ⟨v, rfl, ho, H⟩
  have hr := ho.reads
  obtain ⟨ao, cp, rfl, _, _⟩ := id hr
  rw [nats_len] at hr ⊢
  exact ⟨ao, cp, rfl, hr, H⟩
theorem reads_cell {w : World} {ao : Option Addr} {k cp : Nat} {L : List Nat} (h : Reads w (.slice ao k cp) (nats L)) {j : Nat} (hj : j < L.length) :
    ∃ g off, ao = some ⟨g, off, none⟩ ∧ w.cell? ⟨g, off + j, none⟩ = some (.int .i64 ((L[j] : Nat) : Int)) := by
  obtain ⟨ao', cp', e, _, hc⟩ := h
  cases e
  exact hc j _ (nats_get L hj)
theorem rleast_any (s : Nat) (hs : s < 18446744073709551616) (w : World) :
    Calls Tryd.prog 23 #[.int .u64 (s : Nat)] w fun e w' => e = .returned (.int .i64 (leastI s)) ∧ Chg [] w w' := by
  have HA := Lib.hid (list_any' s hs w)
  have hle := members_le s
  cases hm : members s with
  | nil =>
    have e : leastI s = -1 := by unfold leastI; rw [hm]
    rw [hm] at HA
    rw [e]
    clear hm e hle
    go_enter Tryd.func23, Tryd.ntmps23
    go_wp2_with (go_at_call 8; refine HA.out.mono ?_; rintro e w1 ⟨ao, cp, rfl, hr, H1⟩)
    go_ret
    exact ⟨rfl, H1⟩
  | cons a t =>
    have e : leastI s = ((a : Nat) : Int) := by unfold leastI; rw [hm]
    rw [hm] at HA hle
    rw [e]
    have hl : (a :: t).length = t.length + 1 := rfl
    obtain ⟨k, hk⟩ : ∃ k, k = (a :: t).length := ⟨_, rfl⟩
    rw [← hk] at HA hle
    have hz : ((k : Int) == 0) = false := beq_eq_false_iff_ne.2 (by omega)
    have hk0 : (0 : Int) < (k : Int) := by omega
    clear hm e hl
    go_enter Tryd.func23, Tryd.ntmps23
    go_wp2_with (go_at_call 8; refine HA.out.mono ?_; rintro e w1 ⟨ao, cp, rfl, hr, H1⟩; obtain ⟨g, off, rfl, hc⟩ := reads_cell hr (show 0 < (a :: t).length by simp); rw [Nat.add_zero, List.getElem_cons_zero] at hc)
    go_ret
    exact ⟨rfl, H1⟩
theorem digits_any (i : Nat) (hi : i < 64) (w : World) :
    Calls Tryd.prog 39 #[.int .i64 (i : Nat)] w fun e w' => e = .returned (.string ⟨(digB i).toArray⟩) ∧ Chg [] w w' := by
  have hs : Hid (∀ n : Nat, n < 10 → ((⟨#[48, 49, 50, 51, 52, 53, 54, 55, 56, 57]⟩ : ByteArray).extract n (n + 1)) = ⟨#[UInt8.ofNat (48 + n)]⟩) := Lib.hid (fun n hn => by
    have : ∀ n < 10, ((⟨#[48, 49, 50, 51, 52, 53, 54, 55, 56, 57]⟩ : ByteArray).extract n (n + 1)) = ⟨#[UInt8.ofNat (48 + n)]⟩ := by decide +kernel
    exact this n hn)
  by_cases h : i < 10
  · have e : digB i = [UInt8.ofNat (48 + i)] := by unfold digB; rw [if_pos h]
    rw [e]
    have h' : (i : Int) < 10 := by omega
    clear e hi
    go_enter Tryd.func39, Tryd.ntmps39
    go_wp2_with fail
    go_ret
    exact ⟨by rw [hs.out i h]; rfl, Chg.refl _ _⟩
  · have e : digB i = [UInt8.ofNat (48 + i / 10), UInt8.ofNat (48 + i % 10)] := by unfold digB; rw [if_neg h]
    rw [e]
    have h' : (10 : Int) ≤ (i : Int) := by omega
    obtain ⟨q, hq⟩ : ∃ q, q = i / 10 := ⟨_, rfl⟩
    obtain ⟨r, hr⟩ : ∃ r, r = i % 10 := ⟨_, rfl⟩
    have hq1 : q < 10 := by omega
    have hr1 : r < 10 := by omega
    have hqi : (i : Int) / 10 = (q : Int) := by omega
    have hri : (i : Int) % 10 = (r : Int) := by omega
    rw [← hq, ← hr]
    have s1 := hs.out q hq1
    have s2 := hs.out r hr1
    obtain ⟨x, hx⟩ : ∃ x, x = UInt8.ofNat (48 + q) := ⟨_, rfl⟩
    obtain ⟨y, hy⟩ : ∃ y, y = UInt8.ofNat (48 + r) := ⟨_, rfl⟩
    rw [← hx] at s1 ⊢
    rw [← hy] at s2 ⊢
    clear e hq hr hx hy hs
    go_enter Tryd.func39, Tryd.ntmps39
    go_wp2_with fail
    go_quiet (fail)
    go_wp2_with fail
    go_ret
    exact ⟨rfl, (Chg.refl _ _).drewN _⟩
theorem str_append (a b : List UInt8) : (⟨a.toArray⟩ : ByteArray) ++ (⟨b.toArray⟩ : ByteArray) = ⟨(a ++ b).toArray⟩ := by
  apply ByteArray.ext
  rw [ByteArray.data_append]; simp
set_option maxHeartbeats 1000000 in
theorem rtext_any (s : Nat) (hs : s < 18446744073709551616) (w : World) :
    Calls Tryd.prog 27 #[.int .u64 (s : Nat)] w fun e w' => e = .returned (.string ⟨(txtN s).toArray⟩) ∧ Chg [] w w' := by
  have HA := Lib.hid (list_any' s hs w)
  have hle := members_le s
  have hm64 := Lib.hid (fun x (hx : x ∈ members s) => (members_mem hx).1)
  have hz := members_nil_iff hs
  obtain ⟨L, hL⟩ : ∃ L, L = members s := ⟨_, rfl⟩
  rw [← hL] at HA hle hm64 hz
  have hT : txtN s = if L.length = 0 then [45] else txt L := by
    unfold txtN
    rw [← hL]
    by_cases h : s = 0
    · rw [if_pos h, if_pos (by rw [hz.2 h]; rfl)]
    · rw [if_neg h, if_neg (fun h' => h (hz.1 (List.length_eq_zero_iff.1 h')))]
  have HT := Lib.hid hT
  clear hT hz hL
  go_enter Tryd.func27, Tryd.ntmps27
  go_wp2_with (go_at_call 8; refine HA.out.mono ?_; rintro e w1 ⟨ao, cp, rfl, hr, H1⟩)
  have HR := Lib.hid hr
  clear hr HA
  go_loopw [3, 5] (fun t i wr => ∃ k : Nat, k ≤ L.length ∧ i = .int .i64 k ∧ t = .string ⟨(txt (L.take k)).toArray⟩ ∧ Chg [] w1 wr)
    (fun _ i _ => 64 - (intOf i).toNat)
  case atStart => exact ⟨0, by omega, rfl, rfl, Chg.refl _ _⟩
  case round =>
    obtain ⟨k, hk, rfl, rfl, H⟩ := hrel
    obtain ⟨ht1, ht2⟩ := txt_len (L.take k)
    rw [List.length_take] at ht1 ht2
    by_cases hkL : k < L.length
    · obtain ⟨g, off, rfl, hc⟩ := reads_cell (HR.out.keep H) hkL
      have hx64 := hm64.out L[k] (List.getElem_mem hkL)
      have hsn := txt_snoc (L.take k) L[k]
      rw [← List.take_succ_eq_append_getElem hkL] at hsn
      obtain ⟨x, hx⟩ : ∃ x, x = L[k] := ⟨_, rfl⟩
      rw [← hx] at hc hx64 hsn
      obtain ⟨t, ht⟩ : ∃ t, t = txt (L.take k) := ⟨_, rfl⟩
      rw [← ht] at hsn ht1 ht2 ⊢
      have HD := Lib.hid (fun w => digits_any x hx64 w)
      have hdl := digB_len x
      obtain ⟨d, hd⟩ : ∃ d, d = digB x := ⟨_, rfl⟩
      rw [← hd] at HD hdl hsn
      have b1 : (k : Int) < (L.length : Int) := by omega
      clear hx ht hd hx64
      obtain ⟨X, hX⟩ : ∃ X : ByteArray, X = ⟨t.toArray⟩ := ⟨_, rfl⟩
      obtain ⟨D, hD⟩ : ∃ D : ByteArray, D = ⟨d.toArray⟩ := ⟨_, rfl⟩
      have hXs : X.size = t.length := by rw [hX]; rfl
      have hDs : D.size = d.length := by rw [hD]; rfl
      rw [← hX]
      rw [← hD] at HD
      by_cases hk0 : k = 0
      · rw [if_pos (by omega)] at hsn
        have n1 : ¬ (9223372036854775807 < X.size + D.size) := by omega
        have HSN := Lib.hid (show (⟨(txt (L.take (k + 1))).toArray⟩ : ByteArray) = X ++ D by rw [hsn, hX, hD, str_append])
        clear hsn hX hD hXs hDs
        subst hk0
        rw [Nat.add_zero] at hc
        go_wp2_with (go_at_call 39; refine (HD.out _).mono ?_; rintro e w4 ⟨rfl, H4⟩)
        go_roundw
        case rel => exact ⟨1, by omega, by go_num, by rw [HSN.out], H.trans H4⟩
        case measure => simp [intOf] <;> omega
      · rw [if_neg (by omega)] at hsn
        obtain ⟨Y, hY⟩ : ∃ Y : ByteArray, Y = X ++ ⟨#[44]⟩ := ⟨_, rfl⟩
        have hYs : Y.size = X.size + 1 := by rw [hY, ByteArray.size_append]; rfl
        have n1 : ¬ (9223372036854775807 < X.size + 1) := by omega
        have n2 : ¬ (9223372036854775807 < Y.size + D.size) := by omega
        have HSN := Lib.hid (show (⟨(txt (L.take (k + 1))).toArray⟩ : ByteArray) = Y ++ D by rw [hsn, hY, hX, hD, ← str_append, ← str_append])
        have hY' := hY.symm
        have hk1 : (0 : Int) < (k : Int) := by omega
        clear hsn hX hD hXs hDs hY hYs hk0
        go_wp2_with (go_at_call 39; refine (HD.out _).mono ?_; rintro e w4 ⟨rfl, H4⟩)
        go_roundw
        case rel => exact ⟨k + 1, by omega, by go_num, by rw [HSN.out], H.trans H4⟩
        case measure => simp [intOf] <;> omega
    · obtain rfl : k = L.length := by omega
      rw [List.take_length]
      have hT := HT.out
      by_cases hz : L.length = 0
      · rw [if_pos hz] at hT
        have HT := Lib.hid hT
        clear hT
        have hz' : ((L.length : Nat) : Int) = 0 := by omega
        go_wp2_with fail
        go_ret
        exact ⟨by rw [HT.out]; rfl, H1.trans H⟩
      · rw [if_neg hz] at hT
        have HT := Lib.hid hT
        clear hT
        have hz' : ((L.length : Int) == 0) = false := beq_eq_false_iff_ne.2 (by omega)
        go_wp2_with fail
        go_ret
        exact ⟨by rw [HT.out]; rfl, H1.trans H⟩
end Go.Proofs.YtlbgabbgfgcppaaDoor
