/- gauge: totals and averages of many, the program's and the document's. -/
import Derived.Test.YtknfpnifhpbojaaGau5
namespace Go.Proofs.Ytknfpnifhpbojaa
open Go.RowKit Bosun
theorem take_snoc {l : List Nat} {k : Nat} (h : k < l.length) : l.take (k + 1) = l.take k ++ [l.getD k 0] := by rw [List.take_succ_eq_append_getElem h, getD_get h]
set_option maxHeartbeats 1000000 in
theorem total_any (v : Value) (l : List Nat) (hl : ∀ x ∈ l, x < 18446744073709551616) (w : World) (hv : Reads w v (fls l)) :
    Calls Try.prog 23 #[v] w fun e w' => e = .returned (fl (totW l)) ∧ w = w' := by
  obtain ⟨ao, cap, rfl, hm, hc⟩ := hv
  rw [fls_len] at hm ⊢
  unfold maxLen at hm
  go_enter Try.func23, Try.ntmps23
  go_wp2
  go_loopw [3, 8] (fun x3 x8 wr => ∃ (k s : Nat), k ≤ l.length ∧ x8 = .int .i64 k ∧ x3 = fl s ∧ Hid (s = totW (l.take k)) ∧ w = wr)
    (fun x3 x8 _ => l.length - (intOf x8).toNat)
  case atStart => exact ⟨0, 0, by omega, rfl, rfl, Lib.hid rfl, rfl⟩
  case round =>
    obtain ⟨k, s, hk, rfl, rfl, HS, rfl⟩ := hrel
    by_cases hkl : k < l.length
    · obtain ⟨g, off, rfl, hcell⟩ := hc k _ (fls_get l hkl)
      rw [← getD_get hkl] at hcell
      have hxl : l.getD k 0 < 18446744073709551616 := by rw [getD_get hkl]; exact hl _ (List.getElem_mem hkl)
      have HT := Lib.hid (take_snoc hkl)
      obtain ⟨x, hx⟩ : ∃ x, x = l.getD k 0 := ⟨_, rfl⟩
      rw [← hx] at hcell HT hxl
      have hs : loadB s = true := by rw [show s = totW (l.take k) from HS]; exact totW_load _
      have HL := Lib.hid (fun w => load_any x hxl w)
      clear hc hx hl
      cases h1 : loadB x with
      | false =>
        rw [h1] at HL
        have HN := Lib.hid (show s = totW (l.take (k + 1)) by rw [HT.out, totW_snoc, tot_no h1]; exact HS)
        clear h1 hs hxl
        go_wp2_with (go_at_call 11; refine (HL.out _).mono ?_; rintro e w2 ⟨rfl, rfl⟩)
        go_roundw
        case rel => exact ⟨k + 1, s, by omega, by go_num, rfl, HN, by trivial⟩
        case measure => simp [intOf] <;> omega
      | true =>
        obtain ⟨r, r1, r2, r3⟩ := tot_parts hs h1
        rw [h1] at HL
        have hop : ∀ t w, (binOp .add t (.float .f64 s) (.float .f64 x)).run Try.prog w = .ok (.float .f64 r) w := fun t w => run_float_arith w .add t .f64 s x r r1
        have HU := Lib.hid (fun w => tell_any r r2 w)
        obtain ⟨z, hz⟩ : ∃ z, z = tellW r := ⟨_, rfl⟩
        rw [← hz] at HU
        have HN := Lib.hid (show z = totW (l.take (k + 1)) by rw [HT.out, totW_snoc, hz, ← r3]; exact congrArg (fun q => totF q x) HS)
        clear h1 hs hxl r1 r2 r3 hz
        go_wp2_with (first
          | (go_at_call 11; refine (HL.out _).mono ?_; rintro e w2 ⟨rfl, rfl⟩)
          | (go_at_call 27; refine (HU.out _).mono ?_; rintro e w2 ⟨rfl, rfl⟩))
        go_roundw
        case rel => exact ⟨k + 1, z, by omega, by go_num, rfl, HN, by trivial⟩
        case measure => simp [intOf] <;> omega
    · obtain rfl : k = l.length := by omega
      have HH := Lib.hid (show s = totW l by have h : s = totW (l.take l.length) := HS; rw [List.take_length] at h; exact h)
      clear hc HS
      go_wp2
      go_ret
      exact ⟨congrArg (fun q => Ending.returned (fl q)) HH.out, rfl⟩
set_option maxHeartbeats 1000000 in
theorem rtotal_any (v : Value) (l : List Nat) (hl : ∀ x ∈ l, x < 18446744073709551616) (w : World) (hv : Reads w v (fls l)) :
    Calls Try.prog 24 #[v] w fun e w' => e = .returned (fl (totW l)) ∧ w = w' := by
  obtain ⟨ao, cap, rfl, hm, hc⟩ := hv
  rw [fls_len] at hm ⊢
  unfold maxLen at hm
  go_enter Try.func24, Try.ntmps24
  go_wp2
  go_loopw [3, 4] (fun x3 x4 wr => ∃ (k s : Nat), k ≤ l.length ∧ x4 = .int .i64 k ∧ x3 = fl s ∧ Hid (s = totW (l.take k)) ∧ w = wr)
    (fun x3 x4 _ => l.length - (intOf x4).toNat)
  case atStart => exact ⟨0, 0, by omega, rfl, rfl, Lib.hid rfl, rfl⟩
  case round =>
    obtain ⟨k, s, hk, rfl, rfl, HS, rfl⟩ := hrel
    by_cases hkl : k < l.length
    · obtain ⟨g, off, rfl, hcell⟩ := hc k _ (fls_get l hkl)
      rw [← getD_get hkl] at hcell
      have hxl : l.getD k 0 < 18446744073709551616 := by rw [getD_get hkl]; exact hl _ (List.getElem_mem hkl)
      have HT := Lib.hid (take_snoc hkl)
      obtain ⟨x, hx⟩ : ∃ x, x = l.getD k 0 := ⟨_, rfl⟩
      rw [← hx] at hcell HT hxl
      have hs : loadB s = true := by rw [show s = totW (l.take k) from HS]; exact totW_load _
      have HL := Lib.hid (fun w => rload_any x hxl w)
      clear hc hx hl
      cases h1 : loadB x with
      | false =>
        rw [h1] at HL
        have HN := Lib.hid (show s = totW (l.take (k + 1)) by rw [HT.out, totW_snoc, tot_no h1]; exact HS)
        clear h1 hs hxl
        go_wp2_with (go_at_call 12; refine (HL.out _).mono ?_; rintro e w2 ⟨rfl, rfl⟩)
        go_roundw
        case rel => exact ⟨k + 1, s, by omega, by go_num, rfl, HN, by trivial⟩
        case measure => simp [intOf] <;> omega
      | true =>
        obtain ⟨r, r1, r2, r3⟩ := tot_parts hs h1
        rw [h1] at HL
        have hop : ∀ t w, (binOp .add t (.float .f64 s) (.float .f64 x)).run Try.prog w = .ok (.float .f64 r) w := fun t w => run_float_arith w .add t .f64 s x r r1
        have HU := Lib.hid (fun w => plain_any r r2 w)
        obtain ⟨z, hz⟩ : ∃ z, z = tellW r := ⟨_, rfl⟩
        rw [← hz] at HU
        have HN := Lib.hid (show z = totW (l.take (k + 1)) by rw [HT.out, totW_snoc, hz, ← r3]; exact congrArg (fun q => totF q x) HS)
        clear h1 hs hxl r1 r2 r3 hz
        go_wp2_with (first
          | (go_at_call 12; refine (HL.out _).mono ?_; rintro e w2 ⟨rfl, rfl⟩)
          | (go_at_call 30; refine (HU.out _).mono ?_; rintro e w2 ⟨rfl, rfl⟩))
        go_roundw
        case rel => exact ⟨k + 1, z, by omega, by go_num, rfl, HN, by trivial⟩
        case measure => simp [intOf] <;> omega
    · obtain rfl : k = l.length := by omega
      have HH := Lib.hid (show s = totW l by have h : s = totW (l.take l.length) := HS; rw [List.take_length] at h; exact h)
      clear hc HS
      go_wp2
      go_ret
      exact ⟨congrArg (fun q => Ending.returned (fl q)) HH.out, rfl⟩
set_option maxHeartbeats 1000000 in
theorem fold_any (v : Value) (l : List Nat) (hl : ∀ x ∈ l, x < 18446744073709551616) (keep : Nat) (hkp : keep < 18446744073709551616) (w : World) (hv : Reads w v (fls l)) :
    Calls Try.prog 25 #[v, fl keep] w fun e w' => e = .returned (fl (foldW keep l)) ∧ w = w' := by
  obtain ⟨ao, cap, rfl, hm, hc⟩ := hv
  rw [fls_len] at hm ⊢
  unfold maxLen at hm
  go_enter Try.func25, Try.ntmps25
  go_wp2
  go_loopw [5, 10] (fun x5 x10 wr => ∃ (k s : Nat), k ≤ l.length ∧ x10 = .int .i64 k ∧ x5 = fl s ∧ Hid (s = foldW keep (l.take k)) ∧ w = wr)
    (fun x5 x10 _ => l.length - (intOf x10).toNat)
  case atStart => exact ⟨0, 0, by omega, rfl, rfl, Lib.hid rfl, rfl⟩
  case round =>
    obtain ⟨k, s, hk, rfl, rfl, HS, rfl⟩ := hrel
    by_cases hkl : k < l.length
    · obtain ⟨g, off, rfl, hcell⟩ := hc k _ (fls_get l hkl)
      rw [← getD_get hkl] at hcell
      have hxl : l.getD k 0 < 18446744073709551616 := by rw [getD_get hkl]; exact hl _ (List.getElem_mem hkl)
      have HT := Lib.hid (take_snoc hkl)
      obtain ⟨x, hx⟩ : ∃ x, x = l.getD k 0 := ⟨_, rfl⟩
      rw [← hx] at hcell HT hxl
      have hs : loadB s = true := by rw [show s = foldW keep (l.take k) from HS]; exact foldW_load _ _
      have HM := Lib.hid (fun w => mix_any s x keep (load_lt hs) hxl hkp w)
      obtain ⟨z, hz⟩ : ∃ z, z = mixW s x keep := ⟨_, rfl⟩
      rw [← hz] at HM
      have HN := Lib.hid (show z = foldW keep (l.take (k + 1)) by rw [HT.out, foldW_snoc, hz]; exact congrArg (fun q => mixW q x keep) HS)
      clear hc hx hl hs hxl hz
      go_wp2_with (go_at_call 8; refine (HM.out _).mono ?_; rintro e w2 ⟨rfl, rfl⟩)
      go_roundw
      case rel => exact ⟨k + 1, z, by omega, by go_num, rfl, HN, by trivial⟩
      case measure => simp [intOf] <;> omega
    · obtain rfl : k = l.length := by omega
      have HH := Lib.hid (show s = foldW keep l by have h : s = foldW keep (l.take l.length) := HS; rw [List.take_length] at h; exact h)
      clear hc HS
      go_wp2
      go_ret
      exact ⟨congrArg (fun q => Ending.returned (fl q)) HH.out, rfl⟩
set_option maxHeartbeats 1000000 in
theorem rfold_any (v : Value) (l : List Nat) (hl : ∀ x ∈ l, x < 18446744073709551616) (keep : Nat) (hkp : keep < 18446744073709551616) (w : World) (hv : Reads w v (fls l)) :
    Calls Try.prog 26 #[v, fl keep] w fun e w' => e = .returned (fl (foldW keep l)) ∧ w = w' := by
  obtain ⟨ao, cap, rfl, hm, hc⟩ := hv
  rw [fls_len] at hm ⊢
  unfold maxLen at hm
  go_enter Try.func26, Try.ntmps26
  go_wp2
  go_loopw [5, 6] (fun x5 x6 wr => ∃ (k s : Nat), k ≤ l.length ∧ x6 = .int .i64 k ∧ x5 = fl s ∧ Hid (s = foldW keep (l.take k)) ∧ w = wr)
    (fun x5 x6 _ => l.length - (intOf x6).toNat)
  case atStart => exact ⟨0, 0, by omega, rfl, rfl, Lib.hid rfl, rfl⟩
  case round =>
    obtain ⟨k, s, hk, rfl, rfl, HS, rfl⟩ := hrel
    by_cases hkl : k < l.length
    · obtain ⟨g, off, rfl, hcell⟩ := hc k _ (fls_get l hkl)
      rw [← getD_get hkl] at hcell
      have hxl : l.getD k 0 < 18446744073709551616 := by rw [getD_get hkl]; exact hl _ (List.getElem_mem hkl)
      have HT := Lib.hid (take_snoc hkl)
      obtain ⟨x, hx⟩ : ∃ x, x = l.getD k 0 := ⟨_, rfl⟩
      rw [← hx] at hcell HT hxl
      have hs : loadB s = true := by rw [show s = foldW keep (l.take k) from HS]; exact foldW_load _ _
      have HM := Lib.hid (fun w => rmix_any s x keep (load_lt hs) hxl hkp w)
      obtain ⟨z, hz⟩ : ∃ z, z = mixW s x keep := ⟨_, rfl⟩
      rw [← hz] at HM
      have HN := Lib.hid (show z = foldW keep (l.take (k + 1)) by rw [HT.out, foldW_snoc, hz]; exact congrArg (fun q => mixW q x keep) HS)
      clear hc hx hl hs hxl hz
      go_wp2_with (go_at_call 14; refine (HM.out _).mono ?_; rintro e w2 ⟨rfl, rfl⟩)
      go_roundw
      case rel => exact ⟨k + 1, z, by omega, by go_num, rfl, HN, by trivial⟩
      case measure => simp [intOf] <;> omega
    · obtain rfl : k = l.length := by omega
      have HH := Lib.hid (show s = foldW keep l by have h : s = foldW keep (l.take l.length) := HS; rw [List.take_length] at h; exact h)
      clear hc HS
      go_wp2
      go_ret
      exact ⟨congrArg (fun q => Ending.returned (fl q)) HH.out, rfl⟩
theorem Reads_take {w : World} {ao : Option Addr} {n c k : Nat} {xs : List Value} (h : Reads w (.slice ao n c) xs) (hk : k ≤ n) : Reads w (.slice ao k c) (xs.take k) := by
  obtain ⟨ao', c', hv, hm, hc⟩ := h
  injection hv with e1 e2 e3
  subst e1 e3
  have hl : (xs.take k).length = k := by rw [List.length_take]; omega
  refine ⟨ao, c, by rw [hl], by rw [hl]; omega, fun j x hx => ?_⟩
  rw [List.getElem?_take] at hx
  split at hx
  · exact hc j x hx
  · cases hx
theorem fls_take (l : List Nat) (k : Nat) : fls (l.take k) = (fls l).take k := by simp [fls, List.map_take]
theorem Reads_sh {w : World} {v : Value} {xs : List Value} (h : Reads w v xs) : ∃ ao c, v = .slice ao xs.length c := by
  obtain ⟨ao, c, hv, _, _⟩ := h
  exact ⟨ao, c, hv⟩
end Go.Proofs.Ytknfpnifhpbojaa
