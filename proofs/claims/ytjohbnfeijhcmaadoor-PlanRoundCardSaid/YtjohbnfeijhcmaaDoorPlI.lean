/- plan: the document's each, Gap. -/
import Derived.Test.YtjohbnfeijhcmaaDoorPlH
import Derived.Test.YtjohbnfeijhcmaaDoorPl10
namespace Go.Proofs.YtjohbnfeijhcmaaDoor
open Go.RowKit Bosun Go.ChangeShapes Go.WideShapes Go.ChangeAt
/-- What Gap answers. -/
def GapSays (l : List Ent) (n r : Int) : Prop := (¬ (1 ≤ n ∧ n ≤ 64) → r = 0) ∧ ((1 ≤ n ∧ n ≤ 64) → ∃ k : Nat, r = k ∧ IsGap (cln l n) n.toNat k)
theorem gapSays_of {l L : List Ent} {m k : Nat} (hn : 1 ≤ (m : Int) ∧ (m : Int) ≤ 64) (hL : L = cln l (m : Int)) (h : IsGap L m k) : GapSays l m k :=
  ⟨fun h => absurd hn h, fun _ => ⟨k, rfl, by rw [← hL]; simpa using h⟩⟩
theorem GapSays.uniq {l : List Ent} {n r s : Int} (a : GapSays l n r) (b : GapSays l n s) : r = s := by
  by_cases h : 1 ≤ n ∧ n ≤ 64
  · obtain ⟨k, rfl, hk⟩ := a.2 h
    obtain ⟨j, rfl, hj⟩ := b.2 h
    rw [hk.uniq hj]
  · rw [a.1 h, b.1 h]
theorem gap_says (v : Value) (l : List Ent) (n : Int) (w : World) (hv : ReadsE w v l) (hl : l.length ≤ 10000) :
    Calls Tryd.prog 18 #[v, .int .i64 n] w fun e w' => ∃ r : Int, e = .returned (.int .i64 r) ∧ GapSays l n r ∧ Chg [] w w' := by
  refine (gap_any v l n w hv hl).mono ?_
  rintro e w1 ⟨r, rfl, h1, h2, C⟩
  exact ⟨r, rfl, ⟨h1, h2⟩, C⟩
theorem hasC_step {L : List Ent} {c : Int} {a k : Nat} {x : Ent} (h : L[k]? = some x) (hk : a ≤ k) : HasC L c a (k + 1) ↔ HasC L c a k ∨ x.cpu = c := by
  constructor
  · rintro ⟨j, e, h1, h2, h3, h4⟩
    rcases Nat.lt_or_ge j k with hj | hj
    · exact .inl ⟨j, e, h1, hj, h3, h4⟩
    · obtain rfl : j = k := by omega
      rw [h] at h3; simp at h3; subst h3; exact .inr h4
  · rintro (⟨j, e, h1, h2, h3, h4⟩ | h4)
    · exact ⟨j, e, h1, by omega, h3, h4⟩
    · exact ⟨k, x, hk, by omega, h, h4⟩
set_option maxHeartbeats 8000000 in
theorem each_any (v : Value) (L : List Ent) (m W : Nat) (w : World) (hv : ReadsE w v L) (hl : L.length ≤ 10000) (hm : m ≤ 64) (hW : W ≤ 20000) :
    Calls Tryd.prog 27 #[v, .int .i64 m, .int .i64 W] w fun e w' => ∃ b : Bool, e = .returned (.bool b) ∧ Hid (b = true ↔ ¬ MissC L m W) ∧ Chg [] w w' := by
  obtain ⟨ao, cap, rfl, hmx, hcc⟩ := hv
  rw [List.length_map] at hmx ⊢
  clear hmx
  have hc := Lib.hid hcc
  clear hcc
  go_enter Tryd.func27, Tryd.ntmps27
  go_wp2_with fail
  go_loopw [7] (fun x7 wr => ∃ a : Nat, a ≤ L.length + 1 ∧ x7 = .int .i64 a ∧ Hid (∀ a' : Nat, a' < a → ∀ c : Nat, c < m → HasC L c a' (a' + W)) ∧ Chg [] w wr) (fun x7 _ => L.length + 1 - (intOf x7).toNat)
  case atStart => exact ⟨0, by omega, rfl, Lib.hid fun a' h => by omega, Chg.refl _ _⟩
  case round =>
    obtain ⟨a, ha, rfl, HA, C⟩ := hrel
    by_cases haW : a + W ≤ L.length
    · have haWi : (a : Int) + (W : Int) ≤ (L.length : Int) := by omega
      go_upto_region 5 with (fail)
      go_loopw [8] (fun x8 wr => ∃ c : Nat, c ≤ m ∧ x8 = .int .i64 c ∧ Hid (∀ c' : Nat, c' < c → HasC L c' a (a + W)) ∧ Chg [] w wr) (fun x8 _ => m - (intOf x8).toNat)
      case atStart => exact ⟨0, by omega, rfl, Lib.hid fun a' h => by omega, C⟩
      case round =>
        clear C
        obtain ⟨c, hcm, rfl, HCc, C⟩ := hrel
        by_cases hc2 : c < m
        · have hc2i : (c : Int) < (m : Int) := by omega
          go_upto_region 9 with (fail)
          go_loopw [9, 10] (fun x9 x10 wr => ∃ (k : Nat) (b : Bool), a ≤ k ∧ k ≤ a + W ∧ x9 = .bool b ∧ x10 = .int .i64 k ∧ Hid (b = true ↔ HasC L c a k) ∧ Chg [] w wr) (fun _ x10 _ => a + W - (intOf x10).toNat)
          case atStart => exact ⟨a, false, by omega, by omega, rfl, rfl, Lib.hid ⟨fun h => by simp at h, fun ⟨k, e, h1, h2, _⟩ => by omega⟩, C⟩
          case round =>
            clear C
            obtain ⟨k, b, hk1, hk2, rfl, rfl, HK, C⟩ := hrel
            by_cases hkW : k < a + W
            · have hkWi : (k : Int) < (a : Int) + (W : Int) := by omega
              have hkl : k < L.length := by omega
              have hkli : (k : Int) < (L.length : Int) := by omega
              obtain ⟨g, off, rfl, cg⟩ := hc.out k L[k].cells (by simp [hkl])
              obtain ⟨x, hx⟩ : ∃ x, x = L[k] := ⟨_, rfl⟩
              have HX := Lib.hid (show L[k]? = some x by rw [List.getElem?_eq_getElem hkl, hx])
              rw [← hx] at cg
              have l1 : g < w.heap.size := World.block_lt_of_cell? w _ (cg 0 _ rfl)
              have f0 : wr.cell? ⟨g, off + k * 3, none⟩ = some (.int .i64 x.cpu) := (World.cell?_of_block (w := w) (C.block g l1 (by simp))).trans (cg 0 _ rfl)
              clear cg hx hkl
              cases b
              · have HS := Lib.hid (hasC_step (c := (c : Int)) HX.out hk1)
                go_wp2_with fail
                exact ⟨⟨k + 1, _, by omega, by omega, rfl, by go_num, Lib.hid (by
                  rw [HS.out]
                  have := HK.out
                  constructor
                  · intro h; exact .inr (by simpa using h)
                  · rintro (h | h)
                    · exact absurd (this.2 h) (by simp)
                    · simpa using h), C⟩, by simp only [intOf]; omega⟩
              · have HS := Lib.hid (hasC_step (c := (c : Int)) HX.out hk1)
                go_wp2_with fail
                exact ⟨⟨k + 1, true, by omega, by omega, rfl, by go_num, Lib.hid (by
                  rw [HS.out]
                  exact ⟨fun _ => .inl (HK.out.1 rfl), fun _ => rfl⟩), C⟩, by simp only [intOf]; omega⟩
            · have hke : k = a + W := by omega
              have HK2 : Hid (b = true ↔ HasC L c a (a + W)) := by rw [← hke]; exact HK
              have hkn : ¬ (k : Int) < (a : Int) + (W : Int) := by omega
              have HE := Lib.hid hke
              clear hke HK hkW
              cases b
              · go_wp2_with fail
                go_ret
                exact .inl ⟨rfl, Lib.hid ⟨a, c, haW, hc2, fun hh => absurd (HK2.out.2 hh) (by simp)⟩, C⟩
              · go_wp2_with fail
                refine ⟨⟨c + 1, by omega, by go_num, Lib.hid fun c' hc' => ?_, C⟩, by simp only [intOf]; omega⟩
                rcases Nat.lt_or_ge c' c with h | h
                · exact HCc.out c' h
                · obtain rfl : c' = c := by omega
                  exact HK2.out.1 rfl
        · obtain rfl : m = c := by omega
          go_wp2_with fail
          refine ⟨⟨a + 1, by omega, by go_num, Lib.hid fun a' ha' => ?_, C⟩, by simp only [intOf]; omega⟩
          rcases Nat.lt_or_ge a' a with h | h
          · exact HA.out a' h
          · obtain rfl : a' = a := by omega
            exact HCc.out
    · have haWi : ¬ (a : Int) + (W : Int) ≤ (L.length : Int) := by omega
      go_wp2_with fail
      go_ret
      exact .inr ⟨rfl, Lib.hid fun ⟨a', c, h1, h2, h3⟩ => h3 (HA.out a' (by omega) c h2), C⟩
set_option maxHeartbeats 8000000 in
theorem rgap_any (v : Value) (l : List Ent) (n : Int) (w : World) (hv : ReadsE w v l) (hl : l.length ≤ 10000) :
    Calls Tryd.prog 20 #[v, .int .i64 n] w fun e w' => ∃ r : Int, e = .returned (.int .i64 r) ∧ GapSays l n r ∧ Chg [] w w' := by
  by_cases hn : 1 ≤ n ∧ n ≤ 64
  · obtain ⟨m, rfl⟩ : ∃ m : Nat, n = m := ⟨n.toNat, by omega⟩
    have hm1 : ¬ (m : Int) < 1 := by omega
    have hm64 : ¬ 64 < (m : Int) := by omega
    have HC := Lib.hid (rclean_any v l m w hv hl)
    have hLl := cln_len l m
    obtain ⟨L, hL⟩ : ∃ L, L = cln l (m : Int) := ⟨_, rfl⟩
    have HL : Hid (L = cln l (m : Int)) := hL
    rw [← hL] at HC hLl
    have HN := Lib.hid hn
    have hLL := Nat.le_trans hLl hl
    have HE := Lib.hid (fun v W w (h : ReadsE w v L) (hW : W ≤ 20000) => each_any v L m W w h hLL (by omega) hW)
    clear hL hv hl hLl
    go_enter Tryd.func20, Tryd.ntmps20
    go_wp2_with fail
    refine HC.out.mono ?_
    rintro e w2 ⟨u, rfl, O2, C2⟩
    obtain ⟨gx, cap, rfl, O3⟩ := O2.shape
    have R2 := Lib.hid O3.reads
    have H2 := Lib.hid C2
    clear O2 O3 C2
    go_wp2_with fail
    go_loopw [5] (fun x5 wr => ∃ W : Nat, 1 ≤ W ∧ W ≤ L.length + 1 ∧ x5 = .int .i64 W ∧ Hid (∀ W', 1 ≤ W' → W' < W → MissC L m W') ∧ Chg [] w2 wr) (fun x5 _ => L.length + 1 - (intOf x5).toNat)
    case atStart => exact ⟨1, by omega, by omega, rfl, Lib.hid fun W' h1 h2 => by omega, Chg.refl _ _⟩
    case round =>
      obtain ⟨W, hW1, hW2, rfl, HW, C⟩ := hrel
      by_cases hWL : W ≤ L.length
      · have hWLi : (W : Int) ≤ (L.length : Int) := by omega
        go_wp2_with fail
        refine (HE.out _ W _ (R2.out.keep C) (by omega)).mono ?_
        rintro e w3 ⟨b, rfl, HB, C3⟩
        have HBB := HB
        have CC := Lib.hid (C.then C3 (by simp))
        clear C3 C
        cases b
        · have HM : Hid (MissC L m W) := Lib.hid (Classical.byContradiction fun h => by have := HBB.out.2 h; simp at this)
          go_wp2_with fail
          refine ⟨⟨W + 1, by omega, by omega, by go_num, Lib.hid fun W' h1 h2 => ?_, CC.out⟩, by simp only [intOf]; omega⟩
          rcases Nat.lt_or_ge W' W with h | h
          · exact HW.out W' h1 h
          · obtain rfl : W' = W := by omega
            exact HM.out
        · have HM : Hid (¬ MissC L m W) := Lib.hid (HBB.out.1 rfl)
          go_wp2_with fail
          go_ret
          exact ⟨_, rfl, gapSays_of HN.out HL.out (isGap_of hW1 hW2 HW.out fun _ => HM.out), H2.out.then CC.out (by simp)⟩
      · have hWLi : ¬ (W : Int) ≤ (L.length : Int) := by omega
        go_wp2_with fail
        go_ret
        exact ⟨_, rfl, gapSays_of HN.out HL.out (isGap_of hW1 hW2 HW.out fun h => absurd h hWL), H2.out.then C (by simp)⟩
  · have HN := Lib.hid hn
    go_enter Tryd.func20, Tryd.ntmps20
    by_cases h1 : n < 1
    · clear hn
      go_wp2_with fail
      go_ret
      exact ⟨0, rfl, ⟨fun _ => rfl, fun h => absurd h HN.out⟩, Chg.refl _ _⟩
    · have h2 : 64 < n := by omega
      clear hn
      go_wp2_with fail
      go_ret
      exact ⟨0, rfl, ⟨fun _ => rfl, fun h => absurd h HN.out⟩, Chg.refl _ _⟩
end Go.Proofs.YtjohbnfeijhcmaaDoor
