/- plan: the document's ticks, Beat. -/
import Derived.Test.YtjohbnfeijhcmaaDoorPlJ
namespace Go.Proofs.YtjohbnfeijhcmaaDoor
open Go.RowKit Bosun Go.ChangeShapes Go.WideShapes Go.ChangeAt
theorem hasT_step {O : List Ent} {a k : Nat} {x : Ent} (h : O[k]? = some x) (hk : a ≤ k) : HasT O a (k + 1) ↔ HasT O a k ∨ x.tick = true := by
  constructor
  · rintro ⟨j, e, h1, h2, h3, h4⟩
    rcases Nat.lt_or_ge j k with hj | hj
    · exact .inl ⟨j, e, h1, hj, h3, h4⟩
    · obtain rfl : j = k := by omega
      rw [h] at h3; simp at h3; subst h3; exact .inr h4
  · rintro (⟨j, e, h1, h2, h3, h4⟩ | h4)
    · exact ⟨j, e, h1, by omega, h3, h4⟩
    · exact ⟨k, x, hk, by omega, h, h4⟩
set_option maxRecDepth 4000 in
set_option maxHeartbeats 8000000 in
theorem ticks_any (v : Value) (L : List Ent) (m p : Nat) (w : World) (hv : ReadsE w v L) (hl : L.length ≤ 10000) (hm : m ≤ 64) (hp : p ≤ 20000) :
    Calls Tryd.prog 28 #[v, .int .i64 m, .int .i64 p] w fun e w' => ∃ b : Bool, e = .returned (.bool b) ∧ Hid (b = true ↔ ¬ MissT L m p) ∧ Chg [] w w' := by
  obtain ⟨ao, cap, rfl, hmx, hcc⟩ := hv
  rw [List.length_map] at hmx ⊢
  clear hmx
  have hc := Lib.hid hcc
  clear hcc
  go_enter Tryd.func28, Tryd.ntmps28
  go_wp2_with fail
  go_loopw [7] (fun x7 wr => ∃ c : Nat, c ≤ m ∧ x7 = .int .i64 c ∧ Hid (∀ c' : Nat, c' < c → ∀ a : Nat, a + p ≤ (ownC L c').length → HasT (ownC L c') a (a + p)) ∧ Chg [] w wr) (fun x7 _ => m - (intOf x7).toNat)
  case atStart => exact ⟨0, by omega, rfl, Lib.hid fun c' h => by omega, Chg.refl _ _⟩
  case round =>
    obtain ⟨c, hcm, rfl, HCc, C⟩ := hrel
    by_cases hc2 : c < m
    · have hc2i : (c : Int) < (m : Int) := by omega
      go_upto_region 6 with (fail)
      go_loopw [8, 9] (fun x8 x9 wr => ∃ i : Nat, i ≤ L.length ∧ x9 = .int .i64 i ∧ OwnE wr w.heap.size 36 x8 (ownC (L.take i) c) ∧ Chg [] w wr) (fun _ x9 _ => L.length - (intOf x9).toNat)
      case atStart => exact ⟨0, by omega, rfl, OwnE.nil _ _ _, C⟩
      case round =>
        clear C
        obtain ⟨i, hi, rfl, hown, C⟩ := hrel
        by_cases hil : i < L.length
        · obtain ⟨g, off, rfl, cg⟩ := hc.out i L[i].cells (by simp [hil])
          have hil2 : (i : Int) < (L.length : Int) := by omega
          obtain ⟨x, hx⟩ : ∃ x, x = L[i] := ⟨_, rfl⟩
          have HX := Lib.hid (show L[i]? = some x by rw [List.getElem?_eq_getElem hil, hx])
          rw [← hx] at cg
          obtain ⟨cx, t, d⟩ := x
          have l1 : g < w.heap.size := World.block_lt_of_cell? w _ (cg 0 _ rfl)
          have f0 : wr.cell? ⟨g, off + i * 3, none⟩ = some (.int .i64 cx) := (World.cell?_of_block (w := w) (C.block g l1 (by simp))).trans (cg 0 _ rfl)
          have f1 : wr.cell? ⟨g, off + i * 3 + 1, none⟩ = some (.bool t) := (World.cell?_of_block (w := w) (C.block g l1 (by simp))).trans (cg 1 _ rfl)
          have f2 : wr.cell? ⟨g, off + i * 3 + 2, none⟩ = some (.int .u64 (d : Nat)) := (World.cell?_of_block (w := w) (C.block g l1 (by simp))).trans (cg 2 _ rfl)
          have hol := ownC_len (L.take i) c
          rw [List.length_take] at hol
          have hob := hown.block
          have hwz := Lib.hid C.size
          clear cg hx
          by_cases hcx : cx = (c : Int)
          · have hcb : (cx == (c : Int)) = true := by simp [hcx]
            have SN := Lib.hid (ownC_same HX.out (c := c) hcx)
            obtain ⟨O, hO⟩ : ∃ O, O = ownC (L.take i) c := ⟨_, rfl⟩
            rw [← hO] at hown SN hol
            have HL := Lib.hid (And.intro hl hol)
            clear hcx hO hol
            go_upto_region 9 with (fail)
            go_wp2_with (refine wpList_appE rfl (.tmp 31) (.tmp 36) 23 rfl w.heap.size 36 (.agg #[.int .i64 0, .bool false, .int .u64 0]) 24 Tryd.underlying23 infoE' rfl _ O rfl (hown.alloc _) wr.heap.size 1 ⟨cx, t, d⟩ rfl (Blk.new wr #[.int .i64 cx, .bool t, .int .u64 (d : Nat)] 36) (by have := HL.out; unfold maxLen; omega) (by have := HL.out; omega) (by have := hwz.out; simp; omega) ?_)
            intro v' w6 O6 C6
            have C36 : Chg [] w w6 := (C.alloc _).then C6 (fun g hg => .inr ((hob g hg).1))
            clear f0 f1 f2
            go_wp2_with fail
            exact ⟨⟨i + 1, by omega, by go_num, by rw [SN.out]; exact O6, C36⟩, by simp only [intOf]; omega⟩
          · have hcb : (cx == (c : Int)) = false := by simp [hcx]
            have SN := Lib.hid (ownC_other HX.out (c := c) hcx)
            clear hcx
            go_wp2_with fail
            exact ⟨⟨i + 1, by omega, by go_num, by rw [SN.out]; exact hown, C⟩, by simp only [intOf]; omega⟩
        · obtain rfl : i = L.length := by omega
          rw [List.take_length] at hown
          obtain ⟨gx, cap2, rfl, O4⟩ := hown.shape
          have hol := ownC_len L c
          obtain ⟨O, hO⟩ : ∃ O, O = ownC L c := ⟨_, rfl⟩
          have HO : Hid (O = ownC L c) := hO
          rw [← hO] at O4 hol ⊢
          rw [← hO] at hown
          have hol2 : O.length ≤ 10000 := by omega
          obtain ⟨gx0, cap0, hrv, hmr, hcr⟩ := O4.reads
          rw [List.length_map] at hrv hmr
          simp at hrv
          obtain ⟨rfl, rfl⟩ := hrv
          have HCR := Lib.hid hcr
          have CW := Lib.hid C
          obtain ⟨w2, hw2⟩ : ∃ w2, w2 = wr := ⟨_, rfl⟩
          rw [← hw2] at HCR CW ⊢
          have C2 : Chg [] w2 w2 := Chg.refl _ _
          clear hcr hmr hown O4 hO hol C hil hi hw2
          go_upto_region 11 with (fail)
          go_loopw [10] (fun x10 wr => ∃ a : Nat, a ≤ O.length + 1 ∧ x10 = .int .i64 a ∧ Hid (∀ a' : Nat, a' < a → HasT O a' (a' + p)) ∧ Chg [] w2 wr) (fun x10 _ => O.length + 1 - (intOf x10).toNat)
          case atStart => exact ⟨0, by omega, rfl, Lib.hid fun a' h => by omega, C2⟩
          case round =>
            clear C2
            obtain ⟨a, ha, rfl, HA, C⟩ := hrel
            by_cases haW : a + p ≤ O.length
            · have haWi : (a : Int) + (p : Int) ≤ (O.length : Int) := by omega
              go_upto_region 15 with (fail)
              go_loopw [11, 12] (fun x9 x10 wr => ∃ (k : Nat) (b : Bool), a ≤ k ∧ k ≤ a + p ∧ x9 = .bool b ∧ x10 = .int .i64 k ∧ Hid (b = true ↔ HasT O a k) ∧ Chg [] w2 wr) (fun _ x10 _ => a + p - (intOf x10).toNat)
              case atStart => exact ⟨a, false, by omega, by omega, rfl, rfl, Lib.hid ⟨fun h => by simp at h, fun ⟨k, e, h1, h2, _⟩ => by omega⟩, C⟩
              case round =>
                clear C
                obtain ⟨k, b, hk1, hk2, rfl, rfl, HK, C⟩ := hrel
                by_cases hkW : k < a + p
                · have hkWi : (k : Int) < (a : Int) + (p : Int) := by omega
                  have hkl : k < O.length := by omega
                  have hkli : (k : Int) < (O.length : Int) := by omega
                  obtain ⟨g, off, rfl, cg⟩ := HCR.out k O[k].cells (by simp [hkl])
                  obtain ⟨x, hx⟩ : ∃ x, x = O[k] := ⟨_, rfl⟩
                  have HX := Lib.hid (show O[k]? = some x by rw [List.getElem?_eq_getElem hkl, hx])
                  rw [← hx] at cg
                  have l1 : g < w2.heap.size := World.block_lt_of_cell? w2 _ (cg 0 _ rfl)
                  have f1 : wr.cell? ⟨g, off + k * 3 + 1, none⟩ = some (.bool x.tick) := (World.cell?_of_block (w := w2) (C.block g l1 (by simp))).trans (cg 1 _ rfl)
                  clear cg hx hkl
                  have HS := Lib.hid (hasT_step HX.out hk1)
                  cases b
                  · go_wp2_with fail
                    exact ⟨⟨k + 1, _, by omega, by omega, rfl, by go_num, Lib.hid (by
                      rw [HS.out]
                      have := HK.out
                      constructor
                      · intro h; exact .inr (by simpa using h)
                      · rintro (h | h)
                        · exact absurd (this.2 h) (by simp)
                        · simpa using h), C⟩, by simp only [intOf]; omega⟩
                  · go_wp2_with fail
                    exact ⟨⟨k + 1, true, by omega, by omega, rfl, by go_num, Lib.hid (by
                      rw [HS.out]
                      exact ⟨fun _ => .inl (HK.out.1 rfl), fun _ => rfl⟩), C⟩, by simp only [intOf]; omega⟩
                · have hke : k = a + p := by omega
                  have HK2 : Hid (b = true ↔ HasT O a (a + p)) := by rw [← hke]; exact HK
                  have hkn : ¬ (k : Int) < (a : Int) + (p : Int) := by omega
                  clear hke HK hkW
                  cases b
                  · go_wp2_with fail
                    go_ret
                    exact .inl ⟨rfl, Lib.hid ⟨c, hc2, a, by rw [← HO.out]; exact haW, fun hh => absurd (HK2.out.2 (by rw [HO.out]; exact hh)) (by simp)⟩, CW.out.then C (by simp)⟩
                  · go_wp2_with fail
                    refine ⟨⟨a + 1, by omega, by go_num, Lib.hid fun a' ha' => ?_, C⟩, by simp only [intOf]; omega⟩
                    rcases Nat.lt_or_ge a' a with h | h
                    · exact HA.out a' h
                    · obtain rfl : a' = a := by omega
                      exact HK2.out.1 rfl
            · have haWi : ¬ (a : Int) + (p : Int) ≤ (O.length : Int) := by omega
              have CF := Lib.hid (CW.out.then C (by simp))
              go_wp2_with fail
              refine ⟨⟨c + 1, by omega, by go_num, Lib.hid fun c' hc' => ?_, CF.out⟩, by simp only [intOf]; omega⟩
              rcases Nat.lt_or_ge c' c with h | h
              · exact HCc.out c' h
              · obtain rfl : c' = c := by omega
                intro a' h1
                rw [← HO.out] at h1 ⊢
                exact HA.out a' (by omega)
    · obtain rfl : m = c := by omega
      go_wp2_with fail
      go_ret
      exact ⟨true, rfl, Lib.hid ⟨fun _ ⟨c', h1, a', h2, h3⟩ => h3 (HCc.out c' h1 a' h2), fun _ => rfl⟩, C⟩
set_option maxHeartbeats 8000000 in
theorem rbeat_any (v : Value) (l : List Ent) (n : Int) (w : World) (hv : ReadsE w v l) (hl : l.length ≤ 10000) :
    Calls Tryd.prog 21 #[v, .int .i64 n] w fun e w' => ∃ r : Int, e = .returned (.int .i64 r) ∧ BeatSays l n r ∧ Chg [] w w' := by
  by_cases hn : 1 ≤ n ∧ n ≤ 64
  · obtain ⟨m, rfl⟩ : ∃ m : Nat, n = m := ⟨n.toNat, by omega⟩
    have hm1 : ¬ (m : Int) < 1 := by omega
    have hm64 : ¬ 64 < (m : Int) := by omega
    have HC := Lib.hid (rclean_any v l m w hv hl)
    have hLl := cln_len l m
    obtain ⟨L, hL⟩ : ∃ L, L = cln l (m : Int) := ⟨_, rfl⟩
    have HL : Hid (L = cln l (m : Int)) := hL
    rw [← hL] at HC hLl
    have HN := Lib.hid hn
    have hLL := Nat.le_trans hLl hl
    have HE := Lib.hid (fun v W w (h : ReadsE w v L) (hW : W ≤ 20000) => ticks_any v L m W w h hLL (by omega) hW)
    clear hL hv hl hLl
    go_enter Tryd.func21, Tryd.ntmps21
    go_wp2_with fail
    refine HC.out.mono ?_
    rintro e w2 ⟨u, rfl, O2, C2⟩
    obtain ⟨gx, cap, rfl, O3⟩ := O2.shape
    have R2 := Lib.hid O3.reads
    have H2 := Lib.hid C2
    clear O2 O3 C2
    go_wp2_with fail
    go_loopw [5] (fun x5 wr => ∃ W : Nat, 1 ≤ W ∧ W ≤ L.length + 1 ∧ x5 = .int .i64 W ∧ Hid (∀ W', 1 ≤ W' → W' < W → MissT L m W') ∧ Chg [] w2 wr) (fun x5 _ => L.length + 1 - (intOf x5).toNat)
    case atStart => exact ⟨1, by omega, by omega, rfl, Lib.hid fun W' h1 h2 => by omega, Chg.refl _ _⟩
    case round =>
      obtain ⟨W, hW1, hW2, rfl, HW, C⟩ := hrel
      go_wp2_with fail
      refine (HE.out _ W _ (R2.out.keep C) (by omega)).mono ?_
      rintro e w3 ⟨b, rfl, HBB, C3⟩
      have CC := Lib.hid (C.then C3 (by simp))
      clear C3 C
      cases b
      · have HM : Hid (MissT L m W) := Lib.hid (Classical.byContradiction fun h => by have := HBB.out.2 h; simp at this)
        have hWL := HM.out.len
        go_wp2_with fail
        refine ⟨⟨W + 1, by omega, by omega, by go_num, Lib.hid fun W' h1 h2 => ?_, CC.out⟩, by simp only [intOf]; omega⟩
        rcases Nat.lt_or_ge W' W with h | h
        · exact HW.out W' h1 h
        · obtain rfl : W' = W := by omega
          exact HM.out
      · have HM : Hid (¬ MissT L m W) := Lib.hid (HBB.out.1 rfl)
        go_wp2_with fail
        go_ret
        exact ⟨_, rfl, beatSays_of HN.out HL.out (isBeat_of hW1 HW.out HM.out), H2.out.then CC.out (by simp)⟩
  · have HN := Lib.hid hn
    go_enter Tryd.func21, Tryd.ntmps21
    by_cases h1 : n < 1
    · clear hn
      go_wp2_with fail
      go_ret
      exact ⟨0, rfl, ⟨fun _ => rfl, fun h => absurd h HN.out⟩, Chg.refl _ _⟩
    · have h2 : 64 < n := by omega
      clear hn
      go_wp2_with fail
      go_ret
      exact ⟨0, rfl, ⟨fun _ => rfl, fun h => absurd h HN.out⟩, Chg.refl _ _⟩
end Go.Proofs.YtjohbnfeijhcmaaDoor
