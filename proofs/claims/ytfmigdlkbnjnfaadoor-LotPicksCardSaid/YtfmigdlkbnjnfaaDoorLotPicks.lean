/- For all numbers the law LotPicks returns true: which one of so many, which other one, and which member of a set any number draws. The table of math/bits is tied to the program's text. No conditions. -/
import Derived.Test.YtfmigdlkbnjnfaaDoorRows
import Derived.Test.YtfmigdlkbnjnfaaDoorCards
import Derived.Test.YtfmigdlkbnjnfaaDoorTie
import Derived.Test.YtfmigdlkbnjnfaaDoorPick
import Derived.ProofKit
import Derived.OpenShut
import Derived.LaidMore
import Derived.Stop.Joined
import Derived.Lib.LaidTab
import Derived.SevenTiedAt
import Derived.Test.YtfmigdlkbnjnfaaDoorLaw
namespace Go.Proofs.YtfmigdlkbnjnfaaDoor
open Go.RowKit Bosun
theorem victim_facts (d a b : Int) (_hd : 0 ≤ d) : victimI d a b < 0 ∨ (victimI d a b ≠ a ∧ victimI d a b < b) := by
  unfold victimI
  by_cases hc : b < 2 ∨ a < 0 ∨ b ≤ a
  · rw [if_pos hc]; exact .inl (by omega)
  · rw [if_neg hc]
    have h1 := Int.emod_nonneg d (show b - 1 ≠ 0 by omega)
    have h2 := Int.emod_lt_of_pos d (show 0 < b - 1 by omega)
    generalize d % (b - 1) = q at *
    split <;> right <;> omega
set_option maxHeartbeats 2000000 in
theorem lotPicks_walk (w : World) (hT : TabW w) (d : Nat) (hd : d < 18446744073709551616) (self : Int) (hs1 : -9223372036854775808 ≤ self) (hs2 : self ≤ 9223372036854775807) (n : Int) (hn1 : -9223372036854775808 ≤ n) (hn2 : n ≤ 9223372036854775807) (s : Nat) (hs : s < 18446744073709551616) :
    Calls Tryd.prog 3 #[.int .u64 (d : Nat), .int .i64 self, .int .i64 n, .int .u64 (s : Nat)] w fun e w' => e = .returned (.bool true) ∧ Chg [] w w' := by
  have P1 := Lib.hid (fun w => pick_any (d : Int) n (by omega) (by omega) hn2 w)
  have P2 := Lib.hid (fun w => rpick_any (d : Int) n (by omega) (by omega) hn2 w)
  have M1 := Lib.hid (fun w hT => member_any d hd s hs w hT)
  have M2 := Lib.hid (fun w => rmember_any d hd s hs w)
  obtain ⟨a, ha⟩ : ∃ a, self.tmod 100 = a := ⟨_, rfl⟩
  obtain ⟨b, hb⟩ : ∃ b, n.tmod 100 = b := ⟨_, rfl⟩
  have a1 : -100 ≤ a ∧ a ≤ 100 := by have h1 := Int.tmod_lt_of_pos self (show (0 : Int) < 100 by omega); have h2 := Int.lt_tmod_of_pos self (show (0 : Int) < 100 by omega); rw [ha] at h1 h2; omega
  have b1 : -100 ≤ b ∧ b ≤ 100 := by have h1 := Int.tmod_lt_of_pos n (show (0 : Int) < 100 by omega); have h2 := Int.lt_tmod_of_pos n (show (0 : Int) < 100 by omega); rw [hb] at h1 h2; omega
  have V1 := Lib.hid (fun w => victim_any (d : Int) a b (by omega) (by omega) (by omega) (by omega) (by omega) (by omega) w)
  have V2 := Lib.hid (fun w => rvictim_any (d : Int) a b (by omega) (by omega) (by omega) (by omega) (by omega) (by omega) w)
  have hvf := victim_facts (d : Int) a b (by omega)
  obtain ⟨p, hp⟩ : ∃ p, p = pickI (d : Int) n := ⟨_, rfl⟩
  obtain ⟨m, hm⟩ : ∃ m, m = memberI d s := ⟨_, rfl⟩
  obtain ⟨v, hv⟩ : ∃ v, v = victimI (d : Int) a b := ⟨_, rfl⟩
  rw [← hp] at P1 P2
  rw [← hm] at M1 M2
  rw [← hv] at V1 V2 hvf
  have pp : (p != p) = false := by simp
  have mm : (m != m) = false := by simp
  have vv : (v == v) = true := by simp
  have HT := Lib.hid hT
  clear hp hm hv hT
  go_enter Tryd.func3, Tryd.ntmps3
  go_wp2_with fail
  refine (P1.out _).mono ?_
  rintro e w1 ⟨rfl, rfl⟩
  go_wp2_with fail
  refine (P2.out _).mono ?_
  rintro e w1 ⟨rfl, rfl⟩
  go_wp2_with fail
  refine (M1.out _ HT.out).mono ?_
  rintro e w1 ⟨rfl, rfl⟩
  go_wp2_with fail
  refine (M2.out _).mono ?_
  rintro e w1 ⟨rfl, C1⟩
  go_wp2_with fail
  refine (awake_any _).mono ?_
  rintro e w2 ⟨rfl, C2⟩
  have C := C1.then C2 (by simp)
  go_wp2_with fail
  refine (V1.out _).mono ?_
  rintro e w3 ⟨rfl, rfl⟩
  go_wp2_with fail
  refine (V2.out _).mono ?_
  rintro e w3 ⟨rfl, rfl⟩
  rcases hvf with h | ⟨h1, h2⟩
  · have h3 : decide (v < 0) = true := decide_eq_true h
    go_wp2_with fail
    go_ret
    exact ⟨rfl, C⟩
  · have h3 : (v != a) = true := by simpa using h1
    have h4 : decide (v < b) = true := decide_eq_true h2
    by_cases h : v < 0
    · have h5 : decide (v < 0) = true := decide_eq_true h
      go_wp2_with fail
      go_ret
      exact ⟨rfl, C⟩
    · have h5 : decide (v < 0) = false := decide_eq_false h
      go_wp2_with fail
      go_ret
      exact ⟨rfl, C⟩

namespace lotPicks
open Go.ChangeShapes Go.WideShapes Go.ChangeAt Go.WideMaps Go.WideElems Go.RowKit
def laidT : List (String × DataW Unit) := [("math/bits.deBruijn64tab", Rows.laid_math_bits_deBruijn64tab)]
theorem laid_is : laidT = [("math/bits.deBruijn64tab", Lib.tabData .u8 (Lib.deBruijn64tab.map Int.ofNat))] := rfl
theorem gTab : Tryd.prog.globalNamed "math/bits.deBruijn64tab" = some 0 := by kernel_rfl
theorem tTab : (Tryd.prog.globals[0]?).map (·.type) = some 36 := by kernel_rfl
theorem door_met (os : Os) (args : Array Value) : laidMetH Tryd.prog laidT ((World.doorLaid Tryd.prog 400 os).forCall (fun _ _ => 0) ⟨#[], args, []⟩).memory :=
  laidMetH_of_parts3 (fuel := 8) (laidMet_of_run' 8 (by kernel_rfl) (by kernel_rfl)) (by kernel_rfl) (by kernel_rfl)
theorem tab_of_laid {W : World} (h : laidMetH Tryd.prog laidT W) : TabW W := by
  rw [MakeChecks.laidMetH_plain _ _ _ (by kernel_rfl), laid_is] at h
  have ht := Lib.tabIs_of_head gTab tTab Tryd.underlying36 Tryd.underlying5 (by kernel_rfl) (by kernel_rfl) h
  intro j hj
  have hc := World.var?_cell gTab ht j
  rw [hc]
  simp only [List.map_map, List.getElem?_toArray, List.getElem?_map, List.getElem?_eq_getElem hj, Option.map_some, Function.comp, List.getD, Option.getD_some]
  rfl
theorem own : ownKnob Tryd.prog.godebug = none := by kernel_rfl

set_option maxRecDepth 100000 in
theorem lifted (os : Os) (started : os.Started) (H : Type) (enc : TypeId × Value → H) :
    ReturnsInHanded {} Tryd.checked os 3 .any (fun w args => (Rows.lotPicksSpec.pre enc Tryd.prog Tryd.f3 [] false w args ∧ laidMetH Tryd.prog laidT w) ∧ sizedMet enc Tryd.prog Tryd.f3 (OpenSpec.ofChange Rows.lotPicksSpec) false w args)
      (Rows.lotPicksSpec.post enc Tryd.prog Tryd.f3 false true false false) := by
  refine returnsInHanded_of_change_and (C := Tryd.checked) (X := fun w _ => laidMetH Tryd.prog laidT w) (fun _ _ _ hh h => h.of_heap hh) own started (by kernel_rfl) Tryd.func3
    (ChangeSpec.witness_shaped (enc := enc) (C := Tryd.checked) (os := os) (X := fun w _ => laidMetH Tryd.prog laidT w) false (World.doorLaid Tryd.prog 400 os) #[.int .u64 0, .int .i64 0, .int .i64 0, .int .u64 0] 8 rfl (World.shaped_of_RefB (by kernel_rfl) (by kernel_rfl)) (by kernel_rfl) (by kernel_rfl) (by kernel_rfl) (door_met os _)) ?_
  intro W base args ds gs before hval0 hW _ _ hLaid _
  have hval : ∀ (j : Nat) t v, Tryd.f3.params[j]? = some t → args[j]? = some v → Value.okWide Tryd.prog W .any base t v := hval0
  have hW' := hW
  obtain ⟨p, q, hA0, hV, rfl, hfz, hnd⟩ := hW
  have hA : DataW.TrodAll enc Tryd.prog W 0 (fun _ => true) true Tryd.f3.params.toList args.toList ds p := hA0
  rw [Tryd.params3] at hA hval
  obtain ⟨v0, vs0, d0, ds0, p0, q0, hargs, rfl, rfl, h0, r0⟩ := trodAll_cons hA
  obtain ⟨v1, vs1, d1, ds1, p1, q1, rfl, rfl, rfl, h1, r1⟩ := trodAll_cons r0
  obtain ⟨v2, vs2, d2, ds2, p2, q2, rfl, rfl, rfl, h2, r2⟩ := trodAll_cons r1
  obtain ⟨v3, vs3, d3, ds3, p3, q3, rfl, rfl, rfl, h3, r3⟩ := trodAll_cons r2
  obtain ⟨rfl, rfl, rfl⟩ := trodAll_nil r3
  obtain rfl : args = #[v0, v1, v2, v3] := by cases args; simp_all
  obtain ⟨rfl, rfl⟩ := trodVars_none hV
  obtain ⟨a0, rfl, rfl, rfl, w0⟩ := open_int Tryd.underlying22 (hval 0 22 v0 rfl rfl) h0
  obtain ⟨n0, rfl, hn0⟩ := nat_u64 w0
  obtain ⟨a1, rfl, rfl, rfl, w1⟩ := open_int Tryd.underlying3 (hval 1 3 v1 rfl rfl) h1
  have b1 := bounds_i64 w1
  obtain ⟨a2, rfl, rfl, rfl, w2⟩ := open_int Tryd.underlying3 (hval 2 3 v2 rfl rfl) h2
  have b2 := bounds_i64 w2
  obtain ⟨a3, rfl, rfl, rfl, w3⟩ := open_int Tryd.underlying22 (hval 3 22 v3 rfl rfl) h3
  obtain ⟨n3, rfl, hn3⟩ := nat_u64 w3
  clear hA0 hval0
  simp only [List.append_nil] at hW'
  refine (lotPicks_walk W (tab_of_laid hLaid) n0 hn0 a1 b1.1 b1.2 a2 b2.1 b2.2 n3 hn3).mono fun e W' ⟨he, hg⟩ => ?_
  subst he
  exact ⟨_, rfl, _, _, _, [], _, [], hW', trodAll_mk1 (shut_bool Tryd.underlying4 _), (trodAll_cons_mk (shut_int Tryd.underlying22 w0) (trodAll_cons_mk (shut_int Tryd.underlying3 w1) (trodAll_cons_mk (shut_int Tryd.underlying3 w2) (trodAll_cons_mk (shut_int Tryd.underlying22 w3) trodAll_mk0)))), rfl, hg.below.frame _, fun h => by cases h⟩

theorem over : Rows.lotPicksRow.holds Tryd.pinned (OpenSpec.ofChange Rows.lotPicksSpec) :=
  OpenClaim.holds_of_wide 3 Tryd.f3 rfl rfl rfl rfl rfl rfl rfl ⟨rfl, rfl, rfl, rfl, rfl⟩ rfl rfl rfl rfl rfl (by kernel_rfl) Tryd.func3 (by kernel_rfl)
    (of_decide_eq_true (by kernel_rfl)) (by unfold Func.isWrapper; first | (rw [if_pos (by decide +kernel)]; kernel_rfl) | (rw [if_neg (by decide +kernel)]; exact ⟨rfl, rfl⟩))
    (fun os started H enc _ => lifted os started H enc)
end lotPicks

theorem lotPicks_holds : Rows.LotPicksSaid := lotPicks.over
theorem lotPicks_card : Rows.LotPicksCardSaid :=
  Claim7.holds_tied_plain_at .later [] [.data] true Rows.lotPicksCard.stood.harness false
    lotPicks_holds (fun _ h => by cases h) (by kernel_rfl) (fun _ h => by cases h) lotPicks_row_tie rfl ⟨rfl, rfl⟩ (by kernel_rfl) rfl
    (fun f fn hf hfn => by
      obtain rfl : f = 3 := Option.some.inj ((show Tryd.prog.funcNamed "bosun/bosunlaw11.LotPicks" = some 3 by kernel_rfl).symm.trans hf) |>.symm
      obtain rfl : fn = Tryd.f3 := (Option.some.inj (Tryd.func3.symm.trans hfn)).symm
      exact ⟨by kernel_rfl, fun j t ht => by
        rw [Tryd.params3] at ht
        have hm : t ∈ [22, 3, 3, 22] := by simpa using Array.mem_of_getElem? ht
        have hall : ([22, 3, 3, 22].all fun u => !Tryd.prog.wantsStandIn u) = true := by kernel_rfl
        exact (show Tryd.prog.wantsStandIn t = false by simpa using List.all_eq_true.1 hall t hm)⟩)
    (by kernel_rfl)
#print axioms lotPicks_card
end Go.Proofs.YtfmigdlkbnjnfaaDoor

