/- For every self and n the law LotVictims returns true: each other processor of k is the victim of some draw below k - 1. No conditions. -/
import Derived.Test.YtdnholkhdjnamaaRows
import Derived.Test.YtdnholkhdjnamaaLot2
import Derived.ProofKit
import Derived.OpenShut
namespace Go.Proofs.Ytdnholkhdjnamaa
open Go.RowKit Bosun

/-- The place of another one, seen from me: how many stand between. -/
def gapOf (k me j : Nat) : Nat := if me < j then j - me - 1 else j + (k - 1 - me)
/-- Who was met by the draws below d. -/
def metBy (k me d : Nat) : Nat := ofBits 64 fun j => decide (j < k) && (decide (j ≠ me) && decide (gapOf k me j < d))
def vic (k me d : Nat) : Nat := if d < k - 1 - me then me + 1 + d else d - (k - 1 - me)

theorem vic_is (k me d : Nat) (hd : d < k - 1) (hme : me < k) : victimI d me k = (vic k me d : Int) := by
  have e : (d : Int) % ((k : Int) - 1) = d := Int.emod_eq_of_lt (by omega) (by omega)
  unfold victimI vic
  rw [if_neg (by omega), e]
  split <;> split <;> omega
theorem vic_lt (k me d : Nat) (hd : d < k - 1) (hme : me < k) : vic k me d < k := by unfold vic; split <;> omega
theorem vic_ne (k me d : Nat) (hd : d < k - 1) (hme : me < k) : vic k me d ≠ me := by unfold vic; split <;> omega
theorem vic_gap (k me d : Nat) (hd : d < k - 1) (hme : me < k) : gapOf k me (vic k me d) = d := by unfold gapOf vic; split <;> split <;> omega
theorem gap_inj (k me d j : Nat) (hme : me < k) (hj : j < k) (_hne : j ≠ me) (h : gapOf k me j = d) : j = vic k me d := by
  subst h; unfold gapOf vic; split <;> split <;> omega
theorem metBy_zero (k me : Nat) : metBy k me 0 = 0 := by
  apply Nat.eq_of_testBit_eq
  intro j
  simp [metBy, ofBits_testBit]
theorem metBy_lt (k me d : Nat) : metBy k me d < 18446744073709551616 := by unfold metBy; simpa using ofBits_lt 64 _
theorem metBy_fresh (k me d : Nat) (_hk : k ≤ 64) (hd : d < k - 1) (hme : me < k) : has (metBy k me d) (vic k me d : Nat) = false := by
  have := vic_gap k me d hd hme
  simp [has, metBy, ofBits_testBit, this]
theorem metBy_step (k me d : Nat) (hd : d < k - 1) (hme : me < k) : put (metBy k me d) (vic k me d : Nat) true = metBy k me (d + 1) := by
  refine ofBits_congr fun j hj => ?_
  have h1 := vic_lt k me d hd hme
  have h2 := vic_ne k me d hd hme
  have h3 := vic_gap k me d hd hme
  simp only [metBy, ofBits_testBit, hj, decide_true, Bool.true_and]
  by_cases e : j = vic k me d
  · subst e
    rw [if_pos rfl, h3]
    simp [h1, h2]
  · rw [if_neg (by omega)]
    by_cases hjk : j < k
    · by_cases hjm : j = me
      · simp [hjm]
      · have : gapOf k me j ≠ d := fun h => e (gap_inj k me d j hme hjk hjm h)
        have e2 : (gapOf k me j < d) = (gapOf k me j < d + 1) := propext ⟨fun h => by omega, fun h => by omega⟩
        simp only [e2]
    · simp [hjk]
theorem metBy_all (k me : Nat) (hk : k ≤ 64) (hme : me < k) : put (metBy k me (k - 1)) (me : Nat) true = allBelow k := by
  refine ofBits_congr fun j hj => ?_
  simp only [metBy, ofBits_testBit, hj, decide_true, Bool.true_and]
  by_cases e : j = me
  · subst e
    rw [if_pos rfl]; simp; omega
  · rw [if_neg (by omega)]
    have h1 : j < k → gapOf k me j < k - 1 := by unfold gapOf; split <;> omega
    by_cases hjk : j < k
    · simp [hjk, e, h1 hjk]
    · simp [hjk]

set_option maxHeartbeats 1600000 in
theorem lotVictims_walk (a b : Nat) (ha : a < 256) (hb : b < 256) (w : World) :
    Calls Try.prog 3 #[.int .u8 a, .int .u8 b] w fun e w' => e = .returned (.bool true) ∧ Chg [] w w' := by
  obtain ⟨k, hk⟩ : ∃ k, k = 2 + b % 63 := ⟨_, rfl⟩
  obtain ⟨me, hme⟩ : ∃ me, me = a % k := ⟨_, rfl⟩
  have hk1 : 2 ≤ k := by omega
  have hk2 : k ≤ 64 := by omega
  have hm : me < k := by rw [hme]; exact Nat.mod_lt _ (by omega)
  have HK := Lib.hid hk
  have HM := Lib.hid hme
  have hbk : (2 : Int) + (b : Int) % 63 = (k : Int) := by omega
  have hak : (a : Int) % (k : Int) = (me : Int) := by rw [hme]; simp
  clear hk hme
  go_enter Try.func3, Try.ntmps3
  go_wp2
  rw [hak]
  clear hak hbk
  go_loopw [7, 8] (fun x i wr => ∃ d : Nat, d ≤ k - 1 ∧ i = .int .i64 d ∧ x = .int .u64 (metBy k me d : Nat) ∧ Chg [] w wr)
    (fun _ i _ => 64 - (intOf i).toNat)
  case atStart => exact ⟨0, by omega, rfl, by rw [metBy_zero]; rfl, Chg.refl _ _⟩
  case round =>
    obtain ⟨d, hd, rfl, rfl, H⟩ := hrel
    have hlt := metBy_lt k me d
    by_cases hdk : d < k - 1
    · have hvi := vic_is k me d hdk hm
      have h1 := vic_lt k me d hdk hm
      have h2 := vic_ne k me d hdk hm
      have hf := metBy_fresh k me d hk2 hdk hm
      have hs := metBy_step k me d hdk hm
      obtain ⟨v, hv⟩ : ∃ v, v = vic k me d := ⟨_, rfl⟩
      obtain ⟨y, hy⟩ : ∃ y, y = metBy k me d := ⟨_, rfl⟩
      rw [← hv] at hvi h1 h2 hf hs
      rw [← hy] at hf hs hlt ⊢
      clear hv hy
      have HVI := Lib.hid hvi
      have HF := Lib.hid hf
      have HS := Lib.hid hs
      have hne : ((v : Int) == (me : Int)) = false := by simp; omega
      clear hvi hf hs
      go_wp2_with (first
        | (go_at_call 6; refine (victim_any _ _ _ (by omega) (by omega) (by omega) (by omega) (by omega) (by omega) _).mono ?_; rw [HVI.out]; rintro e w1 ⟨rfl, rfl⟩)
        | (go_at_call 7; refine (has_any y hlt _ _).mono ?_; rw [HF.out]; rintro e w1 ⟨rfl, H1⟩)
        | (go_at_call 8; refine (put_any y hlt _ _ _).mono ?_; rw [HS.out]; rintro e w2 ⟨rfl, H2⟩))
      go_roundw
      case rel => exact ⟨d + 1, by omega, by go_num, rfl, (H.then H1 (by simp)).then H2 (by simp)⟩
      case measure => simp [intOf] <;> omega
    · obtain rfl : d = k - 1 := by omega
      have hs := metBy_all k me hk2 hm
      obtain ⟨y, hy⟩ : ∃ y, y = metBy k me (k - 1) := ⟨_, rfl⟩
      rw [← hy] at hs hlt ⊢
      clear hy
      have HS := Lib.hid hs
      clear hs
      obtain ⟨z, hz⟩ : ∃ z, z = allBelow k := ⟨_, rfl⟩
      have HZ := Lib.hid hz
      clear hz
      have hkk : ((k - 1 : Nat) : Int) = (k : Int) - 1 := by omega
      rw [hkk]
      clear hkk
      go_wp2_with (first
        | (go_at_call 8; refine (put_any y hlt _ _ _).mono ?_; rw [HS.out, ← HZ.out]; rintro e w1 ⟨rfl, H1⟩)
        | (go_at_call 9; refine (all_any _ (by omega) (by omega) _).mono ?_; rw [← HZ.out]; rintro e w2 ⟨rfl, H2⟩)
        | (go_at_call 10; refine (awake_any _).mono ?_; rintro e w3 ⟨rfl, H3⟩))
      go_ret
      exact ⟨rfl, ((H.then H1 (by simp)).then H2 (by simp)).then H3 (by simp)⟩

namespace lotVictims
open Go.ChangeShapes Go.WideShapes Go.ChangeAt
theorem own : ownKnob Try.prog.godebug = none := by kernel_rfl
theorem toNat_u8 {a : Int} (h : (Lit.int .u8 a).wf = true) : ∃ n : Nat, a = n ∧ n < 256 := by
  have h1 := bounds_u8 h
  exact ⟨a.toNat, by omega, by omega⟩

set_option maxRecDepth 100000 in
theorem lifted (os : Os) (started : os.Started) (H : Type) (enc : TypeId × Value → H) :
    ReturnsInHanded {} Try.checked os 3 .any (Rows.lotVictimsSpec.pre6 enc Try.prog Try.f3 Rows.lotVictimsRow.domain false) (Rows.lotVictimsSpec.post enc Try.prog Try.f3 false true false false) := by
  refine returnsInHanded_of_change (C := Try.checked) own started (by kernel_rfl) Try.func3
    (ChangeSpec.witness6 (enc := enc) (C := Try.checked) false ⟨#[], #[.int .u8 0, .int .u8 0], []⟩ 8 (by kernel_rfl) (by kernel_rfl) (by kernel_rfl) (by kernel_rfl)) ?_
  intro W base args ds gs before hval0 hW hcnd _
  have hval : ∀ (j : Nat) t v, Try.f3.params[j]? = some t → args[j]? = some v → Value.okWide Try.prog W .any base t v := hval0
  have hW' := hW
  obtain ⟨p, q, hA0, hV, rfl, hfz, hnd⟩ := hW
  have hA : DataW.TrodAll enc Try.prog W 0 (fun _ => true) true Try.f3.params.toList args.toList ds p := hA0
  rw [Try.params3] at hA hval
  obtain ⟨v0, vs0, d0, ds0, p0, q0, hargs, rfl, rfl, h0, r0⟩ := trodAll_cons hA
  obtain ⟨v1, vs1, d1, ds1, p1, q1, rfl, rfl, rfl, h1, r1⟩ := trodAll_cons r0
  obtain ⟨rfl, rfl, rfl⟩ := trodAll_nil r1
  obtain rfl : args = #[v0, v1] := by cases args; simp_all
  obtain ⟨rfl, rfl⟩ := trodVars_none hV
  obtain ⟨a0, rfl, rfl, rfl, w0⟩ := open_int Try.underlying5 (hval 0 5 v0 rfl rfl) h0
  obtain ⟨a1, rfl, rfl, rfl, w1⟩ := open_int Try.underlying5 (hval 1 5 v1 rfl rfl) h1
  clear hA0 hval0
  simp only [List.append_nil] at hW'
  obtain ⟨n0, rfl, hn0⟩ := toNat_u8 w0
  obtain ⟨n1, rfl, hn1⟩ := toNat_u8 w1
  refine (lotVictims_walk n0 n1 hn0 hn1 W).mono fun e W' ⟨he, hg⟩ => ?_
  subst he
  exact ⟨_, rfl, _, _, _, [], _, [], hW', trodAll_mk1 (shut_bool Try.underlying4 _), (trodAll_cons_mk (shut_int Try.underlying5 w0) (trodAll_cons_mk (shut_int Try.underlying5 w1) trodAll_mk0)), rfl, hg.below.frame _, fun h => by cases h⟩

theorem over : Rows.lotVictimsRow.holds Try.pinned (OpenSpec.ofChange Rows.lotVictimsSpec) :=
  OpenClaim.holds_of_wide 3 Try.f3 rfl rfl rfl rfl rfl rfl rfl ⟨rfl, rfl, rfl, rfl, rfl⟩ rfl rfl rfl rfl rfl (by kernel_rfl) Try.func3 (by kernel_rfl)
    (of_decide_eq_true (by kernel_rfl)) (by unfold Func.isWrapper; first | (rw [if_pos (by decide +kernel)]; kernel_rfl) | (rw [if_neg (by decide +kernel)]; exact ⟨rfl, rfl⟩))
    (fun os started H enc _ => lifted os started H enc)
end lotVictims

theorem lotVictims_holds : Rows.LotVictimsSaid := lotVictims.over
#print axioms lotVictims_holds
end Go.Proofs.Ytdnholkhdjnamaa
