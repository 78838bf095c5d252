/- kin, plainly: the page's rows of threads, and how the program's sets and codes stand to them. No program in sight. -/
import Derived.Test.YtiidlbicdkmloaaSets0
import Derived.Test.YtiidlbicdkmloaaBase
import Derived.Test.YtiidlbicdkmloaaKinS
import Derived.Test.YtiidlbicdkmloaaKin4
namespace Bosun
open Go Go.Proofs.Ytiidlbicdkmloaa
/-- A place's thread: its state (0 none, 1 alive, 2 over), is it loose, its code. -/
structure K3 where
  st : Nat
  lo : Bool
  cd : Nat
def cell3 (S : Nat → K3) (i : Nat) : Value := if i % 3 = 0 then .int .i64 ((S (i / 3)).st : Nat) else if i % 3 = 1 then .bool (S (i / 3)).lo else .int .u64 ((S (i / 3)).cd : Nat)
def row3 (S : Nat → K3) : Array Value := ((List.range 192).map (cell3 S)).toArray
def set3 (S : Nat → K3) (k : Nat) (x : K3) : Nat → K3 := fun i => if i = k then x else S i
theorem row3_size (S : Nat → K3) : (row3 S).size = 192 := by simp [row3]
theorem row3_get (S : Nat → K3) {j : Nat} (h : j < 192) : (row3 S)[j]? = some (cell3 S j) := by simp [row3, h]
theorem row3_get0 (S : Nat → K3) {k : Nat} (h : k < 64) : (row3 S)[k * 3]? = some (.int .i64 ((S k).st : Nat)) := by
  rw [row3_get S (by omega)]; unfold cell3; rw [if_pos (by omega), show k * 3 / 3 = k from by omega]
theorem row3_get1 (S : Nat → K3) {k : Nat} (h : k < 64) : (row3 S)[k * 3 + 1]? = some (.bool (S k).lo) := by
  rw [row3_get S (by omega)]; unfold cell3; rw [if_neg (by omega), if_pos (by omega), show (k * 3 + 1) / 3 = k from by omega]
theorem row3_get2 (S : Nat → K3) {k : Nat} (h : k < 64) : (row3 S)[k * 3 + 2]? = some (.int .u64 ((S k).cd : Nat)) := by
  rw [row3_get S (by omega)]; unfold cell3; rw [if_neg (by omega), if_neg (by omega), show (k * 3 + 2) / 3 = k from by omega]
theorem row3_put (S : Nat → K3) (k : Nat) (x : K3) (cur : Array Value) (hk : k < 64) (hs : cur.size = 192)
    (h : ∀ j, cur[j]? = if k * 3 ≤ j ∧ j < k * 3 + 3 then [Value.int .i64 (x.st : Nat), .bool x.lo, .int .u64 (x.cd : Nat)][j - k * 3]? else (row3 S)[j]?) : cur = row3 (set3 S k x) := by
  apply Array.ext_getElem?
  intro i
  rw [h i]
  by_cases hi : i < 192
  · rw [row3_get _ hi, row3_get _ hi]
    unfold cell3 set3
    by_cases c : k * 3 ≤ i ∧ i < k * 3 + 3
    · rw [if_pos c]
      rcases (show i = k * 3 ∨ i = k * 3 + 1 ∨ i = k * 3 + 2 by omega) with rfl | rfl | rfl
      · rw [if_pos (by omega), show k * 3 / 3 = k from by omega, if_pos rfl, Nat.sub_self]; rfl
      · rw [if_neg (by omega), if_pos (by omega), show (k * 3 + 1) / 3 = k from by omega, if_pos rfl, show k * 3 + 1 - k * 3 = 1 from by omega]; rfl
      · rw [if_neg (by omega), if_neg (by omega), show (k * 3 + 2) / 3 = k from by omega, if_pos rfl, show k * 3 + 2 - k * 3 = 2 from by omega]; rfl
    · rw [if_neg c, if_neg (show i / 3 ≠ k from by omega)]
  · have e : ∀ S : Nat → K3, (row3 S)[i]? = none := fun S => by rw [Array.getElem?_eq_none]; rw [row3_size]; omega
    rw [e, e, if_neg (by omega)]
theorem row3_one (S : Nat → K3) : (row3 S).all (·.oneCell') = true := by
  simp only [row3, List.all_toArray, List.all_map, List.all_eq_true]
  intro i _
  simp only [Function.comp, cell3]
  split
  · rfl
  · split <;> rfl

/-- What is wrong with a place that should be in a state. -/
def wrongR (S : Nat → K3) (z : Int) (s : Nat) : Int := if ¬ (0 ≤ z ∧ z < 64) then 5 else if (S z.toNat).st = 0 then 7 else if (S z.toNat).st ≠ s then 14 else 0
def bornR (S : Nat → K3) (z : Int) : Bool := decide (0 ≤ z ∧ z < 64) && decide ((S z.toNat).st = 0)
/-- The set of places of which something holds. -/
def foldS (p : Nat → Bool) : Nat → Nat
  | 0 => 0
  | k + 1 => if p k then foldS p k ||| bitN k else foldS p k
theorem foldS_testBit (p : Nat → Bool) (k : Nat) (hk : k ≤ 64) (j : Nat) : (foldS p k).testBit j = (decide (j < k) && p j) := by
  induction k with
  | zero => simp [foldS]
  | succ k ih =>
    unfold foldS
    by_cases h : p k = true
    · rw [if_pos h, Nat.testBit_or, ih (by omega), bitN_in (by omega), Nat.testBit_two_pow]
      by_cases e : k = j
      · subst e; simp [h]
      · have : decide (k = j) = false := by simp [e]
        rw [this, Bool.or_false]
        congr 1
        exact decide_eq_decide.2 ⟨fun _ => by omega, fun _ => by omega⟩
    · rw [if_neg h, ih (by omega)]
      by_cases e : k = j
      · subst e; simp at h; simp [h]
      · congr 1
        exact decide_eq_decide.2 ⟨fun _ => by omega, fun _ => by omega⟩
theorem foldS_lt (p : Nat → Bool) : ∀ k, foldS p k < 18446744073709551616
  | 0 => by simp [foldS]
  | k + 1 => by
    unfold foldS
    split
    · exact Nat.or_lt_two_pow (n := 64) (foldS_lt p k) (bitN_lt k)
    · exact foldS_lt p k
theorem foldS_put (p : Nat → Bool) (k : Nat) (hk : k < 64) (h : p k = true) : put (foldS p k) k true = foldS p (k + 1) := by
  apply Nat.eq_of_testBit_eq
  intro j
  rw [put_testBit, foldS_testBit p (k + 1) (by omega), foldS_testBit p k (by omega)]
  by_cases e : j = k
  · subst e; rw [if_pos rfl]; simp [h]; omega
  · rw [if_neg (by omega)]
    by_cases hj : j < k
    · have a : decide (j < 64) = true := by simp; omega
      have b : decide (j < k) = true := by simp; omega
      have c : decide (j < k + 1) = true := by simp; omega
      rw [a, b, c]; simp
    · have b : decide (j < k) = false := by simp; omega
      have c : decide (j < k + 1) = false := by simp; omega
      rw [b, c]; simp
theorem foldS_skip (p : Nat → Bool) (k : Nat) (h : p k = false) : foldS p k = foldS p (k + 1) := by
  conv => rhs; unfold foldS
  rw [h]; rfl
theorem leftS_foldS (c : Int → Option Nat) : ∀ k, leftS c k = foldS (fun i => (c i).isSome) k
  | 0 => rfl
  | k + 1 => by unfold leftS foldS; rw [leftS_foldS c k]
theorem foldS_congr {p q : Nat → Bool} : ∀ k, (∀ j, j < k → p j = q j) → foldS p k = foldS q k
  | 0, _ => rfl
  | k + 1, h => by unfold foldS; rw [foldS_congr k (fun j hj => h j (by omega)), h k (by omega)]
theorem and_bitN (s i : Nat) (h : i < 64) : (s &&& bitN i != 0) = s.testBit i := by
  rw [bitN_in h]
  cases e : s.testBit i with
  | true =>
    have h1 : (s &&& 2 ^ i).testBit i = true := by rw [Nat.testBit_and, e, Nat.testBit_two_pow_self]; rfl
    have h2 : s &&& 2 ^ i ≠ 0 := fun h0 => by rw [h0] at h1; simp at h1
    simpa using h2
  | false =>
    have h2 : s &&& 2 ^ i = 0 := by
      apply Nat.eq_of_testBit_eq
      intro j
      rw [Nat.testBit_and, Nat.testBit_two_pow, Nat.zero_testBit]
      by_cases hj : i = j
      · subst hj; rw [e]; rfl
      · simp [hj]
    simp [h2]
theorem lessN_testBit (s i : Nat) (h : i < 64) (hs : s < 18446744073709551616) (j : Nat) : (s &&& (18446744073709551615 - bitN i)).testBit j = (s.testBit j && decide (j ≠ i)) := by
  rw [Nat.testBit_and, bitN_in h]
  by_cases hj : j < 64
  · have e : (18446744073709551615 - 2 ^ i) = 2 ^ 64 - (2 ^ i + 1) := by omega
    rw [e, Nat.testBit_two_pow_sub_succ (by have := Nat.pow_lt_pow_right (a := 2) (by omega) h; simpa using this)]
    rw [Nat.testBit_two_pow]
    have a : decide (j < 64) = true := by simp; omega
    rw [a]
    by_cases e2 : i = j <;> simp [e2, Ne.symm] <;> omega
  · rw [bits_above hs (by omega)]; simp

/-- The program's sets and codes tell the page's rows. -/
structure SimK (al lo : Nat) (c : Int → Option Nat) (S : Nat → K3) : Prop where
  alt : al < 18446744073709551616
  lot : lo < 18446744073709551616
  alive : ∀ i, i < 64 → al.testBit i = decide ((S i).st = 1)
  loose : ∀ i, i < 64 → (S i).st = 1 → lo.testBit i = (S i).lo
  codes : ∀ i : Nat, i < 64 → c i = if (S i).st = 2 then some (S i).cd else none
  out : ∀ z : Int, ¬ (0 ≤ z ∧ z < 64) → c z = none
  st : ∀ i, i < 64 → (S i).st ≤ 2
  small : ∀ i, i < 64 → (S i).cd < 18446744073709551616
theorem SimK.start : SimK 0 0 (fun _ => none) (fun _ => ⟨0, false, 0⟩) :=
  ⟨by omega, by omega, by simp, by simp, by simp, by simp, by simp, by simp⟩
section
variable {al lo : Nat} {c : Int → Option Nat} {S : Nat → K3}
theorem SimK.set (h : SimK al lo c S) : al = foldS (fun i => (S i).st == 1) 64 := by
  apply Nat.eq_of_testBit_eq
  intro j
  rw [foldS_testBit _ 64 (by omega)]
  by_cases hj : j < 64
  · rw [h.alive j hj]; simp only [hj, decide_true, Bool.true_and]; cases e : ((S j).st == 1) <;> simp at e ⊢ <;> exact e
  · rw [bits_above h.alt (by omega)]; simp [hj]
theorem SimK.left (h : SimK al lo c S) : leftS c 64 = foldS (fun i => (S i).st == 2) 64 := by
  rw [leftS_foldS]
  refine foldS_congr 64 fun j hj => ?_
  rw [h.codes j hj]
  by_cases e : (S j).st = 2 <;> simp [e]
theorem SimK.over (h : SimK al lo c S) (z : Int) : (c z).isSome = (decide (0 ≤ z ∧ z < 64) && (S z.toNat).st == 2) := by
  by_cases hz : 0 ≤ z ∧ z < 64
  · obtain ⟨k, rfl⟩ := Int.eq_ofNat_of_zero_le hz.1
    rw [h.codes k (by omega)]
    simp only [Int.toNat_natCast, hz, and_self, decide_true, Bool.true_and]
    by_cases e : (S k).st = 2 <;> simp [e]
  · rw [h.out z hz]; simp [hz]
theorem SimK.has (h : SimK al lo c S) {k : Nat} (hk : k < 64) : (al &&& bitN k != 0) = decide ((S k).st = 1) := by
  rw [and_bitN al k hk, h.alive k hk]
theorem SimK.wrong1 (h : SimK al lo c S) (z : Int) : wrongK al c z true = wrongR S z 1 := by
  unfold wrongK wrongR
  by_cases hz : 0 ≤ z ∧ z < 64
  · obtain ⟨k, rfl⟩ := Int.eq_ofNat_of_zero_le hz.1
    have hk : k < 64 := by omega
    have h2 := h.st k hk
    have h3 : (c k).isSome = ((S k).st == 2) := by rw [h.codes k hk]; by_cases e : (S k).st = 2 <;> simp [e]
    have h4 : ¬ ¬ (0 ≤ (k : Int) ∧ (k : Int) < 64) := by omega
    rw [if_neg h4, if_neg h4, h.has hk, h3]
    simp only [Int.toNat_natCast]
    rcases (show (S k).st = 0 ∨ (S k).st = 1 ∨ (S k).st = 2 by omega) with e | e | e <;> simp [e]
  · rw [if_pos hz, if_pos hz]
theorem SimK.wrong2 (h : SimK al lo c S) (z : Int) : wrongK al c z false = wrongR S z 2 := by
  unfold wrongK wrongR
  by_cases hz : 0 ≤ z ∧ z < 64
  · obtain ⟨k, rfl⟩ := Int.eq_ofNat_of_zero_le hz.1
    have hk : k < 64 := by omega
    have h2 := h.st k hk
    have h3 : (c k).isSome = ((S k).st == 2) := by rw [h.codes k hk]; by_cases e : (S k).st = 2 <;> simp [e]
    have h4 : ¬ ¬ (0 ≤ (k : Int) ∧ (k : Int) < 64) := by omega
    rw [if_neg h4, if_neg h4, h.has hk, h3]
    simp only [Int.toNat_natCast]
    rcases (show (S k).st = 0 ∨ (S k).st = 1 ∨ (S k).st = 2 by omega) with e | e | e <;> simp [e]
  · rw [if_pos hz, if_pos hz]
theorem set3_same (S : Nat → K3) (k : Nat) (x : K3) : set3 S k x k = x := if_pos rfl
theorem set3_other (S : Nat → K3) {k i : Nat} (x : K3) (h : i ≠ k) : set3 S k x i = S i := if_neg h
theorem SimK.born (h : SimK al lo c S) {k : Nat} (hk : k < 64) (h0 : (S k).st = 0) (loose : Bool) :
    SimK (al ||| bitN k) (if loose then lessN lo k ||| bitN k else lessN lo k) c (set3 S k ⟨1, loose, 0⟩) := by
  have hl := h.lot
  refine ⟨orN_lt h.alt (bitN_lt _), ?_, ?_, ?_, ?_, h.out, ?_, ?_⟩
  · cases loose
    · exact andN_lt hl
    · exact orN_lt (andN_lt hl) (bitN_lt _)
  · intro i hi
    rw [Nat.testBit_or, bitN_in hk, Nat.testBit_two_pow, h.alive i hi]
    by_cases e : k = i
    · subst e; rw [set3_same]; simp
    · rw [set3_other S _ (Ne.symm e)]; simp [e]
  · intro i hi hs
    by_cases e : i = k
    · subst e
      rw [set3_same]
      cases loose
      · simp only [Bool.false_eq_true, if_false]; unfold lessN; rw [lessN_testBit lo i hk hl]; simp
      · simp only [if_true]; rw [Nat.testBit_or, bitN_in hk, Nat.testBit_two_pow]; simp
    · rw [set3_other S _ e] at hs ⊢
      have := h.loose i hi hs
      cases loose
      · simp only [Bool.false_eq_true, if_false]; unfold lessN; rw [lessN_testBit lo k hk hl, this]; simp [e]
      · simp only [if_true]; rw [Nat.testBit_or, bitN_in hk, Nat.testBit_two_pow]; unfold lessN; rw [lessN_testBit lo k hk hl, this]; simp [e, Ne.symm e]
  · intro i hi
    by_cases e : i = k
    · subst e; rw [set3_same, h.codes i hi, h0]; simp
    · rw [set3_other S _ e]; exact h.codes i hi
  · intro i hi
    by_cases e : i = k
    · subst e; rw [set3_same]; simp
    · rw [set3_other S _ e]; exact h.st i hi
  · intro i hi
    by_cases e : i = k
    · subst e; rw [set3_same]; simp
    · rw [set3_other S _ e]; exact h.small i hi
def goneK (x : Option Nat) : K3 := match x with | some y => ⟨2, false, y⟩ | none => ⟨0, false, 0⟩
/-- Behind an end, or a reaping: the place is empty, or over. -/
theorem SimK.gone (h : SimK al lo c S) {k : Nat} (hk : k < 64) (al' : Nat) (ha : al' = al ∨ al' = lessN al k) (hs : al' = al → (S k).st ≠ 1) (x : Option Nat) (hx : ∀ y, x = some y → y < 18446744073709551616)
    (c' : Int → Option Nat) (hc : c' = updK c k x) :
    SimK al' lo c' (set3 S k (goneK x)) := by
  subst hc
  have st1 : (goneK x).st ≠ 1 ∧ (goneK x).st ≤ 2 ∧ (goneK x).cd < 18446744073709551616 ∧ x = (if (goneK x).st = 2 then some (goneK x).cd else none) := by
    cases x with
    | none => simp [goneK]
    | some y => simp [goneK]; exact hx y rfl
  obtain ⟨g1, g2, g3, g4⟩ := st1
  refine ⟨?_, h.lot, ?_, ?_, ?_, ?_, ?_, ?_⟩
  · rcases ha with rfl | rfl
    · exact h.alt
    · exact andN_lt h.alt
  · intro i hi
    by_cases e : i = k
    · subst e
      rw [set3_same]
      have : decide ((goneK x).st = 1) = false := by simpa using g1
      rw [this]
      rcases ha with e2 | e2
      · rw [e2, h.alive i hi]; simpa using hs e2
      · rw [e2]; unfold lessN; rw [lessN_testBit al i hi h.alt]; simp
    · rw [set3_other S _ e, ← h.alive i hi]
      rcases ha with e2 | e2
      · rw [e2]
      · rw [e2]; unfold lessN; rw [lessN_testBit al k hk h.alt]; simp [e]
  · intro i hi hs
    by_cases e : i = k
    · subst e; rw [set3_same] at hs; exact absurd hs g1
    · rw [set3_other S _ e] at hs ⊢; exact h.loose i hi hs
  · intro i hi
    unfold updK
    by_cases e : i = k
    · subst e; rw [set3_same, if_pos rfl]; exact g4
    · rw [set3_other S _ e, if_neg (by omega)]; exact h.codes i hi
  · intro z hz
    unfold updK
    rw [if_neg (fun e => hz (by rw [e]; omega))]
    exact h.out z hz
  · intro i hi
    by_cases e : i = k
    · subst e; rw [set3_same]; exact g2
    · rw [set3_other S _ e]; exact h.st i hi
  · intro i hi
    by_cases e : i = k
    · subst e; rw [set3_same]; exact g3
    · rw [set3_other S _ e]; exact h.small i hi
end
end Bosun
