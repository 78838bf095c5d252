/- plan: entries, their bytes, and back. No program. -/
import Derived.Test.YtjohbnfeijhcmaaDoorBase
namespace Bosun
open Go
/-- An entry of a script. -/
structure Ent where
  cpu : Int
  tick : Bool
  draw : Nat
  deriving DecidableEq
def Ent.cells (e : Ent) : List Value := [.int .i64 e.cpu, .bool e.tick, .int .u64 (e.draw : Nat)]
/-- Is the entry one that may be? -/
def Ent.good (e : Ent) (n : Int) : Prop := 0 ≤ e.cpu ∧ e.cpu < n ∧ e.cpu < 64
instance (e : Ent) (n : Int) : Decidable (e.good n) := inferInstanceAs (Decidable (_ ∧ _ ∧ _))
def Ent.small (e : Ent) : Prop := e.draw < 18446744073709551616
/-- A number of eight bytes, the high one first. -/
def num8 : List Nat → Nat := fun l => l.foldl (fun a b => a * 256 + b) 0
def bytes8 (d : Nat) : List Nat := [d / 72057594037927936 % 256, d / 281474976710656 % 256, d / 1099511627776 % 256, d / 4294967296 % 256, d / 16777216 % 256, d / 65536 % 256, d / 256 % 256, d % 256]
/-- The first byte. -/
def headE (e : Ent) : Nat := e.cpu.toNat + (if e.tick then 64 else 0)
def oneE (e : Ent) : List Nat := if e.draw = 0 then [headE e] else (headE e + 128) :: bytes8 e.draw
def encE (l : List Ent) : List Nat := l.flatMap oneE
def decE : Nat → List Nat → List Ent
  | 0, _ => []
  | _ + 1, [] => []
  | n + 1, f :: b =>
    if f < 128 then ⟨((f % 64 : Nat) : Int), decide (f / 64 % 2 = 1), 0⟩ :: decE n b
    else if b.length < 8 then [] else ⟨((f % 64 : Nat) : Int), decide (f / 64 % 2 = 1), num8 (b.take 8)⟩ :: decE n (b.drop 8)
theorem num8_bytes8 (d : Nat) (h : d < 18446744073709551616) : num8 (bytes8 d) = d := by
  simp only [num8, bytes8, List.foldl_cons, List.foldl_nil]; omega
theorem num8_small (l : List Nat) (h : l.length = 8) (hb : ∀ x ∈ l, x < 256) : num8 l < 18446744073709551616 := by
  match l, h with
  | [a, b, c, d, e, f, g, i], _ =>
    have := hb a (by simp); have := hb b (by simp); have := hb c (by simp); have := hb d (by simp)
    have := hb e (by simp); have := hb f (by simp); have := hb g (by simp); have := hb i (by simp)
    simp only [num8, List.foldl_cons, List.foldl_nil]; omega
theorem oneE_pos (e : Ent) : 1 ≤ (oneE e).length := by unfold oneE; split <;> simp
theorem decE_fuel (n : Nat) : ∀ (m : Nat) (b : List Nat), b.length ≤ n → b.length ≤ m → decE n b = decE m b := by
  induction n with
  | zero => intro m b h _; obtain rfl := List.eq_nil_of_length_eq_zero (Nat.le_zero.1 h); cases m <;> rfl
  | succ n ih =>
    intro m b h h2
    cases b with
    | nil => cases m <;> rfl
    | cons f b =>
      cases m with
      | zero => simp at h2
      | succ m =>
        simp only [List.length_cons] at h h2
        unfold decE
        rw [ih m b (by omega) (by omega), ih m (b.drop 8) (by rw [List.length_drop]; omega) (by rw [List.length_drop]; omega)]
/-- The script of bytes. -/
def dec (b : List Nat) : List Ent := decE b.length b
theorem dec_nil : dec [] = [] := rfl
theorem dec_low (f : Nat) (b : List Nat) (h : f < 128) : dec (f :: b) = ⟨((f % 64 : Nat) : Int), decide (f / 64 % 2 = 1), 0⟩ :: dec b := by
  unfold dec; simp only [List.length_cons]; rw [decE, if_pos h]
theorem dec_short (f : Nat) (b : List Nat) (h : ¬ f < 128) (h8 : b.length < 8) : dec (f :: b) = [] := by
  unfold dec; simp only [List.length_cons]; rw [decE, if_neg h, if_pos h8]
theorem dec_high (f : Nat) (b : List Nat) (h : ¬ f < 128) (h8 : ¬ b.length < 8) : dec (f :: b) = ⟨((f % 64 : Nat) : Int), decide (f / 64 % 2 = 1), num8 (b.take 8)⟩ :: dec (b.drop 8) := by
  unfold dec; simp only [List.length_cons]; rw [decE, if_neg h, if_neg h8, decE_fuel b.length (b.drop 8).length (b.drop 8) (by rw [List.length_drop]; omega) (Nat.le_refl _)]
theorem dec_one (e : Ent) (b : List Nat) (h : e.good 64) (hs : e.small) : dec (oneE e ++ b) = e :: dec b := by
  obtain ⟨c, t, d⟩ := e
  obtain ⟨h0, h1, _⟩ := h
  unfold Ent.small at hs
  simp only at h0 h1 hs
  obtain ⟨k, rfl⟩ := Int.eq_ofNat_of_zero_le h0
  have hk : k < 64 := by omega
  unfold oneE headE
  simp only [Int.toNat_natCast]
  by_cases hd : d = 0
  · subst hd
    rw [if_pos rfl]
    simp only [List.cons_append, List.nil_append]
    rw [dec_low _ _ (by split <;> omega)]
    cases t
    · simp; omega
    · simp; omega
  · rw [if_neg hd]
    simp only [List.cons_append]
    rw [dec_high _ _ (by omega) (by simp [bytes8])]
    have e1 : List.take 8 (bytes8 d ++ b) = bytes8 d := by simp [bytes8]
    have e2 : List.drop 8 (bytes8 d ++ b) = b := by simp [bytes8]
    rw [e1, e2, num8_bytes8 d hs]
    cases t
    · simp; omega
    · simp; omega
theorem dec_enc (l : List Ent) (h : ∀ e ∈ l, e.good 64 ∧ e.small) : dec (encE l) = l := by
  induction l with
  | nil => rfl
  | cons e l ih =>
    unfold encE
    rw [List.flatMap_cons, dec_one e _ (h e (by simp)).1 (h e (by simp)).2]
    congr 1
    exact ih fun x hx => h x (by simp [hx])
theorem dec_good (n : Nat) : ∀ (b : List Nat), b.length ≤ n → (∀ x ∈ b, x < 256) → (∀ e ∈ dec b, e.good 64 ∧ e.small) ∧ (encE (dec b)).length ≤ b.length ∧ (dec b).length ≤ b.length := by
  induction n with
  | zero => intro b h _; obtain rfl := List.eq_nil_of_length_eq_zero (Nat.le_zero.1 h); simp [dec_nil, encE]
  | succ n ih =>
    intro b h hb
    cases b with
    | nil => simp [dec_nil, encE]
    | cons f b =>
      simp only [List.length_cons] at h
      by_cases hf : f < 128
      · obtain ⟨i1, i2, i3⟩ := ih b (by omega) (fun x hx => hb x (by simp [hx]))
        rw [dec_low f b hf]
        refine ⟨?_, ?_, by simp only [List.length_cons]; omega⟩
        · intro e he
          rcases List.mem_cons.1 he with rfl | he
          · exact ⟨⟨by simp only; omega, by simp only; omega, by simp only; omega⟩, by unfold Ent.small; simp⟩
          · exact i1 e he
        · unfold encE at i2 ⊢
          rw [List.flatMap_cons, List.length_append]
          simp only [oneE, if_true, List.length_cons, List.length_nil]
          omega
      · by_cases h8 : b.length < 8
        · rw [dec_short f b hf h8]; simp [encE]
        · obtain ⟨i1, i2, i3⟩ := ih (b.drop 8) (by rw [List.length_drop]; omega) (fun x hx => hb x (by simp [List.mem_of_mem_drop hx]))
          rw [dec_high f b hf h8]
          rw [List.length_drop] at i2 i3
          refine ⟨?_, ?_, by simp only [List.length_cons]; omega⟩
          · intro e he
            rcases List.mem_cons.1 he with rfl | he
            · exact ⟨⟨by simp only; omega, by simp only; omega, by simp only; omega⟩, num8_small _ (by rw [List.length_take]; omega) (fun x hx => hb x (by simp [List.mem_of_mem_take hx]))⟩
            · exact i1 e he
          · unfold encE at i2 ⊢
            rw [List.flatMap_cons, List.length_append]
            have : ∀ e : Ent, (oneE e).length ≤ 9 := fun e => by unfold oneE bytes8; split <;> simp
            have := this ⟨((f % 64 : Nat) : Int), decide (f / 64 % 2 = 1), num8 (b.take 8)⟩
            simp only [List.length_cons]
            omega
end Bosun
