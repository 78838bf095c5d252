/- seat: the plain laws of the reference. -/
import Derived.Test.YtalnokbfffhhnaaDoorSetQ
namespace Bosun
open Go
theorem filter_range_lt (p : Nat → Bool) (K : Nat) (hK : K ≤ 64) : (List.range 64).filter (fun j => p j && decide (j < K)) = (List.range K).filter p := by
  have e : (64 : Nat) = K + (64 - K) := by omega
  rw [e, List.range_add, List.filter_append]
  have h2 : ((List.range (64 - K)).map (K + ·)).filter (fun j => p j && decide (j < K)) = [] := by
    rw [List.filter_eq_nil_iff]
    intro a ha
    obtain ⟨b, _, rfl⟩ := List.mem_map.1 ha
    simp
  rw [h2, List.append_nil]
  refine List.filter_congr (fun a ha => ?_)
  have := List.mem_range.1 ha
  simp [this]
/-- How far the reference's list looks. -/
def limN (n : Int) : Nat := if 64 ≤ n then 64 else n.toNat
theorem limN_le (n : Int) : limN n ≤ 64 := by unfold limN; split <;> omega
theorem limN_in {n : Int} {k : Nat} (h : k < limN n) : (k : Int) < n ∧ k < 64 := by unfold limN at h; split at h <;> omega
theorem limN_out (n : Int) : limN n = 64 ∨ (limN n < 64 ∧ n ≤ (limN n : Nat)) := by
  unfold limN; split
  · left; rfl
  · right; omega
/-- The allowed ones. -/
def lst (m : Nat) (n : Int) : List Nat := members (m &&& allBelow n)
theorem lst_eq (m : Nat) (n : Int) : lst m n = membersTo m (limN n) := by
  unfold lst membersTo
  rw [members_and, ← filter_range_lt _ _ (limN_le n)]
  unfold members
  rw [List.filter_filter]
  refine List.filter_congr (fun a ha => ?_)
  have h64 := List.mem_range.1 ha
  have e : decide ((a : Int) < n) = decide (a < limN n) := by
    apply decide_eq_decide.2
    constructor
    · intro h; unfold limN; split <;> omega
    · intro h; exact (limN_in h).1
  rw [e, Bool.and_comm]
theorem lst_le (m : Nat) (n : Int) : (lst m n).length ≤ 64 := members_le _
theorem lst_lt {m : Nat} {n : Int} {a : Nat} (h : a ∈ lst m n) : a < 64 := (members_mem h).1
/-- The home that counts. -/
def homeI (n h : Int) : Int := if h < 0 ∨ n ≤ h then 0 else h
end Bosun
