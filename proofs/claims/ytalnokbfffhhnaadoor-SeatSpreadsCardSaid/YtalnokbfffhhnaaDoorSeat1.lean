/- seat: Idlest's loads; the walk up to its range. -/
import Derived.Test.YtalnokbfffhhnaaDoorEach
namespace Bosun
open Go
/-- A processor's load. -/
def loadI (l : List Int) (c : Nat) : Int := l.getD c 0
/-- The one with the least load, of those that came. -/
def idlF (l : List Int) (b : Int) (c : Nat) : Int := if b = -1 ∨ loadI l c < loadI l b.toNat then (c : Nat) else b
def idl (l : List Int) (cs : List Nat) : Int := cs.foldl (idlF l) (-1)
theorem idl_snoc (l : List Int) (cs : List Nat) (c : Nat) : idl l (cs ++ [c]) = idlF l (idl l cs) c := by simp [idl]
theorem idlF_range (l : List Int) : ∀ cs : List Nat, ∀ b : Int, (b = -1 ∨ 0 ≤ b) → (cs.foldl (idlF l) b = -1 ∨ 0 ≤ cs.foldl (idlF l) b)
  | [], _, hb => hb
  | c :: cs, b, hb => by
    refine idlF_range l cs _ ?_
    unfold idlF
    split
    · right; omega
    · exact hb
theorem idl_range (l : List Int) (cs : List Nat) : idl l cs = -1 ∨ ∃ b : Nat, idl l cs = (b : Int) := by
  rcases idlF_range l cs (-1) (.inl rfl) with h | h
  · exact .inl h
  · exact .inr ⟨(idl l cs).toNat, by unfold idl; omega⟩
end Bosun
namespace Go.Proofs.YtalnokbfffhhnaaDoor
open Go.RowKit Bosun
theorem load_any (l : List Int) (v : Value) (g : Nat) (c : Nat) (w : World) (hg : w.cell? ⟨g, 0, none⟩ = some v) (hv : Reads w v (ints l)) :
    Calls Tryd.prog 24 #[.int .i64 (c : Nat), .pointer (some ⟨g, 0, none⟩)] w fun e w' => e = .returned (.int .i64 (loadI l c)) ∧ w' = w := by
  obtain ⟨ao, cp, rfl, hm, hcell⟩ := hv
  rw [ints_len] at hm hg
  unfold maxLen at hm
  by_cases h : c < l.length
  · obtain ⟨g', off, rfl, cc⟩ := hcell c _ (ints_get l h)
    have e : loadI l c = l[c] := by unfold loadI; simp [List.getD, h]
    rw [e]
    obtain ⟨y, hy⟩ : ∃ y, y = l[c] := ⟨_, rfl⟩
    rw [← hy] at cc ⊢
    have d1 : decide ((c : Int) < (l.length : Int)) = true := decide_eq_true (by omega)
    clear e hy hcell
    go_enter Tryd.func24, Tryd.ntmps24
    go_wp2_with fail
    go_ret
    exact ⟨rfl, rfl⟩
  · have e : loadI l c = 0 := by unfold loadI; simp [List.getD, h]
    rw [e]
    have d1 : decide ((c : Int) < (l.length : Int)) = false := decide_eq_false (by omega)
    clear e hcell
    go_enter Tryd.func24, Tryd.ntmps24
    go_wp2_with fail
    go_ret
    exact ⟨rfl, rfl⟩
end Go.Proofs.YtalnokbfffhhnaaDoor
