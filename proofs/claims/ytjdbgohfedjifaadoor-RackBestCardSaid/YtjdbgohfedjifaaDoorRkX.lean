/- rack: a whole work, by Run: what it makes of the world. -/
import Derived.Test.YtjdbgohfedjifaaDoorRkV
namespace Go.Proofs.YtjdbgohfedjifaaDoor
open Go.RowKit Bosun
theorem whole_run {W0 W W1 : World} {wb rb bm bw : Nat} {gv : Value} {ob : Option Nat} {r : RRack} {w : RWork} {M : List Nat} {u : Nat} (h : Rest W0 W rb bm bw r M u) (C1 : Chg [] W W1) (hw : W.heap.size ≤ wb) (ho : ∀ g ∈ ob.toList, W.heap.size ≤ g) (G : Rig W1 wb rb bm bw gv ob r w M u) (hd : w.done = false)
    {good : Nat → Bool} {P : RS → Prop} (n : Nat) (hn : n < 9000) (hr : Run good n (r, w, M, u) P) (hP : ∀ s, P s → s.2.1.done = true) :
    Calls Tryd.prog 10 #[.pointer (some ⟨wb, 0, none⟩), .pointer (some ⟨bm, 0, none⟩)] W1 fun e W' => ∃ s : RS, P s ∧ e = .returned (.tuple #[.int .u64 ((resR s.2.1).1 : Nat), .int .i64 (resR s.2.1).2.1, .int .i64 (resR s.2.1).2.2]) ∧ Rest W0 W' rb bm bw s.1 s.2.2.1 s.2.2.2 ∧ Chg [rb, bm, bw] W W' := by
  obtain ⟨a1, a2⟩ := hr.spec
  refine (wall_any W1 wb rb bm bw gv ob r w M u G good (h.tab.keep C1) hd n hn (hP _ a1) (fun k hk _ => a2 k hk)).mono ?_
  rintro e W' ⟨rfl, ob', G2, C2, _⟩
  refine ⟨_, a1, rfl, h.after C1 hw ho G G2 C2, (C1.mono (by simp)).then C2 fun g hg => ?_⟩
  simp only [List.mem_cons, List.not_mem_nil, or_false] at hg ⊢
  rcases hg with rfl | rfl | rfl | rfl | hg
  · exact .inr hw
  · exact .inl (.inl rfl)
  · exact .inl (.inr (.inl rfl))
  · exact .inl (.inr (.inr rfl))
  · exact .inr (ho g hg)
end Go.Proofs.YtjdbgohfedjifaaDoor
