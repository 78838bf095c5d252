/- rack: the law RackBest: its slices grow. -/
import Derived.Test.YtjdbgohfedjifaaDoorRkW
namespace Go.Proofs.YtjdbgohfedjifaaDoor
open Go.RowKit Bosun
section
variable {w0 W W1 W2 : World} {gb rb bm bw : Nat} {v5 v6 v' : Value} {lv : List Nat} {pn gone : List Bool} {r : RRack} {M : List Nat} {u : Nat}
theorem own_own {w : World} {b b' : Nat} {e t : TypeId} {v v' : Value} {xs ys : List Value} (h : Own w b e v xs) (h' : Own w b' t v' ys) (ht : e ≠ t) : ∀ g, g ∈ v'.ownBlock.toList → v.ownBlock ≠ some g := by
  intro g hg
  rcases h'.2 with ⟨rfl, _⟩ | ⟨g', cap, cur, rfl, _, h3, _⟩
  · simp [Value.ownBlock] at hg
  · obtain rfl : g = g' := by simpa [Value.ownBlock] using hg
    exact own_ne h (show Blk w g cur t from h3) ht
theorem Rest.grown {e : TypeId} {v : Value} {xs : List Value} (h : Rest w0 W rb bm bw r M u) (hT : TabW w0) (o : Own W w0.heap.size e v xs) (n1 : e ≠ 75) (n2 : e ≠ 68) (n3 : e ≠ 30) (C1 : Chg [] W W1) (C : Chg v.ownBlock.toList W1 W2) : Rest w0 W2 rb bm bw r M u := by
  have h1 := h.rk
  have h2 := h.mem.head
  have h3 := h.mem.row
  have C' : Chg v.ownBlock.toList W W2 := (C1.mono (by simp)).then C (fun g hg => .inl hg)
  have hp := h.pos hT
  refine h.off C' (fun g hg => ⟨(o.block g hg).1, ?_, ?_, ?_⟩) (fun h0 => ?_)
  · rintro rfl; exact own_ne o h1 n1 (by simpa using hg)
  · rintro rfl; exact own_ne o h2 n2 (by simpa using hg)
  · rintro rfl; exact own_ne o h3 n3 (by simpa using hg)
  · have := (o.block 0 h0).1; omega
theorem LV.app5 (h : LV w0 W gb v5 v6 lv pn gone) {l : Nat} (C1 : Chg [] W W1) (o : Own W2 w0.heap.size 3 v' (nats lv ++ [.int .i64 (l : Nat)])) (C : Chg v5.ownBlock.toList W1 W2) : LV w0 W2 gb v' v6 (lv ++ [l]) pn gone := by
  have C' : Chg v5.ownBlock.toList W W2 := (C1.mono (by simp)).then C (fun g hg => .inl hg)
  refine ⟨by simpa [nats] using o, h.o6.chg C' (own_own h.o6 h.o5 (by decide)), h.gn.chg C' (fun hg => ?_), h.gl, h.g6⟩
  exact own_ne h.o5 h.gn (by decide) (by simpa using hg)
theorem LV.app6 (h : LV w0 W gb v5 v6 lv pn gone) {b : Bool} (C1 : Chg [] W W1) (o : Own W2 w0.heap.size 4 v' (pn.map Value.bool ++ [.bool b])) (C : Chg v6.ownBlock.toList W1 W2) (ho : v'.ownBlock = v6.ownBlock ∨ v'.ownBlock = some W1.heap.size) : LV w0 W2 gb v5 v' lv (pn ++ [b]) gone := by
  have C' : Chg v6.ownBlock.toList W W2 := (C1.mono (by simp)).then C (fun g hg => .inl hg)
  refine ⟨h.o5.chg C' (own_own h.o5 h.o6 (by decide)), by simpa using o, h.gn.chg C' (fun hg => h.g6 (by simpa using hg)), h.gl, ?_⟩
  rcases ho with e | e
  · rw [e]; exact h.g6
  · rw [e]; intro hx
    have h1 := Blk.lt h.gn
    have h2 := C1.size
    simp at hx
    omega
theorem LV.mark (h : LV w0 W gb v5 v6 lv pn gone) (x : Nat) : LV w0 (W.setCell ⟨gb, x, none⟩ (.bool true)) gb v5 v6 lv pn (gone.set x true) := by
  have C : Chg [gb] W (W.setCell ⟨gb, x, none⟩ (.bool true)) := (Chg.refl _ _).setCell (.inl (by simp)) _
  refine ⟨h.o5.chg C (fun g hg => ?_), h.o6.chg C (fun g hg => ?_), ?_, h.gl, h.g6⟩
  · simp at hg; subst hg; exact own_ne h.o5 h.gn (by decide)
  · simp at hg; subst hg; exact h.g6
  · have := Blk.setCell h.gn x (.bool true)
    rw [show (gone.map Value.bool).toArray.setIfInBounds x (.bool true) = ((gone.set x true).map Value.bool).toArray by simp [List.map_set]] at this
    exact this
theorem Rest.mark (h : Rest w0 W rb bm bw r M u) (hT : TabW w0) (hl : LV w0 W gb v5 v6 lv pn gone) (x : Nat) (v : Value) : Rest w0 (W.setCell ⟨gb, x, none⟩ v) rb bm bw r M u := by
  have hp := h.pos hT
  have hg := hl.gl
  have C : Chg [gb] W (W.setCell ⟨gb, x, none⟩ v) := (Chg.refl _ _).setCell (.inl (by simp)) _
  refine h.off C (fun g hg' => ?_) (by simp; omega)
  simp at hg'; subst hg'
  exact ⟨hl.gl, blk_ne hl.gn h.rk (by decide), blk_ne hl.gn h.mem.head (by decide), blk_ne hl.gn h.mem.row (by decide)⟩
theorem LV.open5 (h : LV w0 W gb v5 v6 lv pn gone) (hl : 0 < lv.length) (hp : 0 < pn.length) : ∃ g5 c5 g6 c6, v5 = .slice (some ⟨g5, 0, none⟩) lv.length c5 ∧ v6 = .slice (some ⟨g6, 0, none⟩) pn.length c6 := by
  have nl : (nats lv).length = lv.length := nats_len lv
  rcases h.o5.2 with ⟨_, h0⟩ | ⟨g5, c5, cur5, e5, _⟩
  · omega
  · rcases h.o6.2 with ⟨_, h0⟩ | ⟨g6, c6, cur6, e6, _⟩
    · rw [List.length_map] at h0; omega
    · exact ⟨g5, c5, g6, c6, by rw [e5, nl], by rw [e6, List.length_map]⟩
theorem LV.cells {g5 c5 g6 c6 n5 n6 : Nat} (h : LV w0 W gb (.slice (some ⟨g5, 0, none⟩) n5 c5) (.slice (some ⟨g6, 0, none⟩) n6 c6) lv pn gone) :
    (∀ j, j < lv.length → W.cell? ⟨g5, j, none⟩ = some (.int .i64 (lv.getD j 0 : Nat))) ∧ (∀ j, j < pn.length → W.cell? ⟨g6, j, none⟩ = some (.bool (pn.getD j false))) ∧ (∀ j, j < gone.length → W.cell? ⟨gb, j, none⟩ = some (.bool (gone.getD j false))) := by
  refine ⟨fun j hj => ?_, fun j hj => ?_, fun j hj => ?_⟩
  · obtain ⟨ao, cp, e, _, hc⟩ := h.o5.reads
    have hx : (nats lv)[j]? = some (.int .i64 (lv.getD j 0 : Nat)) := by simp [nats, hj]
    obtain ⟨g, off, rfl, h1⟩ := hc j _ hx
    obtain ⟨⟨rfl, rfl⟩, _, _⟩ : (g5 = g ∧ 0 = off) ∧ _ ∧ _ := by simpa using e
    rw [Nat.zero_add] at h1; exact h1
  · obtain ⟨ao, cp, e, _, hc⟩ := h.o6.reads
    have hx : (pn.map Value.bool)[j]? = some (.bool (pn.getD j false)) := by simp [hj]
    obtain ⟨g, off, rfl, h1⟩ := hc j _ hx
    obtain ⟨⟨rfl, rfl⟩, _, _⟩ : (g6 = g ∧ 0 = off) ∧ _ ∧ _ := by simpa using e
    rw [Nat.zero_add] at h1; exact h1
  · rw [Blk.cell h.gn]; simp [hj]
end
end Go.Proofs.YtjdbgohfedjifaaDoor
