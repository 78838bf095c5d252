/- A step of any work is, on the shelf, what the law says. -/
import Derived.Test.YtidooepalfegdaaDqSh3
namespace Bosun
open Go
theorem St.more {f cap : Nat} {W : List Nat} {A : Nat → Option DOp} {L : List Nat} {N : Nat} {c : Bool} (h : St f cap W A L N c) : St f cap W A L (N + 1) c := by
  obtain ⟨t, b, l, t0, I, hL⟩ := h
  exact ⟨t, b, l, t0, { I with bN := by have := I.bN; omega }, hL⟩
theorem St.len {f cap : Nat} {W : List Nat} {A : Nat → Option DOp} {L : List Nat} {N : Nat} {c : Bool} (h : St f cap W A L N c) : L.length ≤ cap ∧ cap ≤ 256 ∧ L.length ≤ 256 := by
  obtain ⟨t, b, l, t0, I, hL⟩ := h
  have := I.room
  have := I.pw.le
  rw [hL, listOf_len]
  omega
end Bosun
namespace Go.Proofs.Ytidooepalfegdaa
open Go.RowKit Bosun
/-- The shelf that stands for the deque. -/
def shOf (cap : Nat) (L : List Nat) (c : Bool) : Shf := ⟨cap, L, c, c && decide (0 < L.length)⟩
def After (f cap sb lim g k : Nat) (o' : DOp) (mp : Bool) (mx : Nat) (W' : List Nat) (A : Nat → Option DOp) (N : Nat) (L : List Nat) (c : Bool) : Prop :=
  ∃ L' c', St f cap W' (updA A k o') L' (N + 1) c' ∧ ∀ w, IsOp w g o' → IsSh w sb lim (shOf cap L c) → lim ≤ w.heap.size →
    Calls Try.prog 17 #[.pointer (some ⟨sb, 0, none⟩), .pointer (some ⟨g, 0, none⟩), .int .i64 (k : Nat), .bool mp, .int .u64 (mx : Nat)] w fun e w' => e = .returned (.bool true) ∧ IsSh w' sb lim (shOf cap L' c') ∧ Chg [sb] w w'
theorem after_steal {f cap : Nat} {W : List Nat} {A : Nat → Option DOp} {L : List Nat} {N : Nat} {c : Bool} (h : St f cap W A L N c) (hN : N < 1000000) {k : Nat} (k1 : 1 ≤ k) {o : DOp} (ho : A k = some o) (hd : o.done = false) (herr : o.err = 0) (u : Nat) (sb lim g : Nat) (mp : Bool) (mx : Nat) :
    After f cap sb lim g k (stepD o W u).1 mp mx (stepD o W u).2.1 A N L c := by
  have hlen := h.len
  rcases h.steal hN k1 ho hd herr u with ⟨h1, h2⟩ | ⟨h1, h2, L', h3, h4⟩ | ⟨h1, h2, h3⟩ | ⟨h1, h2, h3, h4⟩
  · exact ⟨L, c, h2.more, fun w ho hs hl => (sv_skip_steal sb lim g _ _ mx k mp w hs ho h1 (by omega)).mono fun e w' ⟨he, hc⟩ => ⟨he, hs.keep hc, hc.weak⟩⟩
  · have hL0 : L.length = L'.length + 1 := by rw [h3]; simp
    by_cases hq : L.length = 1 ∧ c = true
    · obtain ⟨hq1, rfl⟩ := hq
      obtain rfl : L' = [] := List.eq_nil_of_length_eq_zero (by omega)
      exact ⟨[], true, h4.more, fun w ho hs hl => (sv_steal_snatch sb lim g _ _ mx k mp _ w hs ho (by omega) h1 h2 rfl h3 (by simp [shOf, h3])).mono fun e w' hh => hh⟩
    · refine ⟨L', c, h4.more, fun w ho hs hl => (sv_steal_direct sb lim g _ _ mx k mp _ L' w hs ho (by omega) h1 h2 rfl h3 (by omega) (fun e => hq ?_)).mono fun e w' ⟨he, hs, hc⟩ => ⟨he, ?_, hc⟩⟩
      · obtain ⟨e1, e2⟩ := e
        simp only [shOf] at e1 e2
        exact ⟨e1, by cases c <;> simp at e2 ⊢⟩
      · have e5 : (if L'.length = 0 then false else (shOf cap L c).on) = (c && decide (0 < L'.length)) := by
          simp only [shOf]
          have d1 : decide (0 < L.length) = true := by simp; omega
          rw [d1]
          split
          · rename_i h0; rw [h0]; simp
          · have : decide (0 < L'.length) = true := by simp; omega
            rw [this]
        rw [e5] at hs
        exact hs
  · exact ⟨L, c, h3.more, fun w ho hs hl => (sv_again sb lim g _ _ mx k mp w hs ho (by omega) h1 h2).mono fun e w' ⟨he, hc⟩ => ⟨he, hs.keep hc, hc.weak⟩⟩
  · rcases h3 with h3 | ⟨h3, h5⟩
    · exact ⟨L, c, h4.more, fun w ho hs hl => (sv_none_nil sb lim g _ _ mx k mp w hs ho (by omega) h1 h2 h3).mono fun e w' ⟨he, hc⟩ => ⟨he, hs.keep hc, hc.weak⟩⟩
    · exact ⟨L, c, h4.more, fun w ho hs hl => (sv_none_one sb lim g _ _ mx k mp w hs ho (by omega) h1 h2 h5 (by simp [shOf, h3, h5])).mono fun e w' ⟨he, hc⟩ => ⟨he, hs.keep hc, hc.weak⟩⟩
theorem after_push {f cap : Nat} {W : List Nat} {A : Nat → Option DOp} {L : List Nat} {N : Nat} {c : Bool} (h : St f cap W A L N c) (hN : N < 1000000) {o : DOp} (ho : A 0 = some o) (hk : o.kind = 0) (hd : o.done = false) (herr : o.err = 0) (hx : o.x < 18446744073709551616) (u : Nat) (sb lim g : Nat) :
    After f cap sb lim g 0 (stepD o W u).1 true o.x (stepD o W u).2.1 A N L c := by
  have hlen := h.len
  obtain ⟨rfl, hh⟩ := h.push hN ho hk hd herr hx u
  rcases hh with ⟨h1, h2, h3⟩ | ⟨h1, h2, h3, h4⟩ | ⟨h1, h2, h3, h4, h5⟩
  · exact ⟨L, false, h3.more, fun w ho hs hl => (sv_skip_push sb lim g _ _ o.x w hs ho h1).mono fun e w' ⟨he, hc⟩ => ⟨he, hs.keep hc, hc.weak⟩⟩
  · exact ⟨L, false, h4.more, fun w ho hs hl => (sv_push_full sb lim g _ _ o.x w hs ho h1 h2 rfl h3).mono fun e w' ⟨he, hc⟩ => ⟨he, hs.keep hc, hc.weak⟩⟩
  · exact ⟨L ++ [o.x], false, h5, fun w ho hs hl => (sv_push_ok sb lim g _ _ o.x w hs ho h1 h2 h3 rfl h4 hlen.2.1 hl).mono fun e w' ⟨he, hs, hc⟩ => ⟨he, hs, hc⟩⟩
theorem after_pop {f cap : Nat} {W : List Nat} {A : Nat → Option DOp} {L : List Nat} {N : Nat} {c : Bool} (h : St f cap W A L N c) (hN : N < 1000000) {o : DOp} (ho : A 0 = some o) (hk : o.kind = 1) (hd : o.done = false) (herr : o.err = 0) (u : Nat) (sb lim g mx : Nat) :
    After f cap sb lim g 0 (stepD o W u).1 false mx (stepD o W u).2.1 A N L c := by
  have hlen := h.len
  rcases h.pop hN ho hk hd herr u with ⟨h1, h2, h3⟩ | ⟨h1, h2, rfl, h4⟩ | ⟨h1, h2, rfl, h3, L', h4, h5⟩ | ⟨h1, h2, rfl, h3, h4, h5⟩
  · exact ⟨L, c, h3.more, fun w ho hs hl => (sv_skip_pop sb lim g _ _ mx w hs ho h1 h2).mono fun e w' ⟨he, hc⟩ => ⟨he, hs.keep hc, hc.weak⟩⟩
  · exact ⟨L, true, h4.more, fun w ho hs hl => (sv_claim sb lim g _ _ mx w hs ho h2 rfl).mono fun e w' hh => hh⟩
  · exact ⟨L', false, h5.more, fun w ho hs hl => (sv_pop_ok sb lim g _ _ mx _ L' w hs ho h1 h2 h3 rfl rfl (by simp [shOf, h4]) h4 (by rw [h4] at hlen; simp at hlen; omega)).mono fun e w' hh => hh⟩
  · exact ⟨[], false, h5.more, fun w ho hs hl => (sv_pop_none sb lim g _ _ mx w hs ho h1 h2 h3 rfl (by simp [shOf, h4])).mono fun e w' ⟨he, hs, hc⟩ => ⟨he, by rw [show (shOf cap L true).L = [] from h4] at hs; exact hs, hc⟩⟩
end Go.Proofs.Ytidooepalfegdaa
