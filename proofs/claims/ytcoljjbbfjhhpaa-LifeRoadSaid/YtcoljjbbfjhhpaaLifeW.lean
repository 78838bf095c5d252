/- life: the search for the shortest way, of both texts, in plain Lean. -/
import Derived.Test.YtcoljjbbfjhhpaaLife3
namespace Bosun

/-! ### The program's search -/
structure Sk where
  met : List Bool
  rows : List (List Int)
  line : List Int
def stepM (at' : Int) (m : Nat) (s : Sk) : Sk := match goes at' m with
  | none => s
  | some x => if s.met.getD x.toNat false then s else ⟨s.met.set x.toNat true, s.rows.set x.toNat (s.rows.getD at'.toNat [] ++ [(m : Int)]), s.line ++ [x]⟩
def inner (at' : Int) (s : Sk) : Nat → Sk
  | 0 => s
  | k + 1 => stepM at' k (inner at' s k)
/-- The search ends here. -/
def stops (to : Nat) (s : Sk) : Bool := match s.line with
  | [] => true
  | a :: _ => a == (to : Int)
def outer (to : Nat) (s : Sk) : Sk := if stops to s then s else match s.line with
  | [] => s
  | a :: r => inner a ⟨s.met, s.rows, r⟩ 10
def startSk (a : Nat) : Sk := ⟨(List.replicate 7 false).set a true, List.replicate 7 [], [(a : Int)]⟩
def skAt (a to : Nat) : Nat → Sk
  | 0 => startSk a
  | k + 1 => outer to (skAt a to k)

/-- t steps have been made at most. -/
structure Sk.ok (t : Nat) (s : Sk) : Prop where
  met : s.met.length = 7
  rows : s.rows.length = 7
  line : ∀ x ∈ s.line, 0 ≤ x ∧ x ≤ 6
  len : s.line.length ≤ t + 1
  each : ∀ r ∈ s.rows, r.length ≤ t
theorem Sk.ok.step {t : Nat} {s : Sk} (h : s.ok t) (a : Int) (m : Nat) : (stepM a m s).ok (t + 1) := by
  have hw : s.ok (t + 1) := ⟨h.met, h.rows, h.line, by have := h.len; omega, fun r hr => by have := h.each r hr; omega⟩
  unfold stepM
  cases hg : goes a m with
  | none => exact hw
  | some x =>
    simp only
    split
    · exact hw
    · refine ⟨by simp [h.met], by simp [h.rows], fun y hy => ?_, by have := h.len; simp; omega, fun r hr => ?_⟩
      · rcases List.mem_append.1 hy with hy | hy
        · exact h.line y hy
        · simp at hy; subst hy; exact goes_range hg
      · rcases List.mem_or_eq_of_mem_set hr with hr | rfl
        · have := h.each r hr; omega
        · have : (s.rows.getD a.toNat []).length ≤ t := by
            rw [List.getD_eq_getElem?_getD]
            cases he : s.rows[a.toNat]? with
            | none => simp
            | some r => exact h.each r (List.mem_of_getElem? he)
          rw [List.length_append]; simp only [List.length_cons, List.length_nil]; omega
theorem Sk.ok.inner {t : Nat} {s : Sk} (h : s.ok t) (a : Int) : ∀ k, (inner a s k).ok (t + k)
  | 0 => h
  | k + 1 => (Sk.ok.inner h a k).step a k
theorem Sk.ok.tail {t : Nat} {s : Sk} (h : s.ok t) {a : Int} {r : List Int} (e : s.line = a :: r) : (Sk.mk s.met s.rows r).ok t :=
  ⟨h.met, h.rows, fun x hx => h.line x (by rw [e]; simp [hx]), by have := h.len; rw [e] at this; simp at this ⊢; omega, h.each⟩
theorem Sk.ok.mono {t t' : Nat} {s : Sk} (h : s.ok t) (hl : t ≤ t') : s.ok t' :=
  ⟨h.met, h.rows, h.line, by have := h.len; omega, fun r hr => by have := h.each r hr; omega⟩
theorem Sk.ok.outer {t : Nat} {s : Sk} (h : s.ok t) (to : Nat) : (outer to s).ok (t + 10) := by
  unfold Bosun.outer
  split
  · exact h.mono (by omega)
  · split
    · exact h.mono (by omega)
    · next e => exact (h.tail e).inner _ 10
theorem startSk_rows (a i : Nat) : (startSk a).rows.getD i [] = [] := by
  unfold startSk
  rw [List.getD_eq_getElem?_getD, List.getElem?_replicate]
  split <;> rfl
theorem startSk_line (a : Nat) : (startSk a).line = [(a : Int)] := rfl
theorem startSk_ok {a : Nat} (h : a < 7) : (startSk a).ok 0 := by
  refine ⟨by simp [startSk], by simp [startSk], fun x hx => ?_, by simp [startSk], fun r hr => ?_⟩
  · simp [startSk] at hx; omega
  · simp [startSk] at hr; simp [hr]
theorem skAt_ok {a : Nat} (to : Nat) (h : a < 7) : ∀ k, (skAt a to k).ok (k * 10)
  | 0 => startSk_ok h
  | k + 1 => by have := (skAt_ok to h k).outer to; rw [show (k + 1) * 10 = k * 10 + 10 from by omega]; exact this
theorem outer_stops {to : Nat} {s : Sk} (h : stops to s = true) : outer to s = s := by unfold outer; rw [if_pos h]
theorem outer_goes {to : Nat} {s : Sk} (h : stops to s = false) {a : Int} {r : List Int} (e : s.line = a :: r) : outer to s = inner a ⟨s.met, s.rows, r⟩ 10 := by
  unfold outer; rw [if_neg (by simp [h])]; split <;> simp_all
theorem skAt_stay (a to : Nat) {k : Nat} (h : stops to (skAt a to k) = true) : ∀ n, skAt a to (k + n) = skAt a to k
  | 0 => rfl
  | n + 1 => by
    show outer to (skAt a to (k + n)) = _
    rw [skAt_stay a to h n, outer_stops h]
/-- The whole search. -/
def wayL (a to : Nat) : List Int × Bool := ((skAt a to 7).rows.getD to [], (skAt a to 7).met.getD to false)
set_option maxRecDepth 100000 in
theorem way_done : ∀ a, a < 7 → ∀ to, to < 7 → stops to (skAt a to 7) = true := by decide
theorem wayL_of {a to k : Nat} (hk : k ≤ 7) (h : stops to (skAt a to k) = true) : wayL a to = ((skAt a to k).rows.getD to [], (skAt a to k).met.getD to false) := by
  unfold wayL
  have : skAt a to 7 = skAt a to k := by have := skAt_stay a to h (7 - k); rwa [show k + (7 - k) = 7 from by omega] at this
  rw [this]

/-! ### The page's search -/
def exts (r : List Int) (at' : Int) : Nat → List (List Int)
  | 0 => []
  | k + 1 => exts r at' k ++ (if (goes at' k).isSome then [r ++ [(k : Int)]] else [])
/-- The rows behind i rows of a level, if none of them leads there. -/
def nextL (a : Int) (rows : List (List Int)) : Nat → List (List Int)
  | 0 => []
  | i + 1 => nextL a rows i ++ exts (rows.getD i []) (walkL a (rows.getD i [])).1 10
def levelL (a : Int) : Nat → List (List Int)
  | 0 => [[]]
  | k + 1 => nextL a (levelL a k) (levelL a k).length
def leads (a to : Int) (r : List Int) : Bool := (walkL a r).1 == to
/-- The first row that leads there, level by level. -/
def refL (a to : Int) : Option (List Int) := (List.range 5).findSome? fun k => (levelL a k).find? (leads a to)
set_option maxRecDepth 100000 in
theorem refL_way : ∀ a, a < 7 → ∀ to, to < 7 → refL (a : Nat) (to : Nat) = some (wayL a to).1 ∧ (wayL a to).2 = true := by decide +kernel
theorem refL_none {a to : Nat} (ha : a < 7) (ht : to < 7) (h : ∀ j, j < 5 → (levelL a j).find? (leads a to) = none) : False := by
  have h1 := (refL_way a ha to ht).1
  unfold refL at h1
  rw [List.findSome?_eq_none_iff.2 (fun x hx => h x (List.mem_range.1 hx))] at h1
  cases h1
theorem refL_some {a to k : Nat} (hk : k < 5) (h : ∀ j, j < k → (levelL a j).find? (leads a to) = none) {r : List Int} (hr : (levelL a k).find? (leads a to) = some r) : refL a to = some r := by
  unfold refL
  have e : List.range 5 = List.range k ++ (k :: (List.range (4 - k)).map (fun x => k + 1 + x)) := by
    rcases (show k = 0 ∨ k = 1 ∨ k = 2 ∨ k = 3 ∨ k = 4 by omega) with rfl | rfl | rfl | rfl | rfl <;> rfl
  rw [e, List.findSome?_append, List.findSome?_eq_none_iff.2 (fun x hx => h x (List.mem_range.1 hx))]
  simp [hr]
end Bosun
