/- ticket: several hands at one lock; who holds, in plain Lean. -/
import Derived.Test.YtifpfmoakgkdpaaTick2
namespace Bosun
def M64 : Nat := 18446744073709551616
/-- The hands stand in the order of their tickets. -/
structure Line (hs : List (Int × Nat)) (n s : Nat) (line : List Nat) : Prop where
  len : hs.length = 6
  next : n = (s + line.length) % 18446744073709551616
  sm : s < 18446744073709551616
  nd : line.Nodup
  lt : ∀ k ∈ line, k < 6
  on : ∀ (j k : Nat), line[j]? = some k → ∃ st, hs[k]? = some (st, (s + j) % 18446744073709551616) ∧ (st = 1 ∨ (st = 2 ∧ j = 0))
  off : ∀ k, k < 6 → k ∉ line → ∃ m, hs[k]? = some (0, m)
theorem Line.length {hs : List (Int × Nat)} {n s : Nat} {line : List Nat} (h : Line hs n s line) : line.length ≤ 6 := by
  have := List.Nodup.length_le_of_subset (l₂ := List.range 6) h.nd (fun k hk => List.mem_range.2 (h.lt k hk))
  simpa using this
theorem Line.start (s m : Nat) (hs : s < 18446744073709551616) : Line (List.replicate 6 (0, m)) s s [] :=
  ⟨by simp, by simp; omega, hs, by simp, fun k hk => by simp at hk, fun j k h => by simp at h, fun k hk _ => ⟨m, by rw [List.getElem?_replicate, if_pos hk]⟩⟩
/-- One that is away takes a ticket. -/
theorem Line.take {hs : List (Int × Nat)} {n s : Nat} {line : List Nat} (h : Line hs n s line) {k m : Nat} (hk : hs[k]? = some (0, m)) :
    Line (hs.set k (1, n)) ((n + 1) % 18446744073709551616) s (line ++ [k]) ∧ k ∉ line := by
  have hk6 : k < 6 := by rw [← h.len]; exact (List.getElem?_eq_some_iff.1 hk).1
  have hni : k ∉ line := fun hm => by
    obtain ⟨j, hj⟩ := List.getElem?_of_mem hm
    obtain ⟨st, h1, h2⟩ := h.on j k hj
    rw [hk] at h1
    simp at h1
    omega
  have hll := h.length
  refine ⟨⟨by simp [h.len], ?_, h.sm, ?_, fun x hx => ?_, fun j x hx => ?_, fun x hx hm => ?_⟩, hni⟩
  · rw [h.next, List.length_append]; simp; omega
  · rw [List.nodup_append]
    exact ⟨h.nd, by simp, fun a ha b hb => by simp at hb; subst hb; intro e; exact hni (e ▸ ha)⟩
  · rcases List.mem_append.1 hx with hx | hx
    · exact h.lt x hx
    · simp at hx; omega
  · rcases Nat.lt_or_ge j line.length with hj | hj
    · rw [List.getElem?_append_left hj] at hx
      obtain ⟨st, h1, h2⟩ := h.on j x hx
      have hne : k ≠ x := fun e => hni (by rw [e]; exact List.mem_of_getElem? hx)
      exact ⟨st, by rw [List.getElem?_set_ne hne]; exact h1, h2⟩
    · have hl : j < (line ++ [k]).length := (List.getElem?_eq_some_iff.1 hx).1
      simp at hl
      obtain rfl : j = line.length := by omega
      rw [List.getElem?_append_right (Nat.le_refl _), Nat.sub_self] at hx
      simp at hx
      subst hx
      exact ⟨1, by rw [List.getElem?_set_self (by rw [h.len]; exact hk6), h.next], .inl rfl⟩
  · rw [List.mem_append] at hm
    simp at hm
    obtain ⟨m', h1⟩ := h.off x hx hm.1
    exact ⟨m', by rw [List.getElem?_set_ne (fun e => hm.2 e.symm)]; exact h1⟩
/-- One that waits has its turn just if it is the first. -/
theorem Line.wait {hs : List (Int × Nat)} {n s : Nat} {line : List Nat} (h : Line hs n s line) {k m : Nat} (hk : hs[k]? = some (1, m)) :
    ∃ a r, line = a :: r ∧ (s = m ↔ a = k) ∧ Line (hs.set k (if s = m then 2 else 1, m)) n s line := by
  have hk6 : k < 6 := by rw [← h.len]; exact (List.getElem?_eq_some_iff.1 hk).1
  have hin : k ∈ line := by
    by_cases hm : k ∈ line
    · exact hm
    · obtain ⟨m', h1⟩ := h.off k hk6 hm
      rw [hk] at h1; simp at h1
  obtain ⟨j, hj⟩ := List.getElem?_of_mem hin
  obtain ⟨st, h1, h2⟩ := h.on j k hj
  rw [hk] at h1
  simp at h1
  obtain ⟨rfl, rfl⟩ := h1
  have hjl : j < line.length := (List.getElem?_eq_some_iff.1 hj).1
  have hll := h.length
  have hsm := h.sm
  cases line with
  | nil => simp at hjl
  | cons a r =>
    have hiff : s = (s + j) % 18446744073709551616 ↔ j = 0 := by omega
    have hak : a = k ↔ j = 0 := by
      constructor
      · intro e
        subst e
        have h0 : (a :: r)[0]? = some a := rfl
        exact (List.getElem?_inj hjl h.nd).1 (by rw [hj, h0])
      · intro e; subst e; simpa using hj
    refine ⟨a, r, rfl, by rw [hiff, hak], ⟨by simp [h.len], h.next, h.sm, h.nd, h.lt, fun i x hx => ?_, fun x hx hm => ?_⟩⟩
    · obtain ⟨st, h1, h2⟩ := h.on i x hx
      by_cases e : k = x
      · subst e
        have hij : i = j := (List.getElem?_inj (List.getElem?_eq_some_iff.1 hx).1 h.nd).1 (by rw [hx, hj])
        subst hij
        refine ⟨_, by rw [List.getElem?_set_self (by rw [h.len]; exact hk6)], ?_⟩
        by_cases h0 : i = 0
        · rw [if_pos (hiff.2 h0)]; exact .inr ⟨rfl, h0⟩
        · rw [if_neg (fun e => h0 (hiff.1 e))]; exact .inl rfl
      · exact ⟨st, by rw [List.getElem?_set_ne e]; exact h1, h2⟩
    · obtain ⟨m', h1⟩ := h.off x hx hm
      have hne : k ≠ x := fun e => hm (e ▸ hin)
      exact ⟨m', by rw [List.getElem?_set_ne hne]; exact h1⟩
/-- The one that holds is the first. -/
theorem Line.head {hs : List (Int × Nat)} {n s : Nat} {line : List Nat} (h : Line hs n s line) {k m : Nat} (hk : hs[k]? = some (2, m)) :
    ∃ r, line = k :: r ∧ m = s ∧ Line (hs.set k (0, 0)) n ((m + 1) % 18446744073709551616) r := by
  have hk6 : k < 6 := by rw [← h.len]; exact (List.getElem?_eq_some_iff.1 hk).1
  have hin : k ∈ line := by
    by_cases hm : k ∈ line
    · exact hm
    · obtain ⟨m', h1⟩ := h.off k hk6 hm
      rw [hk] at h1; simp at h1
  obtain ⟨j, hj⟩ := List.getElem?_of_mem hin
  obtain ⟨st, h1, h2⟩ := h.on j k hj
  rw [hk] at h1
  simp at h1
  obtain ⟨rfl, rfl⟩ := h1
  have hj0 : j = 0 := by omega
  subst hj0
  have hll := h.length
  have hsm := h.sm
  cases line with
  | nil => simp at hj
  | cons a r =>
    simp at hj
    subst hj
    have hmm : (s + 0) % 18446744073709551616 = s := by omega
    have hnd := List.nodup_cons.1 h.nd
    refine ⟨r, rfl, hmm, ⟨by simp [h.len], ?_, Nat.mod_lt _ (by omega), hnd.2, fun x hx => h.lt x (List.mem_cons_of_mem _ hx), fun i x hx => ?_, fun x hx hm => ?_⟩⟩
    · rw [h.next]; simp; omega
    · obtain ⟨st, h1, h2⟩ := h.on (i + 1) x (by simpa using hx)
      have hne : a ≠ x := fun e => hnd.1 (e ▸ List.mem_of_getElem? hx)
      refine ⟨st, by rw [List.getElem?_set_ne hne, h1]; congr 2; omega, .inl (by omega)⟩
    · by_cases e : a = x
      · subst e
        exact ⟨0, by rw [List.getElem?_set_self (by rw [h.len]; exact hx)]⟩
      · obtain ⟨m', h1⟩ := h.off x hx (fun hh => by rcases List.mem_cons.1 hh with hh | hh; exact e hh.symm; exact hm hh)
        exact ⟨m', by rw [List.getElem?_set_ne e]; exact h1⟩
/-- How many of the first j hold. -/
def holders (hs : List (Int × Nat)) : Nat → Nat
  | 0 => 0
  | j + 1 => holders hs j + (if (hs.getD j (0, 0)).1 = 2 then 1 else 0)
theorem Line.holders {hs : List (Int × Nat)} {n s : Nat} {line : List Nat} (h : Line hs n s line) : ∀ j, holders hs j ≤ 1 ∧ (∀ a, line.head? = some a → j ≤ a → Bosun.holders hs j = 0) ∧ (line = [] → Bosun.holders hs j = 0)
  | 0 => ⟨by simp [Bosun.holders], fun _ _ _ => rfl, fun _ => rfl⟩
  | j + 1 => by
    obtain ⟨h1, h2, h3⟩ := Line.holders h j
    unfold Bosun.holders
    by_cases he : (hs.getD j (0, 0)).1 = 2
    · rw [if_pos he]
      have hj : ∃ m, hs[j]? = some (2, m) := by
        rw [List.getD_eq_getElem?_getD] at he
        cases hx : hs[j]? with
        | none => rw [hx] at he; simp at he
        | some y => rw [hx] at he; simp at he; exact ⟨y.2, by rw [← he]⟩
      obtain ⟨m, hm⟩ := hj
      obtain ⟨r, hr, _⟩ := h.head hm
      have h0 := h2 j (by rw [hr]; rfl) (Nat.le_refl _)
      refine ⟨by omega, fun a ha hle => ?_, fun e => by rw [hr] at e; cases e⟩
      rw [hr] at ha
      simp at ha
      omega
    · rw [if_neg he]
      exact ⟨by omega, fun a ha hle => by have := h2 a ha (by omega); omega, fun e => by have := h3 e; omega⟩
end Bosun
namespace Go.Proofs.Ytifpfmoakgkdpaa
open Go.RowKit Bosun
/-- Hands at the blocks hb. -/
structure HandsAt (w : World) (bm bw lo : Nat) (base : Int) (hb : List Nat) (hs : List (Int × Nat)) : Prop where
  len : hs.length = hb.length
  isAt : ∀ k (h : k < hb.length) (h' : k < hs.length), IsHand w hb[k] base hs[k].1 hs[k].2
  nd : hb.Nodup
  out : ∀ g ∈ hb, g ≠ bm ∧ g ≠ bw ∧ lo ≤ g
  wf : ∀ x ∈ hs, St x.1 ∧ x.2 < 18446744073709551616
theorem HandsAt.keep {w w' : World} {bm bw lo : Nat} {base : Int} {hb : List Nat} {hs : List (Int × Nat)} (h : HandsAt w bm bw lo base hb hs) {S : List Nat} (hc : Chg S w w') (hS : ∀ g ∈ hb, g ∉ S) : HandsAt w' bm bw lo base hb hs :=
  ⟨h.len, fun k a b => (h.isAt k a b).chg hc (hS _ (List.getElem_mem a)), h.nd, h.out, h.wf⟩
theorem HandsAt.set {w w' : World} {bm bw lo : Nat} {base : Int} {hb : List Nat} {hs : List (Int × Nat)} (h : HandsAt w bm bw lo base hb hs) {k : Nat} (hk : k < hb.length) {s : Int} {m : Nat} (hs' : St s) (hm : m < 18446744073709551616)
    (hc : Chg [hb[k], bm, bw] w w') (hh : IsHand w' hb[k] base s m) : HandsAt w' bm bw lo base hb (hs.set k (s, m)) := by
  refine ⟨by simp [h.len], fun i a b => ?_, h.nd, h.out, fun x hx => ?_⟩
  · rw [List.getElem_set]
    by_cases e : k = i
    · subst e
      rw [if_pos rfl]; exact hh
    · rw [if_neg e]
      refine (h.isAt i a (by simpa using b)).chg hc ?_
      have ho := h.out _ (List.getElem_mem a)
      have hne : hb[i] ≠ hb[k] := fun e2 => e ((List.getElem_inj h.nd).1 e2).symm
      simp
      exact ⟨hne, ho.1, ho.2.1⟩
  · rcases List.mem_or_eq_of_mem_set hx with hx | rfl
    · exact h.wf x hx
    · exact ⟨hs', hm⟩
theorem HandsAt.more {w w' : World} {bm bw lo : Nat} {base : Int} {hb : List Nat} {hs : List (Int × Nat)} (h : HandsAt w bm bw lo base hb hs) {b : Nat} (hlo : lo ≤ w.heap.size) (hm1 : bm < w.heap.size) (hm2 : bw < w.heap.size) (hb1 : w.heap.size ≤ b) (hlt : ∀ g ∈ hb, g < w.heap.size)
    (hc : Chg [] w w') (hh : IsHand w' b base 0 0) : HandsAt w' bm bw lo base (hb ++ [b]) (hs ++ [(0, 0)]) := by
  refine ⟨by simp [h.len], fun i a c => ?_, ?_, fun g hg => ?_, fun x hx => ?_⟩
  · rw [List.getElem_append, List.getElem_append]
    by_cases e : i < hb.length
    · rw [dif_pos e, dif_pos (by rw [h.len]; exact e)]
      exact (h.isAt i e _).chg hc (by simp)
    · rw [dif_neg e, dif_neg (by rw [h.len]; exact e)]
      simpa using hh
  · rw [List.nodup_append]
    exact ⟨h.nd, by simp, fun x hx y hy => by simp at hy; subst hy; intro e; have := hlt x hx; omega⟩
  · rcases List.mem_append.1 hg with hg | hg
    · exact h.out g hg
    · simp at hg; omega
  · rcases List.mem_append.1 hx with hx | hx
    · exact h.wf x hx
    · simp at hx; subst hx; exact ⟨.inl rfl, by simp⟩
theorem infoHand : (Try.prog.info? 28).map (fun i => (i.zero, i.size, i.bytes)) = some (some (.pointer none), 1, 8) := by kernel_rfl
theorem infoInt : (Try.prog.info? 3).map (fun i => (i.zero, i.size, i.bytes)) = some (some (.int .i64 0), 1, 8) := by kernel_rfl
def ptrs (l : List Nat) : List Value := l.map fun b => .pointer (some ⟨b, 0, none⟩)
end Go.Proofs.Ytifpfmoakgkdpaa
