/- rack: Result; all (a work is stepped to its end). -/
import Derived.Test.YtjdbgohfedjifaaGreatDoorRkC
import Derived.OwnWalk
namespace Bosun
theorem stepR_done {good : Nat → Bool} {r : RRack} {w : RWork} {W : List Nat} {u : Nat} (h : w.done = true) : stepR good r w W u = (r, w, W, u) := by unfold stepR; rw [if_pos h]
theorem itR_done {good : Nat → Bool} {s : RRack × RWork × List Nat × Nat} (h : s.2.1.done = true) : ∀ n, itR good n s = s
  | 0 => rfl
  | n + 1 => by unfold itR; rw [stepR_done h]; exact itR_done h n
theorem itR_add (good : Nat → Bool) (m : Nat) : ∀ n s, itR good (m + n) s = itR good n (itR good m s) := by
  induction m with
  | zero => intro n s; rw [Nat.zero_add]; rfl
  | succ m ih => intro n s; rw [show m + 1 + n = (m + n) + 1 from by omega]; exact ih n _
theorem itR_succ (good : Nat → Bool) (n : Nat) : ∀ s, itR good (n + 1) s = stepR good (itR good n s).1 (itR good n s).2.1 (itR good n s).2.2.1 (itR good n s).2.2.2 := by
  induction n with
  | zero => intro s; rfl
  | succ n ih => intro s; rw [itR, ih]; rfl
end Bosun
namespace Go.Proofs.YtjdbgohfedjifaaGreatDoor
open Go.RowKit Bosun
set_option maxHeartbeats 8000000 in
theorem wresult_any (W : World) (wb rb : Nat) (gv : Value) (ob : Option Nat) (w : RWork) (h : IsWk W wb rb gv ob w) :
    Calls Tryz.prog 38 #[.pointer (some ⟨wb, 0, none⟩)] W fun e W' => e = .returned (.tuple #[.int .u64 ((resR w).1 : Nat), .int .i64 (resR w).2.1, .int .i64 (resR w).2.2]) ∧ Chg [] W W' := by
  have c3 : W.cell? ⟨wb, 3, none⟩ = some (.int .u64 (w.x : Nat)) := by rw [Blk.cell h]; rfl
  have c4 : W.cell? ⟨wb, 4, none⟩ = some (.int .i64 (w.level : Nat)) := by rw [Blk.cell h]; rfl
  have c14 : W.cell? ⟨wb, 14, none⟩ = some (.bool w.done) := by rw [Blk.cell h]; rfl
  have c15 : W.cell? ⟨wb, 15, none⟩ = some (.int .i64 w.err) := by rw [Blk.cell h]; rfl
  obtain ⟨x, hx⟩ : ∃ x, x = w.x := ⟨_, rfl⟩
  obtain ⟨l, hl⟩ : ∃ l, l = w.level := ⟨_, rfl⟩
  obtain ⟨d, hd⟩ : ∃ d, d = w.done := ⟨_, rfl⟩
  obtain ⟨r, hr⟩ : ∃ r, r = w.err := ⟨_, rfl⟩
  have HR := Lib.hid (show resR w = if d = false then (0, 8, 14) else if r ≠ 0 then (0, 8, r) else (x, (l : Int), 0) by unfold resR; rw [hx, hl, hd, hr])
  rw [← hx] at c3
  rw [← hl] at c4
  rw [← hd] at c14
  rw [← hr] at c15
  obtain ⟨z, hz⟩ : ∃ z, z = resR w := ⟨_, rfl⟩
  rw [← hz] at HR ⊢
  clear h hx hl hd hr hz
  go_enter Tryz.func38, Tryz.ntmps38
  cases d
  · go_wp2_with fail
    go_ret3
    rw [HR.out]
    exact ⟨rfl, Chg.refl _ _⟩
  · by_cases h0 : r = 0
    · have e0 : (r != 0) = false := by simp [h0]
      have H0 := Lib.hid h0
      clear h0
      go_wp2_with fail
      go_region_held3 (fun w' => w'.cell? ⟨wb, 3, none⟩ = some (.int .u64 (x : Nat)) ∧ w'.cell? ⟨wb, 4, none⟩ = some (.int .i64 (l : Nat))) (first | assumption | exact ⟨c3, c4⟩ | fail) (fail)
      go_wp2_with fail
      go_ret3
      rw [HR.out, if_neg (by simp), if_neg (by simp [H0.out])]
      exact ⟨rfl, (Chg.refl _ _).drew⟩
    · have e0 : (r != 0) = true := by simp [h0]
      have H0 := Lib.hid h0
      clear h0
      go_wp2_with fail
      go_region_held3 (fun w' => w'.cell? ⟨wb, 15, none⟩ = some (.int .i64 r)) (first | assumption | exact c15 | fail) (fail)
      go_wp2_with fail
      go_ret3
      rw [HR.out, if_neg (by simp), if_pos H0.out]
      exact ⟨rfl, (Chg.refl _ _).drew⟩
theorem Rig.ne0 {W : World} {wb rb bm bw : Nat} {gv : Value} {ob : Option Nat} {r : RRack} {w : RWork} {M : List Nat} {u : Nat} (h : Rig W wb rb bm bw gv ob r w M u) (hT : TabW W) : 0 ∉ (wb :: rb :: bm :: bw :: ob.toList) := by
  have h1 := hT 0 (by decide)
  have h2 := hT 63 (by decide)
  have a1 : wb ≠ 0 := by
    intro e; subst e
    rw [show W.cell? ⟨0, 0, none⟩ = some (.pointer (some ⟨rb, 0, none⟩)) by rw [Blk.cell h.wk]; rfl] at h1; simp at h1
  have a2 : rb ≠ 0 := by
    intro e; subst e
    rw [show W.cell? ⟨0, 63, none⟩ = none by rw [Blk.cell h.rk]; simp [rackRow]] at h2; simp at h2
  have a3 : bm ≠ 0 := by
    intro e; subst e
    rw [show W.cell? ⟨0, 63, none⟩ = none by rw [Blk.cell h.mem.head]; rfl] at h2; simp at h2
  have a4 : bw ≠ 0 := by
    intro e; subst e
    rw [show W.cell? ⟨0, 0, none⟩ = _ by rw [Blk.cell h.mem.row]] at h1
    rcases hM : M with _ | ⟨x, l⟩
    · rw [hM] at h1; simp [words] at h1
    · rw [hM] at h1; simp [words] at h1
  have a5 : ∀ g ∈ ob.toList, g ≠ 0 := by
    intro g hg
    have h3 := h.op
    cases ob with
    | none => simp at hg
    | some g' =>
      simp at hg; subst hg
      cases hw : w.op with
      | none => rw [hw] at h3; exact h3.elim
      | some o =>
        rw [hw] at h3
        intro e; subst e
        rw [show W.cell? ⟨0, 63, none⟩ = none by rw [Blk.cell h3.1]; rfl] at h2; simp at h2
  simp only [List.mem_cons, not_or]
  exact ⟨Ne.symm a1, Ne.symm a2, Ne.symm a3, Ne.symm a4, fun h => a5 0 h rfl⟩
theorem tab_chg {W W' : World} {S : List Nat} (hT : TabW W) (C : Chg S W W') (h : 0 ∉ S) : TabW W' := fun j hj => (World.cell?_of_block (C.block _ (World.block_lt_of_cell? _ _ (hT j hj)) h)).trans (hT j hj)
set_option maxHeartbeats 8000000 in
theorem wall_any (W : World) (wb rb bm bw : Nat) (gv : Value) (ob : Option Nat) (r : RRack) (w : RWork) (M : List Nat) (u : Nat) (h : Rig W wb rb bm bw gv ob r w M u) (good : Nat → Bool) (hT : TabW W)
    (hw : w.done = false) (n : Nat) (hn : n < 9000) (hd : (itR good n (r, w, M, u)).2.1.done = true)
    (hc : ∀ k, k < n → (itR good k (r, w, M, u)).2.1.done = false → (itR good k (r, w, M, u)).2.1.steps < 1000000 ∧ Can (itR good k (r, w, M, u)).2.1 (itR good k (r, w, M, u)).2.2.1 (itR good k (r, w, M, u)).2.2.2) :
    Calls Tryz.prog 53 #[.pointer (some ⟨wb, 0, none⟩), .pointer (some ⟨bm, 0, none⟩)] W fun e W' => e = .returned (.tuple #[.int .u64 ((resR (itR good n (r, w, M, u)).2.1).1 : Nat), .int .i64 (resR (itR good n (r, w, M, u)).2.1).2.1, .int .i64 (resR (itR good n (r, w, M, u)).2.1).2.2]) ∧
      ∃ ob', Rig W' wb rb bm bw gv ob' (itR good n (r, w, M, u)).1 (itR good n (r, w, M, u)).2.1 (itR good n (r, w, M, u)).2.2.1 (itR good n (r, w, M, u)).2.2.2 ∧ Chg (wb :: rb :: bm :: bw :: ob.toList) W W' ∧ (ob' = ob ∨ ∃ g, ob' = some g ∧ W.heap.size ≤ g) := by
  obtain ⟨s0, hs0⟩ : ∃ s0, s0 = (r, w, M, u) := ⟨_, rfl⟩
  rw [← hs0] at hd hc ⊢
  obtain ⟨SN, hSN⟩ : ∃ SN, SN = itR good n s0 := ⟨_, rfl⟩
  rw [← hSN] at hd ⊢
  have HH := Lib.hid (show Rig W wb rb bm bw gv ob s0.1 s0.2.1 s0.2.2.1 s0.2.2.2 ∧ TabW W ∧ 0 ∉ (wb :: rb :: bm :: bw :: ob.toList) ∧ s0.2.1.done = false from by rw [hs0]; exact ⟨h, hT, h.ne0 hT, hw⟩)
  have HC := Lib.hid hc
  have HN := Lib.hid (And.intro hSN hd)
  clear h hT hs0 hc hd hSN hw
  go_enter Tryz.func53, Tryz.ntmps53
  go_wp2_with fail
  go_loopw [7] (fun x7 wr => ∃ (k : Nat) (s : RRack × RWork × List Nat × Nat) (obr : Option Nat), k ≤ n ∧ x7 = .int .i64 k ∧ s = itR good k s0 ∧ s.2.1.done = false ∧ Rig wr wb rb bm bw gv obr s.1 s.2.1 s.2.2.1 s.2.2.2 ∧ Chg (wb :: rb :: bm :: bw :: ob.toList) W wr ∧ (obr = ob ∨ ∃ g, obr = some g ∧ W.heap.size ≤ g)) (fun x7 _ => 9000 - (intOf x7).toNat)
  case atStart => exact ⟨0, s0, ob, by omega, rfl, rfl, HH.out.2.2.2, HH.out.1, Chg.refl _ _, .inl rfl⟩
  case round =>
    rename_i wr _
    obtain ⟨k, s, obr, hk, rfl, hs, hd1, G, C, hob⟩ := hrel
    have hkn : k < n := by
      rcases Nat.lt_or_ge k n with h | h
      · exact h
      · obtain rfl : k = n := by omega
        have := HN.out.2; rw [HN.out.1, ← hs, hd1] at this; simp at this
    have hst := HC.out k hkn
    rw [← hs] at hst
    obtain ⟨r1, w1, M1, u1⟩ := s
    have T1 : TabW wr := tab_chg HH.out.2.1 C HH.out.2.2.1
    have HST := Lib.hid (wstep_any wr wb rb bm bw gv obr r1 w1 M1 u1 G good T1 (hst hd1).1 (fun h => (hst h).2))
    obtain ⟨S, hS⟩ : ∃ S, S = stepR good r1 w1 M1 u1 := ⟨_, rfl⟩
    rw [← hS] at HST
    have hS' : S = itR good (k + 1) s0 := by rw [itR_succ, ← hs, hS]
    have HRES := Lib.hid (fun (W' : World) (ob' : Option Nat) (G : Rig W' wb rb bm bw gv ob' S.1 S.2.1 S.2.2.1 S.2.2.2) => wresult_any W' wb rb gv ob' S.2.1 G.wk)
    have HCH := Lib.hid (show ∀ W' ob', Chg (wb :: rb :: bm :: bw :: obr.toList) wr W' → (ob' = obr ∨ ∃ g, ob' = some g ∧ wr.heap.size ≤ g) → Chg (wb :: rb :: bm :: bw :: ob.toList) W W' ∧ (ob' = ob ∨ ∃ g, ob' = some g ∧ W.heap.size ≤ g) from by
      intro W' ob' C' h'
      have hsz := C.size
      constructor
      · refine C.then C' fun g hg => ?_
        simp only [List.mem_cons] at hg ⊢
        rcases hg with rfl | rfl | rfl | rfl | hg
        · exact .inl (.inl rfl)
        · exact .inl (.inr (.inl rfl))
        · exact .inl (.inr (.inr (.inl rfl)))
        · exact .inl (.inr (.inr (.inr (.inl rfl))))
        · rcases hob with rfl | ⟨g', rfl, h2⟩
          · exact .inl (.inr (.inr (.inr (.inr hg))))
          · simp at hg; subst hg; exact .inr h2
      · rcases h' with rfl | ⟨g', rfl, h2⟩
        · exact hob
        · exact .inr ⟨g', rfl, by omega⟩)
    have HS' := Lib.hid hS'
    clear hs G C hob T1 hst hS hS' hd1
    have hk9 : (k : Int) < 9000 := by omega
    obtain ⟨dn, hdn⟩ : ∃ dn, dn = S.2.1.done := ⟨_, rfl⟩
    rw [← hdn] at HST
    have HDN := Lib.hid hdn
    clear hdn
    cases dn with
    | false =>
      go_wp2_with (go_at_call 12; refine HST.out.mono ?_; rintro e w2 ⟨rfl, ob', G2, C2, O2⟩; have HG := Lib.hid (And.intro G2 (HCH.out _ _ C2 O2)); clear G2 C2 O2)
      go_roundw
      case rel => exact ⟨k + 1, S, ob', by omega, by go_num, HS'.out, HDN.out.symm, HG.out.1, HG.out.2.1, HG.out.2.2⟩
      case measure => simp [intOf] <;> omega
    | true =>
      have hSN : S = SN := by
        rw [HN.out.1, show n = (k + 1) + (n - (k + 1)) from by omega, itR_add, ← HS'.out, itR_done HDN.out.symm]
      subst hSN
      go_wp2_with (first
        | (go_at_call 12; refine HST.out.mono ?_; rintro e w2 ⟨rfl, ob', G2, C2, O2⟩; have HR2 := Lib.hid (HRES.out _ _ G2); have HG := Lib.hid (And.intro G2 (HCH.out _ _ C2 O2)); clear G2 C2 O2)
        | (go_at_call 38; refine HR2.out.mono ?_; rintro e w3 ⟨rfl, C3⟩))
      go_ret3
      refine ⟨rfl, ob', ⟨Blk.chg HG.out.1.wk C3 (by simp), Blk.chg HG.out.1.rk C3 (by simp), HG.out.1.mem.chg C3 (by simp) (by simp), HG.out.1.opChg (C3.mono (by simp)), HG.out.1.ok, HG.out.1.kind, HG.out.1.level, HG.out.1.steps⟩, HG.out.2.1.then C3 (by simp), HG.out.2.2⟩
end Go.Proofs.YtjdbgohfedjifaaGreatDoor
