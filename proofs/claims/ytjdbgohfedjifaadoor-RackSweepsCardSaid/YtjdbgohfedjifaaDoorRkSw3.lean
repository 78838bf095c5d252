/- rack: all of a work that asks; what tells of a word (RackSweeps). -/
import Derived.Test.YtjdbgohfedjifaaDoorRkSw2
import Derived.Test.YtjdbgohfedjifaaDoorRkA
import Derived.Test.YtjdbgohfedjifaaDoorRkW
import Derived.Test.YtjdbgohfedjifaaDoorRkIn
namespace Go.Proofs.YtjdbgohfedjifaaDoor
open Go.RowKit Bosun
set_option maxHeartbeats 8000000 in
theorem wallF_any (W : World) (wb rb bm bw : Nat) (gv : Value) (ob : Option Nat) (r : RRack) (w : RWork) (M : List Nat) (u : Nat) (h : Rig W wb rb bm bw gv ob r w M u) (good : Nat → Bool) (hT : TabW W)
    (hw : w.done = false) (n : Nat) (hn : n < 9000) (hd : (itR good n (r, w, M, u)).2.1.done = true)
    (hc : ∀ k, k < n → (itR good k (r, w, M, u)).2.1.done = false → (itR good k (r, w, M, u)).2.1.steps < 1000000 ∧ Fit (itR good k (r, w, M, u)).2.1 ∧ (itR good k (r, w, M, u)).2.1.next ≠ .worst)
    (hG : ∀ W', Chg (wb :: rb :: bm :: bw :: ob.toList) W W' → GoodF W' wb gv good) :
    Calls Tryd.prog 10 #[.pointer (some ⟨wb, 0, none⟩), .pointer (some ⟨bm, 0, none⟩)] W fun e W' => e = .returned (.tuple #[.int .u64 ((resR (itR good n (r, w, M, u)).2.1).1 : Nat), .int .i64 (resR (itR good n (r, w, M, u)).2.1).2.1, .int .i64 (resR (itR good n (r, w, M, u)).2.1).2.2]) ∧
      ∃ ob', Rig W' wb rb bm bw gv ob' (itR good n (r, w, M, u)).1 (itR good n (r, w, M, u)).2.1 (itR good n (r, w, M, u)).2.2.1 (itR good n (r, w, M, u)).2.2.2 ∧ Chg (wb :: rb :: bm :: bw :: ob.toList) W W' ∧ (ob' = ob ∨ ∃ g, ob' = some g ∧ W.heap.size ≤ g) := by
  obtain ⟨s0, hs0⟩ : ∃ s0, s0 = (r, w, M, u) := ⟨_, rfl⟩
  rw [← hs0] at hd hc ⊢
  obtain ⟨SN, hSN⟩ : ∃ SN, SN = itR good n s0 := ⟨_, rfl⟩
  rw [← hSN] at hd ⊢
  have HH := Lib.hid (show Rig W wb rb bm bw gv ob s0.1 s0.2.1 s0.2.2.1 s0.2.2.2 ∧ TabW W ∧ 0 ∉ (wb :: rb :: bm :: bw :: ob.toList) ∧ s0.2.1.done = false from by rw [hs0]; exact ⟨h, hT, h.ne0 hT, hw⟩)
  have HC := Lib.hid hc
  have HGG := Lib.hid hG
  clear hG
  have HN := Lib.hid (And.intro hSN hd)
  clear h hT hs0 hc hd hSN hw
  go_enter Tryd.func10, Tryd.ntmps10
  go_wp2_with fail
  go_loopw [7] (fun x7 wr => ∃ (k : Nat) (s : RRack × RWork × List Nat × Nat) (obr : Option Nat), k ≤ n ∧ x7 = .int .i64 k ∧ s = itR good k s0 ∧ s.2.1.done = false ∧ Rig wr wb rb bm bw gv obr s.1 s.2.1 s.2.2.1 s.2.2.2 ∧ Chg (wb :: rb :: bm :: bw :: ob.toList) W wr ∧ (obr = ob ∨ ∃ g, obr = some g ∧ W.heap.size ≤ g)) (fun x7 _ => 9000 - (intOf x7).toNat)
  case atStart => exact ⟨0, s0, ob, by omega, rfl, rfl, HH.out.2.2.2, HH.out.1, Chg.refl _ _, .inl rfl⟩
  case round =>
    rename_i wr _
    obtain ⟨k, s, obr, hk, rfl, hs, hd1, G, C, hob⟩ := hrel
    have hkn : k < n := by
      rcases Nat.lt_or_ge k n with h | h
      · exact h
      · obtain rfl : k = n := by omega
        have := HN.out.2; rw [HN.out.1, ← hs, hd1] at this; simp at this
    have hst := HC.out k hkn
    rw [← hs] at hst
    obtain ⟨r1, w1, M1, u1⟩ := s
    have T1 : TabW wr := tab_chg HH.out.2.1 C HH.out.2.2.1
    have HST := Lib.hid (wstepG_any wr wb rb bm bw gv obr r1 w1 M1 u1 G good T1 (hst hd1).1 (fun h => (hst h).2.1) (fun _ _ => HGG.out _ C) (fun h => (hst h).2.2))
    obtain ⟨S, hS⟩ : ∃ S, S = stepR good r1 w1 M1 u1 := ⟨_, rfl⟩
    rw [← hS] at HST
    have hS' : S = itR good (k + 1) s0 := by rw [itR_succ, ← hs, hS]
    have HRES := Lib.hid (fun (W' : World) (ob' : Option Nat) (G : Rig W' wb rb bm bw gv ob' S.1 S.2.1 S.2.2.1 S.2.2.2) => wresult_any W' wb rb gv ob' S.2.1 G.wk)
    have HCH := Lib.hid (show ∀ W' ob', Chg (wb :: rb :: bm :: bw :: obr.toList) wr W' → (ob' = obr ∨ ∃ g, ob' = some g ∧ wr.heap.size ≤ g) → Chg (wb :: rb :: bm :: bw :: ob.toList) W W' ∧ (ob' = ob ∨ ∃ g, ob' = some g ∧ W.heap.size ≤ g) from by
      intro W' ob' C' h'
      have hsz := C.size
      constructor
      · refine C.then C' fun g hg => ?_
        simp only [List.mem_cons] at hg ⊢
        rcases hg with rfl | rfl | rfl | rfl | hg
        · exact .inl (.inl rfl)
        · exact .inl (.inr (.inl rfl))
        · exact .inl (.inr (.inr (.inl rfl)))
        · exact .inl (.inr (.inr (.inr (.inl rfl))))
        · rcases hob with rfl | ⟨g', rfl, h2⟩
          · exact .inl (.inr (.inr (.inr (.inr hg))))
          · simp at hg; subst hg; exact .inr h2
      · rcases h' with rfl | ⟨g', rfl, h2⟩
        · exact hob
        · exact .inr ⟨g', rfl, by omega⟩)
    have HS' := Lib.hid hS'
    clear hs G C hob T1 hst hS hS' hd1
    have hk9 : (k : Int) < 9000 := by omega
    obtain ⟨dn, hdn⟩ : ∃ dn, dn = S.2.1.done := ⟨_, rfl⟩
    rw [← hdn] at HST
    have HDN := Lib.hid hdn
    clear hdn
    cases dn with
    | false =>
      go_wp2_with (go_at_call 23; refine HST.out.mono ?_; rintro e w2 ⟨rfl, ob', G2, C2, O2⟩; have HG := Lib.hid (And.intro G2 (HCH.out _ _ C2 O2)); clear G2 C2 O2)
      go_roundw
      case rel => exact ⟨k + 1, S, ob', by omega, by go_num, HS'.out, HDN.out.symm, HG.out.1, HG.out.2.1, HG.out.2.2⟩
      case measure => simp [intOf] <;> omega
    | true =>
      have hSN : S = SN := by
        rw [HN.out.1, show n = (k + 1) + (n - (k + 1)) from by omega, itR_add, ← HS'.out, itR_done HDN.out.symm]
      subst hSN
      go_wp2_with (first
        | (go_at_call 23; refine HST.out.mono ?_; rintro e w2 ⟨rfl, ob', G2, C2, O2⟩; have HR2 := Lib.hid (HRES.out _ _ G2); have HG := Lib.hid (And.intro G2 (HCH.out _ _ C2 O2)); clear G2 C2 O2)
        | (go_at_call 24; refine HR2.out.mono ?_; rintro e w3 ⟨rfl, C3⟩))
      go_ret3
      refine ⟨rfl, ob', ⟨Blk.chg HG.out.1.wk C3 (by simp), Blk.chg HG.out.1.rk C3 (by simp), HG.out.1.mem.chg C3 (by simp) (by simp), HG.out.1.opChg (C3.mono (by simp)), HG.out.1.ok, HG.out.1.kind, HG.out.1.level, HG.out.1.steps⟩, HG.out.2.1.then C3 (by simp), HG.out.2.2⟩
theorem whole_runF {W0 W W1 : World} {wb rb bm bw : Nat} {gv : Value} {ob : Option Nat} {r : RRack} {w : RWork} {M : List Nat} {u : Nat} (h : Rest W0 W rb bm bw r M u) (C1 : Chg [] W W1) (hw : W.heap.size ≤ wb) (ho : ∀ g ∈ ob.toList, W.heap.size ≤ g) (G : Rig W1 wb rb bm bw gv ob r w M u) (hd : w.done = false)
    {good : Nat → Bool} {P : RS → Prop} (n : Nat) (hn : n < 9000) (hr : RunF good n (r, w, M, u) P) (hP : ∀ s, P s → s.2.1.done = true) (hG : ∀ W', Chg (wb :: rb :: bm :: bw :: ob.toList) W1 W' → GoodF W' wb gv good) :
    Calls Tryd.prog 10 #[.pointer (some ⟨wb, 0, none⟩), .pointer (some ⟨bm, 0, none⟩)] W1 fun e W' => ∃ s : RS, P s ∧ e = .returned (.tuple #[.int .u64 ((resR s.2.1).1 : Nat), .int .i64 (resR s.2.1).2.1, .int .i64 (resR s.2.1).2.2]) ∧ Rest W0 W' rb bm bw s.1 s.2.2.1 s.2.2.2 ∧ Chg [rb, bm, bw] W W' := by
  obtain ⟨a1, a2⟩ := hr.spec
  refine (wallF_any W1 wb rb bm bw gv ob r w M u G good (h.tab.keep C1) hd n hn (hP _ a1) (fun k hk _ => a2 k hk) hG).mono ?_
  rintro e W' ⟨rfl, ob', G2, C2, _⟩
  refine ⟨_, a1, rfl, h.after C1 hw ho G G2 C2, (C1.mono (by simp)).then C2 fun g hg => ?_⟩
  simp only [List.mem_cons, List.not_mem_nil, or_false] at hg ⊢
  rcases hg with rfl | rfl | rfl | rfl | hg
  · exact .inr hw
  · exact .inl (.inl rfl)
  · exact .inl (.inr (.inl rfl))
  · exact .inl (.inr (.inr rfl))
  · exact .inr (ho g hg)
theorem sw1_any (W : World) (cb : Nat) (v : Value) (l : List Nat) (x : Nat) (hB : Blk W cb #[v] 42) (hv : Reads W v (words l)) :
    Calls Tryd.prog 18 #[.int .u64 (x : Nat), .pointer (some ⟨cb, 0, none⟩)] W fun e W' => e = .returned (.bool (!decide (x ∈ l))) ∧ Chg [] W W' := by
  have c0 : W.cell? ⟨cb, 0, none⟩ = some v := hB.cell 0
  have HI := Lib.hid (in_any v l x W hv)
  obtain ⟨ao, cap, rfl, hm, hc⟩ := hv
  obtain ⟨b, hb⟩ : ∃ b, b = decide (x ∈ l) := ⟨_, rfl⟩
  rw [← hb] at HI ⊢
  clear hB hb hm hc
  go_enter Tryd.func18, Tryd.ntmps18
  go_wp2_with (go_at_call 17; refine HI.out.mono ?_; rintro e w2 ⟨rfl, rfl⟩)
  go_ret
  exact ⟨rfl, Chg.refl _ _⟩
theorem goodF_sw {W : World} {wb cb : Nat} {v : Value} {l : List Nat} (hB : Blk W cb #[v] 42) (hne : cb ≠ wb) (hR : ∀ W1, Chg [wb] W W1 → Reads W1 v (words l)) :
    GoodF W wb (.func (.func 18) #[] #[.pointer (some ⟨cb, 0, none⟩)]) (fun x => !decide (x ∈ l)) :=
  ⟨cb, rfl, fun W1 C x _ => sw1_any W1 cb v l x (hB.chg C (by simp; exact hne)) (hR W1 C)⟩
end Go.Proofs.YtjdbgohfedjifaaDoor
