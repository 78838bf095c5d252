/- rack, plays: like: both works tell the same. -/
import Derived.Test.YtjdbgohfedjifaaGreatDoorRpP
namespace Go.Proofs.YtjdbgohfedjifaaGreatDoor
open Go.RowKit Bosun
theorem Rig.keepR {W W' : World} {wb rb bm bw : Nat} {gv : Value} {ob : Option Nat} {r : RRack} {w : RWork} {M : List Nat} {u : Nat} (h : Rig W wb rb bm bw gv ob r w M u) (C : Chg [] W W') : Rig W' wb rb bm bw gv ob r w M u :=
  ⟨Blk.chg h.wk C (by simp), Blk.chg h.rk C (by simp), h.mem.chg C (by simp) (by simp), h.opChg (C.mono (by simp)), h.ok, h.kind, h.level, h.steps⟩
set_option maxHeartbeats 8000000 in
theorem like_any (W : World) (wb rb bm bw : Nat) (gv : Value) (ob : Option Nat) (r : RRack) (w : RWork) (M : List Nat) (u : Nat) (G : Rig W wb rb bm bw gv ob r w M u) (qb sb nm nw name xq : Nat) (bad : Value) (at_ : Nat) (obq : Option Nat) (oo : Option DOp)
    (Q : Qig W qb sb nm nw name xq bad at_ obq oo r w M u) (hp : Pln r w) (hname : name = nameR w.next) (hD : Doc r w xq at_ obq oo) :
    Calls Tryz.prog 11 #[.pointer (some ⟨wb, 0, none⟩), .pointer (some ⟨qb, 0, none⟩), .pointer (some ⟨bm, 0, none⟩), .pointer (some ⟨nm, 0, none⟩)] W fun e W' => e = .returned (.bool true) ∧ Chg [] W W' := by
  have n3 : name = 3 ↔ w.sheds = true := by rw [hp.sheds, ← hname]; simp
  have no : name = 3 → oo = w.op := fun q => hD.op (fun e => by rw [hname, e] at q; simp [nameR] at q)
  have h1 : name ≠ 0 → w.there = true := fun q => hp.there (by rw [← hname]; exact q)
  have h2 : w.there = true → w.holds = false ∨ name ≠ 0 := by
    intro ht
    by_cases h0 : name = 0
    · left
      rw [hname] at h0
      cases e : w.holds with
      | false => rfl
      | true =>
        rcases hp.thr h0 ht with q | ⟨q, _⟩ <;> rcases hp.hold h0 e with q' | q' <;> rw [q] at q' <;> cases q'
    · exact .inr h0
  have h4 : name < 4 := by rw [hname]; exact nameR_lt _
  have A1 := Lib.hid (wclaimed_any W wb rb bm bw gv ob r w M u G)
  have A2 := Lib.hid (fun W' (C : Chg [] W W') => qclaimed_any W' qb sb nm nw name xq bad at_ obq oo r w M u (Q.keep C) n3 no)
  have B1 := Lib.hid (fun W' (C : Chg [] W W') => wresult_any W' wb rb gv ob w (G.keepR C).wk)
  have B2 := Lib.hid (fun W' (C : Chg [] W W') => qresult_any W' qb sb name xq bad at_ obq w (Q.keep C).wk hD.xe)
  have D1 := Lib.hid (fun W' (C : Chg [] W W') => wheld_any W' wb rb gv ob w (G.keepR C).wk)
  have D2 := Lib.hid (fun W' (C : Chg [] W W') => qheld_any W' qb sb name xq bad at_ obq w (Q.keep C).wk h1 h2 (fun hd => hD.x hd) h4)
  have E1 := Lib.hid (fun W' (C : Chg [] W W') => wsteps_any W' wb rb gv ob w (G.keepR C).wk)
  obtain ⟨⟨a1, a2⟩, ha⟩ : ∃ a : Nat × Bool, a = clmR w M := ⟨_, rfl⟩
  rw [← ha] at A1 A2
  obtain ⟨⟨b1, b2, b3⟩, hb⟩ : ∃ a : Nat × Int × Int, a = resR w := ⟨_, rfl⟩
  rw [← hb] at B1 B2
  obtain ⟨⟨d1, d2⟩, hd⟩ : ∃ a : Nat × Bool, a = heldR w := ⟨_, rfl⟩
  rw [← hd] at D1 D2
  obtain ⟨st, hst⟩ : ∃ st, st = w.steps := ⟨_, rfl⟩
  have HC := Lib.hid (fun W' (C : Chg [] W W') => show W'.cell? ⟨qb, 13, none⟩ = some (.int .i64 (st : Nat)) by rw [hst, Blk.cell (Q.keep C).wk]; rfl)
  rw [← hst] at E1
  dsimp only at A1 A2 B1 B2 D1 D2 E1
  clear ha hb hd hst G Q hp hname hD n3 no h1 h2 h4
  go_enter Tryz.func11, Tryz.ntmps11
  go_wp2_with (first
    | (go_at_call 36; refine A1.out.mono ?_; rintro e w1 ⟨rfl, C1⟩; have H2 := Lib.hid (A2.out w1 C1))
    | (go_at_call 37; refine H2.out.mono ?_; rintro e w2 ⟨rfl, C2⟩; have K2 := C1.trans C2; have H3 := Lib.hid (B1.out w2 K2))
    | (go_at_call 38; refine H3.out.mono ?_; rintro e w3 ⟨rfl, C3⟩; have K3 := K2.trans C3; have H4 := Lib.hid (B2.out w3 K3))
    | (go_at_call 39; refine H4.out.mono ?_; rintro e w4 ⟨rfl, C4⟩; have K4 := K3.trans C4; have H5 := Lib.hid (D1.out w4 K4))
    | (go_at_call 40; refine H5.out.mono ?_; rintro e w5 ⟨rfl, C5⟩; have K5 := K4.trans C5; have H6 := Lib.hid (D2.out w5 K5))
    | (go_at_call 41; refine H6.out.mono ?_; rintro e w6 ⟨rfl, C6⟩; have K6 := K5.trans C6; have c3 := HC.out w6 K6)
    | fail)
  go_region_held3 (fun w' => w'.cell? ⟨qb, 13, none⟩ = some (.int .i64 (st : Nat))) (first | assumption | exact c3)
    (first
      | (go_at_call 42; refine (E1.out _ K6.drew).mono ?_; rintro e y ⟨rfl, rfl⟩))
  go_wp2_with fail
  go_ret
  exact ⟨ret_bool (by simp), K6.drew⟩
end Go.Proofs.YtjdbgohfedjifaaGreatDoor
