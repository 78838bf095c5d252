/- rack: what begins: Rob, Shed, and the law's begin; what tells of a word. -/
import Derived.Test.YtjdbgohfedjifaaDoorRkP4b
import Derived.Test.YtjdbgohfedjifaaDoorRk12
import Derived.Test.YtjdbgohfedjifaaDoorRkIn
namespace Bosun
open Go
/-- A worker's next work. -/
def beginW (r : RRack) (k : Nat) (name : Nat) (x : Nat) (level : Int) (pin : Bool) : RWork :=
  if k = 0 ∧ name % 4 = 2 then takeW else if k = 0 ∧ name % 4 = 3 then shedW else if 0 < k then robW else putW r x (holdL level) pin
end Bosun
namespace Go.Proofs.YtjdbgohfedjifaaDoor
open Go.RowKit Bosun
theorem bin_fnb (a : Option Addr) (w : World) : (binOp .eql 45 (.func (.func 45) #[] #[.pointer a]) .nilFunc).run Tryd.prog w = .ok (.bool false) w := by kernel_rfl
set_option maxRecDepth 8000 in
theorem sure_fnb (a : Option Addr) (w : World) : Calls Tryd.prog 37 #[.func (.func 45) #[] #[.pointer a]] w fun e w' => e = .returned (.func (.func 45) #[] #[.pointer a]) ∧ w = w' := by
  go_enter Tryd.func37, Tryd.ntmps37
  go_wp2_with fail
  rw [bin_fnb]
  go_wp2_with fail
  go_ret
  exact ⟨rfl, rfl⟩
set_option maxHeartbeats 4000000 in
theorem rrob_any (W : World) (rb bm bw : Nat) (r : RRack) (M : List Nat) (u : Nat) (h : IsRk W rb r) (hm : IsMem W bm bw M u) (ok : OkRack r) (cb : Nat) :
    Calls Tryd.prog 29 #[.pointer (some ⟨rb, 0, none⟩), .func (.func 45) #[] #[.pointer (some ⟨cb, 0, none⟩)]] W fun e W' => ∃ wb, e = .returned (.pointer (some ⟨wb, 0, none⟩)) ∧ Rig W' wb rb bm bw (.func (.func 45) #[] #[.pointer (some ⟨cb, 0, none⟩)]) none r robW M u ∧ Chg [] W W' ∧ W.heap.size ≤ wb := by
  have HH := Lib.hid (And.intro h (And.intro hm ok))
  have HS := Lib.hid (fun w => sure_fnb (some ⟨cb, 0, none⟩) w)
  clear h hm ok
  go_enter Tryd.func29, Tryd.ntmps29
  go_wp2_with (go_at_call 37; refine (HS.out _).mono ?_; rintro e w1 ⟨rfl, rfl⟩)
  go_ret
  exact ⟨W.heap.size, rfl, ⟨Blk.new _ _ _, Blk.chg HH.out.1 ((Chg.refl [] W).alloc _) (by simp), HH.out.2.1.chg ((Chg.refl [] W).alloc _) (by simp) (by simp), trivial, HH.out.2.2, by decide, fun _ => by decide, by decide⟩, (Chg.refl _ _).alloc _, Nat.le_refl _⟩
set_option maxHeartbeats 4000000 in
theorem rshed_any (W : World) (rb bm bw : Nat) (r : RRack) (M : List Nat) (u : Nat) (h : IsRk W rb r) (hm : IsMem W bm bw M u) (ok : OkRack r) :
    Calls Tryd.prog 30 #[.pointer (some ⟨rb, 0, none⟩)] W fun e W' => ∃ wb, e = .returned (.pointer (some ⟨wb, 0, none⟩)) ∧ Rig W' wb rb bm bw .nilFunc none r shedW M u ∧ Chg [] W W' ∧ W.heap.size ≤ wb := by
  have HH := Lib.hid (And.intro h (And.intro hm ok))
  clear h hm ok
  go_enter Tryd.func30, Tryd.ntmps30
  go_wp2_with fail
  go_ret
  exact ⟨W.heap.size, rfl, ⟨Blk.new _ _ _, Blk.chg HH.out.1 ((Chg.refl [] W).alloc _) (by simp), HH.out.2.1.chg ((Chg.refl [] W).alloc _) (by simp) (by simp), trivial, HH.out.2.2, by decide, fun _ => by decide, by decide⟩, (Chg.refl _ _).alloc _, Nat.le_refl _⟩
theorem b1_any (W : World) (cb : Nat) (v : Value) (l : List Nat) (x : Nat) (hB : Blk W cb #[v] 42) (hv : Reads W v (words l)) :
    Calls Tryd.prog 45 #[.int .u64 (x : Nat), .pointer (some ⟨cb, 0, none⟩)] W fun e W' => e = .returned (.bool (!decide (x ∈ l))) ∧ Chg [] W W' := by
  have c0 : W.cell? ⟨cb, 0, none⟩ = some v := hB.cell 0
  have HI := Lib.hid (in_any v l x W hv)
  obtain ⟨ao, cap, rfl, hm, hc⟩ := hv
  obtain ⟨b, hb⟩ : ∃ b, b = decide (x ∈ l) := ⟨_, rfl⟩
  rw [← hb] at HI ⊢
  clear hB hb hm hc
  go_enter Tryd.func45, Tryd.ntmps45
  go_wp2_with (go_at_call 17; refine HI.out.mono ?_; rintro e w2 ⟨rfl, rfl⟩)
  go_ret
  exact ⟨rfl, Chg.refl _ _⟩
theorem goodF_b1 {W : World} {wb cb : Nat} {v : Value} {l : List Nat} (hB : Blk W cb #[v] 42) (hne : cb ≠ wb) (hR : ∀ W1, Chg [wb] W W1 → Reads W1 v (words l)) :
    GoodF W wb (.func (.func 45) #[] #[.pointer (some ⟨cb, 0, none⟩)]) (fun x => !decide (x ∈ l)) :=
  ⟨cb, rfl, fun W1 C x _ => b1_any W1 cb v l x (hB.chg C (by simp; exact hne)) (hR W1 C)⟩
/-- What a work's closure leans on. -/
def Box (W : World) (gv : Value) (sl : Value) : Prop := ∃ cb, gv = .func (.func 45) #[] #[.pointer (some ⟨cb, 0, none⟩)] ∧ Blk W cb #[sl] 42
/-- What begin leaves. sl: what the closure's box holds; nb: whether there is a closure. -/
def Begun (W W' : World) (rb bm bw : Nat) (r : RRack) (M : List Nat) (u : Nat) (w0 : RWork) (sl : Value) (nb : Prop) (e : Ending) : Prop :=
  ∃ wb gv ob, e = .returned (.pointer (some ⟨wb, 0, none⟩)) ∧ Rig W' wb rb bm bw gv ob r w0 M u ∧ Chg [] W W' ∧ W.heap.size ≤ wb ∧ (∀ g ∈ ob.toList, W.heap.size ≤ g) ∧ (nb → Box W' gv sl)
set_option maxRecDepth 8000 in
set_option maxHeartbeats 8000000 in
theorem begin_any (W : World) (rb bm bw : Nat) (r : RRack) (M : List Nat) (u : Nat) (h : IsRk W rb r) (hm : IsMem W bm bw M u) (ok : OkRack r) (k : Nat) (hk : k < 4) (who name : Nat) (hname : name < 256) (x : Nat) (hx : x < 18446744073709551616) (level : Int) (pin : Bool) (ao : Option Addr) (n c : Nat) (hn : n ≤ c) (hnm : n ≤ maxLen) :
    Calls Tryd.prog 22 #[.pointer (some ⟨rb, 0, none⟩), .int .i64 (k : Nat), .agg #[.int .u8 (who : Nat), .int .u8 (name : Nat), .int .u64 (x : Nat), .int .i64 level, .bool pin, .slice ao n c]] W fun e W' => Begun W W' rb bm bw r M u (beginW r k name x level pin) (.slice ao (min n 20) c) (¬ (k = 0 ∧ (name % 4 = 2 ∨ name % 4 = 3))) e := by
  have HH := Lib.hid (And.intro h (And.intro hm ok))
  have HF := Lib.hid (few_any ao n c hn hnm)
  obtain ⟨n20, hn20⟩ : ∃ n20, n20 = min n 20 := ⟨_, rfl⟩
  rw [← hn20] at HF ⊢
  have hnm4 : (IntKind.u8.wrap ((name : Int) % 4)) = ((name % 4 : Nat) : Int) := by rw [IntKind.wrap_u8]; omega
  have hm4 : Int.tmod (name : Int) 4 = ((name % 4 : Nat) : Int) := by rw [Int.tmod_eq_emod_of_nonneg (by omega)]; omega
  clear h hm ok hn20 hn hnm
  have C2 : Chg [] W ((W.alloc (.cells #[.int .u8 (who : Nat), .int .u8 (name : Nat), .int .u64 (x : Nat), .int .i64 level, .bool pin, .slice ao n c] 52)).alloc (.cells #[.slice ao n20 c] 42)) := ((Chg.refl _ _).alloc _).alloc _
  have B2 := Blk.new (W.alloc (.cells #[.int .u8 (who : Nat), .int .u8 (name : Nat), .int .u64 (x : Nat), .int .i64 level, .bool pin, .slice ao n c] 52)) #[.slice ao n20 c] 42
  simp only [World.size_alloc] at B2
  have HC2 := Lib.hid C2
  have HB2 := Lib.hid B2
  clear C2 B2
  have HTAKE := Lib.hid (fun W1 (C : Chg [] W W1) => rtake_any W1 rb bm bw r M u (Blk.chg HH.out.1 C (by simp)) (HH.out.2.1.chg C (by simp) (by simp)) HH.out.2.2)
  have HSHED := Lib.hid (fun W1 (C : Chg [] W W1) => rshed_any W1 rb bm bw r M u (Blk.chg HH.out.1 C (by simp)) (HH.out.2.1.chg C (by simp) (by simp)) HH.out.2.2)
  have HROB := Lib.hid (fun W1 (C : Chg [] W W1) => rrob_any W1 rb bm bw r M u (Blk.chg HH.out.1 C (by simp)) (HH.out.2.1.chg C (by simp) (by simp)) HH.out.2.2 (W.heap.size + 1))
  have HPUT := Lib.hid (fun W1 (C : Chg [] W W1) => rput_any W1 rb bm bw r M u (Blk.chg HH.out.1 C (by simp)) (HH.out.2.1.chg C (by simp) (by simp)) HH.out.2.2 x hx level pin (.func (.func 45) #[] #[.pointer (some ⟨W.heap.size + 1, 0, none⟩)]) _ _ (fun w => sure_fnb (some ⟨W.heap.size + 1, 0, none⟩) w))
  go_enter Tryd.func22, Tryd.ntmps22
  by_cases hk0 : k = 0
  · subst hk0
    by_cases h2 : name % 4 = 2
    · have HN := Lib.hid (show beginW r 0 name x level pin = takeW by unfold beginW; rw [if_pos ⟨rfl, h2⟩])
      have HN2 := Lib.hid h2
      go_wp2_with (first
        | (go_at_call 16; refine (HF.out _).mono ?_; rintro e w1 ⟨rfl, rfl⟩)
        | (go_at_call 13; refine (HTAKE.out _ HC2.out).mono ?_; rintro e w2 ⟨wb, rfl, G, C, q⟩)
        | fail)
      go_ret
      rw [HN.out]
      unfold Begun
      exact ⟨wb, _, _, rfl, G, HC2.out.then C (by simp), by have := HC2.out.size; omega, by simp, fun h => by first | exact h.elim | exact absurd ⟨rfl, .inl HN2.out⟩ h⟩
    · by_cases h3 : name % 4 = 3
      · have HN := Lib.hid (show beginW r 0 name x level pin = shedW by unfold beginW; rw [if_neg (by omega), if_pos ⟨rfl, h3⟩])
        have HN2 := Lib.hid h3
        have e2 : ((((name % 4 : Nat) : Int)) == 2) = false := by simp; omega
        go_wp2_with (first
          | (go_at_call 16; refine (HF.out _).mono ?_; rintro e w1 ⟨rfl, rfl⟩)
          | (go_at_call 30; refine (HSHED.out _ HC2.out).mono ?_; rintro e w2 ⟨wb, rfl, G, C, q⟩)
          | fail)
        go_ret
        rw [HN.out]
        unfold Begun
        exact ⟨wb, _, _, rfl, G, HC2.out.then C (by simp), by have := HC2.out.size; omega, by simp, fun h => by first | exact h.elim | exact absurd ⟨rfl, .inr HN2.out⟩ h⟩
      · have HN := Lib.hid (show beginW r 0 name x level pin = putW r x (holdL level) pin by unfold beginW; rw [if_neg (by omega), if_neg (by omega), if_neg (by omega)])
        have e2 : ((((name % 4 : Nat) : Int)) == 2) = false := by simp; omega
        have e3 : ((((name % 4 : Nat) : Int)) == 3) = false := by simp; omega
        clear h2 h3
        go_wp2_with (first
          | (go_at_call 16; refine (HF.out _).mono ?_; rintro e w1 ⟨rfl, rfl⟩)
          | (go_at_call 11; refine (HPUT.out _ HC2.out).mono ?_; rintro e w2 ⟨wb, g, rfl, G, C, q, q2⟩)
          | fail)
        go_ret
        rw [HN.out]
        unfold Begun
        exact ⟨wb, _, _, rfl, G, HC2.out.then C (by simp), by have := HC2.out.size; omega, by simp; have := HC2.out.size; omega, fun _ => ⟨_, rfl, HB2.out.chg C (by simp)⟩⟩
  · have HN := Lib.hid (show beginW r k name x level pin = robW by unfold beginW; rw [if_neg (by omega), if_neg (by omega), if_pos (by omega)])
    have e0 : ((k : Int) == 0) = false := by simp; omega
    have e1 : (0 : Int) < (k : Int) := by omega
    go_wp2_with (first
      | (go_at_call 16; refine (HF.out _).mono ?_; rintro e w1 ⟨rfl, rfl⟩)
      | (go_at_call 29; refine (HROB.out _ HC2.out).mono ?_; rintro e w2 ⟨wb, rfl, G, C, q⟩)
      | fail)
    go_ret
    rw [HN.out]
    unfold Begun
    exact ⟨wb, _, _, rfl, G, HC2.out.then C (by simp), by have := HC2.out.size; omega, by simp, fun _ => ⟨_, rfl, HB2.out.chg C (by simp)⟩⟩
end Go.Proofs.YtjdbgohfedjifaaDoor
