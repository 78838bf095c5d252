/- rack: Best. -/
import Derived.Test.YtjdbgohfedjifaaGreatDoorRk2
import Derived.Laws.BitsAllLaws
namespace Bosun
open Go
theorem least256 : ∀ x : Fin 256, x.val ≠ 0 → leastI x.val = ((leastTo x.val 8 0 : Nat) : Int) := by decide +kernel
theorem least256_lt : ∀ x : Fin 256, x.val ≠ 0 → leastTo x.val 8 0 < 8 := by decide +kernel
theorem or256 {a b : Nat} (ha : a < 256) (hb : b < 256) : a ||| b < 256 := by
  have : a ||| b < 2 ^ 8 := Nat.or_lt_two_pow (by omega) (by omega)
  simpa using this
theorem bestR_zero {r : RRack} (h : r.s0 ||| r.s1 = 0) : bestR r = 8 := by unfold bestR; rw [h]; rfl
end Bosun
namespace Go.Proofs.YtjdbgohfedjifaaGreatDoor
open Go.RowKit Bosun
set_option maxHeartbeats 4000000 in
theorem best_any (rb : Nat) (r : RRack) (W : World) (hr : IsRk W rb r) (ok : OkRack r) (hT : TabW W) :
    Calls Tryz.prog 15 #[.pointer (some ⟨rb, 0, none⟩)] W fun x W' => x = .returned (.int .i64 (bestR r : Nat)) ∧ Chg [] W W' := by
  have d0 : W.cell? ⟨rb, 33, none⟩ = some (.int .u64 (r.s0 : Nat)) := hr.cset (k := 0) (by omega)
  have d1 : W.cell? ⟨rb, 34, none⟩ = some (.int .u64 (r.s1 : Nat)) := hr.cset (k := 1) (by omega)
  have b1 : bits .or .u64 (r.s0 : Int) (r.s1 : Int) = ((r.s0 ||| r.s1 : Nat) : Int) := u64_or_nat _ _ ok.s0 ok.s1
  have hlt := or256 ok.z0 ok.z1
  have HT := Lib.hid hT
  obtain ⟨x, hx⟩ : ∃ x, x = r.s0 ||| r.s1 := ⟨_, rfl⟩
  rw [← hx] at b1 hlt
  have HL := Lib.hid (fun w (h : TabW w) => least_any x (by omega) w h)
  have hbz : x = 0 → bestR r = 8 := fun h => bestR_zero (by rw [← hx]; exact h)
  have hbn : x ≠ 0 → leastI x = ((bestR r : Nat) : Int) := fun h => by have h2 := least256 ⟨x, hlt⟩ h; simp only at h2; unfold bestR; rw [← hx]; exact h2
  have HZ := Lib.hid hbz
  have HN := Lib.hid hbn
  obtain ⟨a, ha⟩ : ∃ a, a = r.s0 := ⟨_, rfl⟩
  obtain ⟨b, hb⟩ : ∃ b, b = r.s1 := ⟨_, rfl⟩
  rw [← ha] at d0 b1
  rw [← hb] at d1 b1
  clear hr ok hT hx ha hb hbz hbn
  go_enter Tryz.func15, Tryz.ntmps15
  by_cases h0 : x = 0
  · have e0 : ((x : Int) == 0) = true := by simp [h0]
    have H0 := Lib.hid h0
    clear h0
    go_wp2_with fail
    go_region_held3 (fun w' => w'.cell? ⟨rb, 33, none⟩ = some (.int .u64 (a : Nat)) ∧ w'.cell? ⟨rb, 34, none⟩ = some (.int .u64 (b : Nat))) (first | assumption | exact ⟨d0, d1⟩ | fail) (fail)
    go_wp2_with fail
    go_ret
    exact ⟨by rw [HZ.out H0.out]; rfl, (Chg.refl _ _).drew⟩
  · have e0 : ((x : Int) == 0) = false := by simp; omega
    have H0 := Lib.hid h0
    clear h0
    go_wp2_with fail
    go_region_held3 (fun w' => w'.cell? ⟨rb, 33, none⟩ = some (.int .u64 (a : Nat)) ∧ w'.cell? ⟨rb, 34, none⟩ = some (.int .u64 (b : Nat))) (first | assumption | exact ⟨d0, d1⟩ | fail) (fail)
    go_wp2_with fail
    go_region_held3 (fun w' => w'.cell? ⟨rb, 33, none⟩ = some (.int .u64 (a : Nat)) ∧ w'.cell? ⟨rb, 34, none⟩ = some (.int .u64 (b : Nat))) (first | assumption | exact ⟨d0, d1⟩ | fail)
      (first | (go_at_call 47; refine (HL.out _ (TabW.keep HT.out (Chg.refl _ _).drew.drew)).mono ?_; rintro e w2 ⟨rfl, rfl⟩) | fail)
    go_wp2_with fail
    go_ret
    exact ⟨congrArg (fun z => Ending.returned (Value.int .i64 z)) (HN.out H0.out), (Chg.refl _ _).drew.drew⟩
end Go.Proofs.YtjdbgohfedjifaaGreatDoor

/- rack: what holds of a work between two steps; pushing (a push that is not refused), signing. -/
namespace Go.Proofs.YtjdbgohfedjifaaGreatDoor
open Go.RowKit Bosun
def OpAt (W : World) : Option Nat → Option DOp → Prop
  | none, none => True
  | some g, some o => IsOp W g o ∧ OkOp o
  | _, _ => False
structure Rig (W : World) (wb rb bm bw : Nat) (gv : Value) (ob : Option Nat) (r : RRack) (w : RWork) (M : List Nat) (u : Nat) : Prop where
  wk : IsWk W wb rb gv ob w
  rk : IsRk W rb r
  mem : IsMem W bm bw M u
  op : OpAt W ob w.op
  ok : OkRack r
  kind : w.kind < 2
  level : w.done = false → w.level < 8
  steps : w.steps ≤ 1000000
/-- What a work's next function leaves. -/
def Turned (W W' : World) (wb rb bm bw : Nat) (gv : Value) (ob : Option Nat) (s : RRack × RWork × List Nat × Nat) (e : Ending) : Prop :=
  e = .returned (.tuple #[]) ∧ ∃ ob', Rig W' wb rb bm bw gv ob' s.1 s.2.1 s.2.2.1 s.2.2.2 ∧ Chg (wb :: rb :: bm :: bw :: ob.toList) W W' ∧ (ob' = ob ∨ ∃ g, ob' = some g ∧ W.heap.size ≤ g)
section
variable {W W' : World} {wb rb bm bw : Nat} {gv : Value} {ob : Option Nat} {r : RRack} {w : RWork} {M : List Nat} {u : Nat}
theorem Rig.wr (h : Rig W wb rb bm bw gv ob r w M u) : wb ≠ rb := blk_ne h.wk h.rk (by decide)
theorem Rig.wm (h : Rig W wb rb bm bw gv ob r w M u) : wb ≠ bm := blk_ne h.wk h.mem.head (by decide)
theorem Rig.ww (h : Rig W wb rb bm bw gv ob r w M u) : wb ≠ bw := blk_ne h.wk h.mem.row (by decide)
theorem Rig.rm (h : Rig W wb rb bm bw gv ob r w M u) : rb ≠ bm := blk_ne h.rk h.mem.head (by decide)
theorem Rig.rw_ (h : Rig W wb rb bm bw gv ob r w M u) : rb ≠ bw := blk_ne h.rk h.mem.row (by decide)
theorem Rig.opOf (h : Rig W wb rb bm bw gv ob r w M u) {o : DOp} (ho : w.op = some o) : ∃ g, ob = some g ∧ IsOp W g o ∧ OkOp o ∧ g ≠ wb ∧ g ≠ rb ∧ g ≠ bm ∧ g ≠ bw := by
  have h1 := h.op
  rw [ho] at h1
  cases ob with
  | none => exact h1.elim
  | some g => exact ⟨g, rfl, h1.1, h1.2, blk_ne h1.1 h.wk (by decide), blk_ne h1.1 h.rk (by decide), blk_ne h1.1 h.mem.head (by decide), blk_ne h1.1 h.mem.row (by decide)⟩
theorem Rig.opChg (h : Rig W wb rb bm bw gv ob r w M u) (C : Chg [wb, rb, bm, bw] W W') : OpAt W' ob w.op := by
  have h1 := h.op
  cases hw : w.op with
  | none => rw [hw] at h1; cases ob with
    | none => trivial
    | some g => exact h1.elim
  | some o =>
    obtain ⟨g, rfl, a1, a2, a3, a4, a5, a6⟩ := h.opOf hw
    exact ⟨a1.chg C (by simp; exact ⟨a3, a4, a5, a6⟩), a2⟩
end
theorem resD_err {o : DOp} (h : o.done = true) : (resD o).2 = o.err := by
  unfold resD
  rw [if_neg (by rw [h]; simp)]
  by_cases he : o.err ≠ 0
  · rw [if_pos he]
  · rw [if_neg he]; simp at he; exact he.symm
theorem okRack_put {r : RRack} (h : OkRack r) {k s : Nat} (hs : s < 256) : OkRack (r.put k s) := by
  unfold RRack.put
  split
  · exact ⟨h.b0, h.b1, h.cap, hs, h.z1, h.turn⟩
  · exact ⟨h.b0, h.b1, h.cap, h.z0, hs, h.turn⟩
theorem put256 {s l : Nat} (hs : s < 256) (hl : l < 8) (b : Bool) : Bosun.put s (l : Int) b < 256 := by
  have : Bosun.put s (l : Int) b < 2 ^ 8 := by
    apply Nat.lt_pow_two_of_testBit
    intro j hj
    rw [put_testBit]
    rw [if_neg (by omega)]
    rw [Nat.testBit_lt_two_pow (Nat.lt_of_lt_of_le hs (show 256 ≤ 2 ^ j from by have := Nat.pow_le_pow_right (show 0 < 2 by decide) hj; simpa using this))]
    simp
  simpa using this
theorem okRack_set256 {r : RRack} (h : OkRack r) (k : Nat) : r.set k < 256 := by unfold RRack.set; split; exact h.z0; exact h.z1
set_option maxHeartbeats 8000000 in
theorem signing_any (W : World) (wb rb bm bw : Nat) (gv : Value) (ob : Option Nat) (r : RRack) (w : RWork) (M : List Nat) (u : Nat) (h : Rig W wb rb bm bw gv ob r w M u) (hd : w.done = false) :
    Calls Tryz.prog 98 #[.pointer (some ⟨wb, 0, none⟩), .pointer (some ⟨bm, 0, none⟩)] W fun e W' => Turned W W' wb rb bm bw gv ob (r, { w with done := true, err := 0 }, setA M r.base r.s0, tick M r.base u) e := by
  have HH := Lib.hid h
  have HS := Lib.hid (sign_any wb rb gv ob w r W h.wk h.rk h.ok bm bw M u h.mem)
  clear h
  go_enter Tryz.func98, Tryz.ntmps98
  go_wp2_with fail
  refine HS.out.mono ?_
  rintro e w1 ⟨rfl, M1, C1⟩
  have W1 : IsWk w1 wb rb gv ob w := Blk.chg HH.out.wk C1 (by simp; exact ⟨HH.out.wm, HH.out.ww⟩)
  have R1 : IsRk w1 rb r := Blk.chg HH.out.rk C1 (by simp; exact ⟨HH.out.rm, HH.out.rw_⟩)
  have HE := Lib.hid (wend_any wb rb gv ob w 0 w1 W1)
  go_wp2_with fail
  refine HE.out.mono ?_
  rintro e w2 ⟨rfl, W2, C2⟩
  have C12 : Chg [wb, bm, bw] W w2 := (C1.mono (by intro g hg; left; simp at hg ⊢; omega)).then C2 (by intro g hg; left; simp at hg ⊢; omega)
  have R2 : IsRk w2 rb r := Blk.chg R1 C2 (by simp; exact Ne.symm HH.out.wr)
  have M2 := M1.chg C2 (by simp; exact Ne.symm HH.out.wm) (by simp; exact Ne.symm HH.out.ww)
  have O2 : OpAt w2 ob w.op := HH.out.opChg (C12.mono (by intro g hg; left; simp at hg ⊢; omega))
  clear HS HE W1 R1 M1
  go_wp2_with fail
  go_end0
  exact ⟨rfl, ob, ⟨W2, R2, M2, O2, HH.out.ok, HH.out.kind, fun h => by simp at h, HH.out.steps⟩, C12.mono (by intro g hg; left; simp at hg ⊢; omega), .inl rfl⟩
set_option maxHeartbeats 8000000 in
theorem emptying_any (W : World) (wb rb bm bw : Nat) (gv : Value) (ob : Option Nat) (r : RRack) (w : RWork) (M : List Nat) (u : Nat) (h : Rig W wb rb bm bw gv ob r w M u) (hd : w.done = false) :
    Calls Tryz.prog 107 #[.pointer (some ⟨wb, 0, none⟩), .pointer (some ⟨bm, 0, none⟩)] W fun e W' => Turned W W' wb rb bm bw gv ob (r, { w with done := true, err := 8 }, setA M r.base r.s0, tick M r.base u) e := by
  have HH := Lib.hid h
  have HS := Lib.hid (sign_any wb rb gv ob w r W h.wk h.rk h.ok bm bw M u h.mem)
  clear h
  go_enter Tryz.func107, Tryz.ntmps107
  go_wp2_with fail
  refine HS.out.mono ?_
  rintro e w1 ⟨rfl, M1, C1⟩
  have W1 : IsWk w1 wb rb gv ob w := Blk.chg HH.out.wk C1 (by simp; exact ⟨HH.out.wm, HH.out.ww⟩)
  have R1 : IsRk w1 rb r := Blk.chg HH.out.rk C1 (by simp; exact ⟨HH.out.rm, HH.out.rw_⟩)
  have HE := Lib.hid (wend_any wb rb gv ob w 8 w1 W1)
  go_wp2_with fail
  refine HE.out.mono ?_
  rintro e w2 ⟨rfl, W2, C2⟩
  have C12 : Chg [wb, bm, bw] W w2 := (C1.mono (by intro g hg; left; simp at hg ⊢; omega)).then C2 (by intro g hg; left; simp at hg ⊢; omega)
  have R2 : IsRk w2 rb r := Blk.chg R1 C2 (by simp; exact Ne.symm HH.out.wr)
  have M2 := M1.chg C2 (by simp; exact Ne.symm HH.out.wm) (by simp; exact Ne.symm HH.out.ww)
  have O2 : OpAt w2 ob w.op := HH.out.opChg (C12.mono (by intro g hg; left; simp at hg ⊢; omega))
  clear HS HE W1 R1 M1
  go_wp2_with fail
  go_end0
  exact ⟨rfl, ob, ⟨W2, R2, M2, O2, HH.out.ok, HH.out.kind, fun h => by simp at h, HH.out.steps⟩, C12.mono (by intro g hg; left; simp at hg ⊢; omega), .inl rfl⟩
end Go.Proofs.YtjdbgohfedjifaaGreatDoor

/- rack: pushing (a push that is not refused), taking. -/
namespace Go.Proofs.YtjdbgohfedjifaaGreatDoor
open Go.RowKit Bosun
theorem wk_s11 {W : World} {wb rb : Nat} {gv : Value} {ob : Option Nat} {w : RWork} (h : IsWk W wb rb gv ob w) (b : Bool) : IsWk (W.setCell ⟨wb, 11, none⟩ (.bool b)) wb rb gv ob { w with there := b } := Blk.setCell h 11 _
theorem wk_s1 {W : World} {wb rb : Nat} {gv : Value} {ob : Option Nat} {w : RWork} (h : IsWk W wb rb gv ob w) (n : RNext) : IsWk (W.setCell ⟨wb, 1, none⟩ (nextV n)) wb rb gv ob { w with next := n } := Blk.setCell h 1 _
theorem wk_s3 {W : World} {wb rb : Nat} {gv : Value} {ob : Option Nat} {w : RWork} (h : IsWk W wb rb gv ob w) (x : Nat) : IsWk (W.setCell ⟨wb, 3, none⟩ (.int .u64 (x : Nat))) wb rb gv ob { w with x := x } := Blk.setCell h 3 _
/-- The op of a block may be another: the cells do not tell it. -/
theorem wk_op {W : World} {wb rb : Nat} {gv : Value} {ob : Option Nat} {w : RWork} (h : IsWk W wb rb gv ob w) (o : Option DOp) : IsWk W wb rb gv ob { w with op := o } := h
set_option maxHeartbeats 8000000 in
theorem pushing_any (W : World) (wb rb bm bw : Nat) (gv : Value) (ob : Option Nat) (r : RRack) (w : RWork) (M : List Nat) (u : Nat) (h : Rig W wb rb bm bw gv ob r w M u) (hd : w.done = false) (o : DOp) (ho : w.op = some o)
    (hn : w.next = .pushing) (hf : (stepD o M u).1.done = true → (stepD o M u).1.err ≠ 6) (good : Nat → Bool) :
    Calls Tryz.prog 60 #[.pointer (some ⟨wb, 0, none⟩), .pointer (some ⟨bm, 0, none⟩)] W fun e W' => Turned W W' wb rb bm bw gv ob (phaseR good r w M u) e := by
  obtain ⟨g, rfl, a1, a2, a3, a4, a5, a6⟩ := h.opOf ho
  have HP : phaseR good r w M u = (if (stepD o M u).1.done = false then (r, { w with op := some (stepD o M u).1 }, (stepD o M u).2.1, (stepD o M u).2.2)
    else (if put (r.set w.kind) w.level true ≠ r.set w.kind ∧ w.kind = 0 then (r.put w.kind (put (r.set w.kind) w.level true), { w with op := some (stepD o M u).1, there := true, next := .signing }, (stepD o M u).2.1, (stepD o M u).2.2)
       else (r.put w.kind (put (r.set w.kind) w.level true), { w with op := some (stepD o M u).1, there := true, done := true, err := 0 }, (stepD o M u).2.1, (stepD o M u).2.2))) := by
    unfold phaseR
    rw [hn, ho]
    simp only [Option.getD_some]
    by_cases hx : (stepD o M u).1.done = false
    · rw [if_pos hx, if_pos hx]
    · rw [if_neg hx, if_neg hx, if_neg (hf (by simpa using hx))]
  have c6 : W.cell? ⟨wb, 6, none⟩ = some (.pointer (some ⟨g, 0, none⟩)) := by rw [Blk.cell h.wk]; rfl
  have HS := Lib.hid (step_any g o W a1 a2 bm bw M u h.mem a5 a6)
  have hok := okStep (W := M) (u := u) a2 h.mem.small
  obtain ⟨o', ho'⟩ : ∃ o', o' = (stepD o M u).1 := ⟨_, rfl⟩
  obtain ⟨M', hM'⟩ : ∃ M', M' = (stepD o M u).2.1 := ⟨_, rfl⟩
  obtain ⟨u', hu'⟩ : ∃ u', u' = (stepD o M u).2.2 := ⟨_, rfl⟩
  unfold Stepped at HS
  rw [← ho', ← hM', ← hu'] at HS HP
  rw [← ho'] at hok hf
  obtain ⟨S, hS⟩ : ∃ S, S = phaseR good r w M u := ⟨_, rfl⟩
  rw [← hS]
  rw [← hS] at HP
  have HPS := Lib.hid HP
  have HH := Lib.hid h
  have HF := Lib.hid hf
  have NE := Lib.hid (And.intro a3 (And.intro a4 (And.intro a5 a6)))
  clear HP hS ho' hM' hu' hf a1 a2 h
  go_enter Tryz.func60, Tryz.ntmps60
  go_wp2_with fail
  refine HS.out.mono ?_
  rintro e w1 ⟨rfl, O1, M1, C1⟩
  have W1 : IsWk w1 wb rb gv (some g) w := Blk.chg HH.out.wk C1 (by simp; exact ⟨Ne.symm NE.out.1, HH.out.wm, HH.out.ww⟩)
  have R1 : IsRk w1 rb r := Blk.chg HH.out.rk C1 (by simp; exact ⟨Ne.symm NE.out.2.1, HH.out.rm, HH.out.rw_⟩)
  have D1 : Chg (wb :: rb :: bm :: bw :: [g]) W w1 := C1.mono (by intro g hg; left; simp at hg ⊢; omega)
  clear HS C1 c6
  cases hdn : o'.done with
  | false =>
    have e1 : Rig w1 wb rb bm bw gv (some g) r { w with op := some o' } M' u' := ⟨W1, R1, M1, ⟨O1, hok⟩, HH.out.ok, HH.out.kind, HH.out.level, HH.out.steps⟩
    have E1 := Lib.hid e1
    clear e1 W1 R1 O1 M1
    go_wp2_with fail
    (first | go_end0 | refine bodyPost_ret (results_none rfl _ _ _) rfl ?_)
    rw [HPS.out, if_pos hdn]
    exact ⟨rfl, some g, E1.out, D1, .inl rfl⟩
  | true =>
    have c6 : w1.cell? ⟨wb, 6, none⟩ = some (.pointer (some ⟨g, 0, none⟩)) := by rw [Blk.cell W1]; rfl
    have HR := Lib.hid (result_any g o' w1 O1)
    have he : (resD o').2 ≠ 6 := by rw [resD_err hdn]; exact HF.out hdn
    have he2 : ((resD o').2 == 6) = false := by simp [he]
    have HE := Lib.hid he2
    obtain ⟨rx, hrx⟩ : ∃ rx, rx = (resD o').1 := ⟨_, rfl⟩
    obtain ⟨re, hre⟩ : ∃ re, re = (resD o').2 := ⟨_, rfl⟩
    rw [← hrx, ← hre] at HR
    rw [← hre] at he2 he
    clear hrx hre HE
    go_wp2_with fail
    refine HR.out.mono ?_
    rintro e w2 ⟨rfl, C2⟩
    have W2 := Blk.chg W1 C2 (by simp)
    have R2 : IsRk w2 rb r := Blk.chg R1 C2 (by simp)
    have O2 := O1.chg C2 (by simp)
    have M2 := M1.chg C2 (by simp) (by simp)
    have D2 := D1.then C2 (by simp)
    clear W1 R1 O1 M1 D1 C2 c6 HR
    have c11 : w2.cell? ⟨wb, 11, none⟩ = some (.bool w.there) := by rw [Blk.cell W2]; rfl
    have z11 : w2.frozen? ⟨wb, 11, none⟩ = false := Blk.frozen W2 _
    go_upto_region 9 with (fail)
    have W3 := wk_s11 W2 true
    have R3 : IsRk (w2.setCell ⟨wb, 11, none⟩ (.bool true)) rb r := Blk.setCell_other R2 _ (Ne.symm HH.out.wr)
    have O3 : IsOp (w2.setCell ⟨wb, 11, none⟩ (.bool true)) g o' := O2.chg (S := [wb]) ((Chg.refl _ _).setCell (.inl (by simp)) _) (by simp; exact NE.out.1)
    have M3 : IsMem (w2.setCell ⟨wb, 11, none⟩ (.bool true)) bm bw M' u' := M2.chg (S := [wb]) ((Chg.refl _ _).setCell (.inl (by simp)) _) (by simp; exact Ne.symm HH.out.wm) (by simp; exact Ne.symm HH.out.ww)
    have D3 : Chg (wb :: rb :: bm :: bw :: [g]) W (w2.setCell ⟨wb, 11, none⟩ (.bool true)) := D2.setCell (.inl (by simp)) _
    obtain ⟨w3, hw3⟩ : ∃ w3, w3 = w2.setCell ⟨wb, 11, none⟩ (.bool true) := ⟨_, rfl⟩
    rw [← hw3] at W3 R3 O3 M3 D3 ⊢
    clear hw3 W2 R2 O2 M2 D2 c11 z11
    have HM := Lib.hid (mark_any wb rb gv (some g) _ r w3 true W3 R3 HH.out.kind (HH.out.level hd) HH.out.ok)
    simp only at HM
    go_wp2_with fail
    refine HM.out.mono ?_
    rintro e w4 ⟨rfl, R4, C4⟩
    have W4 := Blk.chg W3 C4 (by simp; exact HH.out.wr)
    have O4 := O3.chg C4 (by simp; exact NE.out.2.1)
    have M4 := M3.chg C4 (by simp; exact Ne.symm HH.out.rm) (by simp; exact Ne.symm HH.out.rw_)
    have D4 : Chg (wb :: rb :: bm :: bw :: [g]) W w4 := D3.then C4 (by intro g hg; left; simp at hg ⊢; omega)
    have K4 : OkRack (r.put w.kind (put (r.set w.kind) w.level true)) := okRack_put HH.out.ok (put256 (okRack_set256 HH.out.ok _) (HH.out.level hd) true)
    clear W3 R3 O3 M3 D3 C4 HM
    by_cases hc : put (r.set w.kind) w.level true ≠ r.set w.kind ∧ w.kind = 0
    · rw [decide_eq_true hc]
      have HC := Lib.hid hc
      have HK := Lib.hid K4
      have HX := Lib.hid (And.intro W4 (And.intro R4 (And.intro O4 (And.intro M4 D4))))
      clear hc W4 R4 O4 M4 D4 K4
      go_wp2_with (first
        | (refine wpList_val_store rfl 91 (.tmp 60) (.func 98) rfl wb 1 rfl _ rfl _ _ HX.out.1 (by simp [wkCells]) (by kernel_rfl) rfl ?_
           intro w5 B5 C5
           have W5 : IsWk w5 wb rb gv (some g) { w with there := true, next := .signing } := B5
           have HW5 := Lib.hid W5
           have HC5 := Lib.hid C5
           clear B5 W5 C5)
        | fail)
      (first | go_end0 | refine bodyPost_ret (results_none rfl _ _ _) rfl ?_)
      rw [HPS.out, if_neg (by simp [hdn]), if_pos HC.out]
      obtain ⟨W4, R4, O4, M4, D4⟩ := HX.out
      have C5 := HC5.out
      exact ⟨rfl, some g, ⟨HW5.out, Blk.chg R4 C5 (by simp; exact Ne.symm HH.out.wr), M4.chg C5 (by simp; exact Ne.symm HH.out.wm) (by simp; exact Ne.symm HH.out.ww), ⟨O4.chg C5 (by simp; exact NE.out.1), hok⟩, HK.out, HH.out.kind, HH.out.level, HH.out.steps⟩, D4.then C5 (by intro g hg; left; simp at hg ⊢; omega), .inl rfl⟩
    · rw [decide_eq_false hc]
      have HC := Lib.hid hc
      have HK := Lib.hid K4
      have HE := Lib.hid (wend_any wb rb gv (some g) _ 0 w4 W4)
      clear hc K4
      go_wp2_with fail
      refine HE.out.mono ?_
      rintro e w5 ⟨rfl, W5, C5⟩
      have R5 : IsRk w5 rb _ := Blk.chg R4 C5 (by simp; exact Ne.symm HH.out.wr)
      have O5 := O4.chg C5 (by simp; exact NE.out.1)
      have M5 := M4.chg C5 (by simp; exact Ne.symm HH.out.wm) (by simp; exact Ne.symm HH.out.ww)
      have D5 : Chg (wb :: rb :: bm :: bw :: [g]) W w5 := D4.then C5 (by intro g hg; left; simp at hg ⊢; omega)
      have HX := Lib.hid (And.intro W5 (And.intro R5 (And.intro O5 (And.intro M5 D5))))
      clear W4 R4 O4 M4 D4 W5 R5 O5 M5 D5 C5 HE
      go_wp2_with fail
      (first | go_end0 | refine bodyPost_ret (results_none rfl _ _ _) rfl ?_)
      rw [HPS.out, if_neg (by simp [hdn]), if_neg HC.out]
      obtain ⟨W5, R5, O5, M5, D5⟩ := HX.out
      exact ⟨rfl, some g, ⟨W5, R5, M5, ⟨O5, hok⟩, HK.out, HH.out.kind, fun h => by simp at h, HH.out.steps⟩, D5, .inl rfl⟩
end Go.Proofs.YtjdbgohfedjifaaGreatDoor

/- rack: taking. -/
namespace Go.Proofs.YtjdbgohfedjifaaGreatDoor
open Go.RowKit Bosun
theorem okErr {o : DOp} (ok : OkOp o) : -9223372036854775808 ≤ (resD o).2 ∧ (resD o).2 ≤ 9223372036854775807 := by
  have := ok.e0; have := ok.e1
  unfold resD; split
  · simp
  · split
    · simp only; omega
    · simp
set_option maxHeartbeats 8000000 in
theorem taking_any (W : World) (wb rb bm bw : Nat) (gv : Value) (ob : Option Nat) (r : RRack) (w : RWork) (M : List Nat) (u : Nat) (h : Rig W wb rb bm bw gv ob r w M u) (hd : w.done = false) (o : DOp) (ho : w.op = some o)
    (hn : w.next = .taking) (good : Nat → Bool) :
    Calls Tryz.prog 86 #[.pointer (some ⟨wb, 0, none⟩), .pointer (some ⟨bm, 0, none⟩)] W fun e W' => Turned W W' wb rb bm bw gv ob (phaseR good r w M u) e := by
  obtain ⟨g, rfl, a1, a2, a3, a4, a5, a6⟩ := h.opOf ho
  have HP : phaseR good r w M u = (if (stepD o M u).1.done = false then (r, { w with op := some (stepD o M u).1 }, (stepD o M u).2.1, (stepD o M u).2.2)
    else if (resD (stepD o M u).1).2 ≠ 7 then (r, { w with op := some (stepD o M u).1, x := (resD (stepD o M u).1).1, done := true, err := (resD (stepD o M u).1).2 }, (stepD o M u).2.1, (stepD o M u).2.2)
    else (if put (r.set w.kind) w.level false ≠ r.set w.kind ∧ w.kind = 0 then (r.put w.kind (put (r.set w.kind) w.level false), { w with op := some (stepD o M u).1, next := .emptying }, (stepD o M u).2.1, (stepD o M u).2.2)
       else (r.put w.kind (put (r.set w.kind) w.level false), { w with op := some (stepD o M u).1, done := true, err := 8 }, (stepD o M u).2.1, (stepD o M u).2.2))) := by
    unfold phaseR
    rw [hn, ho]
    rfl
  have c6 : W.cell? ⟨wb, 6, none⟩ = some (.pointer (some ⟨g, 0, none⟩)) := by rw [Blk.cell h.wk]; rfl
  have HS := Lib.hid (step_any g o W a1 a2 bm bw M u h.mem a5 a6)
  have hok := okStep (W := M) (u := u) a2 h.mem.small
  obtain ⟨o', ho'⟩ : ∃ o', o' = (stepD o M u).1 := ⟨_, rfl⟩
  obtain ⟨M', hM'⟩ : ∃ M', M' = (stepD o M u).2.1 := ⟨_, rfl⟩
  obtain ⟨u', hu'⟩ : ∃ u', u' = (stepD o M u).2.2 := ⟨_, rfl⟩
  unfold Stepped at HS
  rw [← ho', ← hM', ← hu'] at HS HP
  rw [← ho'] at hok
  obtain ⟨S, hS⟩ : ∃ S, S = phaseR good r w M u := ⟨_, rfl⟩
  rw [← hS]
  rw [← hS] at HP
  have HPS := Lib.hid HP
  have HH := Lib.hid h
  have NE := Lib.hid (And.intro a3 (And.intro a4 (And.intro a5 a6)))
  clear HP hS ho' hM' hu' a1 a2 h
  go_enter Tryz.func86, Tryz.ntmps86
  go_wp2_with fail
  refine HS.out.mono ?_
  rintro e w1 ⟨rfl, O1, M1, C1⟩
  have W1 : IsWk w1 wb rb gv (some g) w := Blk.chg HH.out.wk C1 (by simp; exact ⟨Ne.symm NE.out.1, HH.out.wm, HH.out.ww⟩)
  have R1 : IsRk w1 rb r := Blk.chg HH.out.rk C1 (by simp; exact ⟨Ne.symm NE.out.2.1, HH.out.rm, HH.out.rw_⟩)
  have D1 : Chg (wb :: rb :: bm :: bw :: [g]) W w1 := C1.mono (by intro g hg; left; simp at hg ⊢; omega)
  clear HS C1 c6
  cases hdn : o'.done with
  | false =>
    have e1 : Rig w1 wb rb bm bw gv (some g) r { w with op := some o' } M' u' := ⟨W1, R1, M1, ⟨O1, hok⟩, HH.out.ok, HH.out.kind, HH.out.level, HH.out.steps⟩
    have E1 := Lib.hid e1
    clear e1 W1 R1 O1 M1
    go_wp2_with fail
    (first | go_end0 | refine bodyPost_ret (results_none rfl _ _ _) rfl ?_)
    rw [HPS.out, if_pos hdn]
    exact ⟨rfl, some g, E1.out, D1, .inl rfl⟩
  | true =>
    have c6 : w1.cell? ⟨wb, 6, none⟩ = some (.pointer (some ⟨g, 0, none⟩)) := by rw [Blk.cell W1]; rfl
    have HR := Lib.hid (result_any g o' w1 O1)
    obtain ⟨rx, hrx⟩ : ∃ rx, rx = (resD o').1 := ⟨_, rfl⟩
    obtain ⟨re, hre⟩ : ∃ re, re = (resD o').2 := ⟨_, rfl⟩
    rw [← hrx, ← hre] at HR HPS
    clear hrx hre
    by_cases h7 : re = 7
    · subst h7
      go_wp2_with fail
      refine HR.out.mono ?_
      rintro e w2 ⟨rfl, C2⟩
      have W2 := Blk.chg W1 C2 (by simp)
      have R2 : IsRk w2 rb r := Blk.chg R1 C2 (by simp)
      have O2 := O1.chg C2 (by simp)
      have M2 := M1.chg C2 (by simp) (by simp)
      have D2 := D1.then C2 (by simp)
      have HM := Lib.hid (mark_any wb rb gv (some g) w r w2 false W2 R2 HH.out.kind (HH.out.level hd) HH.out.ok)
      clear W1 R1 O1 M1 D1 C2 c6 HR
      go_wp2_with fail
      refine HM.out.mono ?_
      rintro e w4 ⟨rfl, R4, C4⟩
      have W4 := Blk.chg W2 C4 (by simp; exact HH.out.wr)
      have O4 := O2.chg C4 (by simp; exact NE.out.2.1)
      have M4 := M2.chg C4 (by simp; exact Ne.symm HH.out.rm) (by simp; exact Ne.symm HH.out.rw_)
      have D4 : Chg (wb :: rb :: bm :: bw :: [g]) W w4 := D2.then C4 (by intro g hg; left; simp at hg ⊢; omega)
      have K4 : OkRack (r.put w.kind (put (r.set w.kind) w.level false)) := okRack_put HH.out.ok (put256 (okRack_set256 HH.out.ok _) (HH.out.level hd) false)
      clear W2 R2 O2 M2 D2 C4 HM
      by_cases hc : put (r.set w.kind) w.level false ≠ r.set w.kind ∧ w.kind = 0
      · rw [decide_eq_true hc]
        have HC := Lib.hid hc
        have HK := Lib.hid K4
        have HX := Lib.hid (And.intro W4 (And.intro R4 (And.intro O4 (And.intro M4 D4))))
        clear hc W4 R4 O4 M4 D4 K4
        go_wp2_with (first
          | (refine wpList_val_store rfl 91 (.tmp 34) (.func 107) rfl wb 1 rfl _ rfl _ _ HX.out.1 (by simp [wkCells]) (by kernel_rfl) rfl ?_
             intro w5 B5 C5
             have W5 : IsWk w5 wb rb gv (some g) { w with next := .emptying } := B5
             have HW5 := Lib.hid W5
             have HC5 := Lib.hid C5
             clear B5 W5 C5)
          | fail)
        (first | go_end0 | refine bodyPost_ret (results_none rfl _ _ _) rfl ?_)
        rw [HPS.out, if_neg (by simp [hdn]), if_neg (by simp), if_pos HC.out]
        obtain ⟨W4, R4, O4, M4, D4⟩ := HX.out
        have C5 := HC5.out
        exact ⟨rfl, some g, ⟨HW5.out, Blk.chg R4 C5 (by simp; exact Ne.symm HH.out.wr), M4.chg C5 (by simp; exact Ne.symm HH.out.wm) (by simp; exact Ne.symm HH.out.ww), ⟨O4.chg C5 (by simp; exact NE.out.1), hok⟩, HK.out, HH.out.kind, HH.out.level, HH.out.steps⟩, D4.then C5 (by intro g hg; left; simp at hg ⊢; omega), .inl rfl⟩
      · rw [decide_eq_false hc]
        have HC := Lib.hid hc
        have HK := Lib.hid K4
        have HE := Lib.hid (wend_any wb rb gv (some g) w 8 w4 W4)
        clear hc K4
        go_wp2_with fail
        refine HE.out.mono ?_
        rintro e w5 ⟨rfl, W5, C5⟩
        have R5 : IsRk w5 rb _ := Blk.chg R4 C5 (by simp; exact Ne.symm HH.out.wr)
        have O5 := O4.chg C5 (by simp; exact NE.out.1)
        have M5 := M4.chg C5 (by simp; exact Ne.symm HH.out.wm) (by simp; exact Ne.symm HH.out.ww)
        have D5 : Chg (wb :: rb :: bm :: bw :: [g]) W w5 := D4.then C5 (by intro g hg; left; simp at hg ⊢; omega)
        have HX := Lib.hid (And.intro W5 (And.intro R5 (And.intro O5 (And.intro M5 D5))))
        clear W4 R4 O4 M4 D4 W5 R5 O5 M5 D5 C5 HE
        go_wp2_with fail
        (first | go_end0 | refine bodyPost_ret (results_none rfl _ _ _) rfl ?_)
        rw [HPS.out, if_neg (by simp [hdn]), if_neg (by simp), if_neg HC.out]
        obtain ⟨W5, R5, O5, M5, D5⟩ := HX.out
        exact ⟨rfl, some g, ⟨W5, R5, M5, ⟨O5, hok⟩, HK.out, HH.out.kind, fun h => by simp at h, HH.out.steps⟩, D5, .inl rfl⟩
    · have h7b : (re != 7) = true := by simp [h7]
      have H7 := Lib.hid h7
      clear h7
      go_wp2_with fail
      refine HR.out.mono ?_
      rintro e w2 ⟨rfl, C2⟩
      have W2 : IsWk w2 wb rb gv (some g) w := Blk.chg W1 C2 (by simp)
      have R2 : IsRk w2 rb r := Blk.chg R1 C2 (by simp)
      have O2 := O1.chg C2 (by simp)
      have M2 := M1.chg C2 (by simp) (by simp)
      have D2 := D1.then C2 (by simp)
      have c3 : w2.cell? ⟨wb, 3, none⟩ = some (.int .u64 (w.x : Nat)) := by rw [Blk.cell W2]; rfl
      have z3 : w2.frozen? ⟨wb, 3, none⟩ = false := Blk.frozen W2 _
      clear W1 R1 O1 M1 D1 C2 c6 HR
      go_upto_region 4 with (fail)
      have W3 := wk_s3 W2 rx
      have C3 : Chg [wb] w2 (w2.setCell ⟨wb, 3, none⟩ (.int .u64 (rx : Nat))) := (Chg.refl _ _).setCell (.inl (by simp)) _
      obtain ⟨w3, hw3⟩ : ∃ w3, w3 = w2.setCell ⟨wb, 3, none⟩ (.int .u64 (rx : Nat)) := ⟨_, rfl⟩
      rw [← hw3] at W3 C3 ⊢
      have HE := Lib.hid (wend_any wb rb gv (some g) _ re w3 W3)
      clear hw3 c3 z3
      go_wp2_with fail
      refine HE.out.mono ?_
      rintro e w5 ⟨rfl, W5, C5⟩
      have C35 : Chg [wb] w2 w5 := C3.then C5 (by simp)
      have R5 : IsRk w5 rb _ := Blk.chg R2 C35 (by simp; exact Ne.symm HH.out.wr)
      have O5 := O2.chg C35 (by simp; exact NE.out.1)
      have M5 := M2.chg C35 (by simp; exact Ne.symm HH.out.wm) (by simp; exact Ne.symm HH.out.ww)
      have D5 : Chg (wb :: rb :: bm :: bw :: [g]) W w5 := D2.then C35 (by intro g hg; left; simp at hg ⊢; omega)
      have HX := Lib.hid (And.intro W5 (And.intro R5 (And.intro O5 (And.intro M5 D5))))
      clear W2 R2 O2 M2 D2 W3 C3 W5 R5 O5 M5 D5 C5 C35 HE
      go_wp2_with fail
      (first | go_end0 | refine bodyPost_ret (results_none rfl _ _ _) rfl ?_)
      rw [HPS.out, if_neg (by simp [hdn]), if_pos H7.out]
      obtain ⟨W5, R5, O5, M5, D5⟩ := HX.out
      exact ⟨rfl, some g, ⟨W5, R5, M5, ⟨O5, hok⟩, HH.out.ok, HH.out.kind, fun h => by simp at h, HH.out.steps⟩, D5, .inl rfl⟩
end Go.Proofs.YtjdbgohfedjifaaGreatDoor
