/- The page's shelf: a push that has room; a claim that is settled. -/
import Derived.Test.YtidooepalfegdaaDqSh
import Derived.Laws.AppendOwnNone
import Derived.Deep.RegionWith
import Derived.Deep.RegionLaw
namespace Bosun
open Go Go.RowKit
/-- 's[:m]', as one step of a region that draws. -/
theorem step_slice_h {P : Program} {ops : Array Oper} {o : Oper} {a : Act} {w : World} {K : Act → World → Prop} {Q : Exit → Act → World → Prop} {E : Prop} (hgd : o.guard = none) (t : TypeId) (x hi : Operand) (ho : o.op = .slice t x none (some hi) none)
    (e : TypeId) (ht : P.underlying t = some (.slice e)) (hz : (P.info? e).map (·.size) = some 1) (g off n cap : Nat) (hx : a.eval x = .slice (some ⟨g, off, none⟩) n cap) (k : IntKind) (z : Int) (m : Nat) (hh : a.eval hi = .int k z) (hm : z = (m : Int)) (hmc : m ≤ cap)
    (hK : K (a.put o.dst (.slice (some ⟨g, off, none⟩) m cap)) w) : if Region.wanted o (yielded ops a.tmps) = true then Oper.wp P o a w K Q else E := by
  have hw : Region.wanted o (yielded ops a.tmps) = true := by simp [Region.wanted, hgd]
  rw [if_pos hw]
  subst hm
  have hpe : P.elem t = e := by simp [Program.elem, ht]
  have ht' : P.underlying t = some (.slice (P.elem t)) := by rw [hpe]; exact ht
  obtain ⟨i0, hi0, hi1⟩ := Option.map_eq_some_iff.1 hz
  have hr := run_slice_h w t (some ⟨g, off, none⟩) n cap ht' k (m : Int) (by omega) (by omega)
  have hrun : (execOp a.eval o).run P w = .ok (.value (.slice (some ⟨g, off, none⟩) m cap)) w := by
    unfold execOp
    simp only [ho, hx, hh, Option.map_some, Option.map_none, run_sliceAt_slice w t _ _ _ _ ht', Sem.run_bind, hr]
    simp [Go.sizeOf, typeInfo, hpe, hi0, hi1, sliced, Addr.add]
  unfold Oper.wp
  rw [hrun]
  exact hK
end Bosun
namespace Go.Proofs.Ytidooepalfegdaa
open Go.RowKit Bosun
theorem words_one (l : List Nat) : ∀ v ∈ words l, v.oneCell' = true := by
  intro v hv
  simp only [words, List.mem_map] at hv
  obtain ⟨_, _, rfl⟩ := hv
  rfl
set_option maxHeartbeats 4000000 in
theorem shpush_ok (sb lim cap : Nat) (on : Bool) (L : List Nat) (x : Nat) (w : World) (h : IsSh w sb lim ⟨cap, L, false, on⟩) (hl : L.length < cap) (hc : cap ≤ 256) (hlim : lim ≤ w.heap.size) :
    Calls Try.prog 46 #[.pointer (some ⟨sb, 0, none⟩), .int .u64 (x : Nat)] w fun e w' => e = .returned (.int .i64 0) ∧ IsSh w' sb lim ⟨cap, L ++ [x], false, on⟩ ∧ Chg [sb] w w' := by
  obtain ⟨v, hb, hq⟩ := h
  obtain ⟨i0, hi0, hz0, hz1, hz2⟩ := info_parts infoU64
  have HI := Lib.hid (And.intro hi0 (And.intro hz0 (And.intro hz1 hz2)))
  clear hi0 hz0 hz1 hz2
  have HB := Lib.hid hb
  have lb := hb.lt
  rcases hq with ⟨rfl, h0⟩ | hq
  · obtain rfl : L = [] := by simpa [words] using h0
    have c0 : w.cell? ⟨sb, 0, none⟩ = some (.int .i64 (cap : Nat)) := by rw [hb.cell]; rfl
    have c1 : w.cell? ⟨sb, 1, none⟩ = some (.slice none 0 0) := by rw [hb.cell]; rfl
    have c2 : w.cell? ⟨sb, 2, none⟩ = some (.bool false) := by rw [hb.cell]; rfl
    have d0 : decide ((cap : Int) ≤ 0) = false := by simp at hl ⊢; omega
    have HC1 := Lib.hid (fun (w1 : World) (h1 : Chg [] w w1) => show w1.cell? ⟨sb, 1, none⟩ = some (.slice none 0 0) from by rw [(hb.chg h1 (by simp)).cell]; rfl)
    clear hb h0
    go_enter Try.func46, Try.ntmps46
    go_wp2_with fail
    go_quiet (fail)
    have k1 := HC1.out ((w.drewN nq).alloc (.cells #[] 22)) (((Chg.refl [] w).drewN _).alloc _)
    have O1 : Own ((w.drewN nq).alloc (.cells #[] 22)) w.heap.size 22 (.slice (some ⟨w.heap.size, 0, none⟩) 0 0) [] := Own.of_blk (Blk.new (w.drewN nq) #[] 22) (Nat.le_refl _) rfl (Nat.le_refl _) (by decide) rfl
    have HO1 := Lib.hid O1
    have C2 : Chg [] w ((w.drewN nq).alloc (.cells #[] 22)) := ((Chg.refl [] w).drewN _).alloc _
    obtain ⟨w2, hw2⟩ : ∃ w2, w2 = ((w.drewN nq).alloc (.cells #[] 22)) := ⟨_, rfl⟩
    rw [← hw2] at HO1 C2
    have HO2 := Lib.hid (And.intro HO1.out C2)
    have z2 := C2.size
    have HW2 := Lib.hid hw2
    clear O1 HO1 C2 hw2
    go_wp2_with (first
      | (rw [← HW2.out]; refine wpList_append_own_none rfl (.tmp 20) (.tmp 24) 46 rfl w.heap.size 22 i0 1 Try.underlying46 HI.out.1 _ 0 [] rfl HO2.out.1 rfl ?_)
      | (refine wpList_app1 rfl (.tmp 25) (.tmp 27) 46 rfl w.heap.size 22 (.int .u64 0) 8 Try.underlying46 infoU64 rfl _ [] rfl (HO2.out.1.alloc _) w2.heap.size 1 (.int .u64 (x : Nat)) rfl ((Blk.new w2 #[.int .u64 (x : Nat)] 22).cell 0) rfl (by decide) (by decide) (by simp; omega) ?_; intro v3 w3 O3 C3; have C33 : Chg [] w w3 := (HO2.out.2.alloc _).then C3 (fun g hg => .inr ((HO2.out.1.block g hg).1)); have Q3 := (Que.of_own O3 (by simp)).1; have hx3 : ∃ g3 cp3, v3 = .slice (some ⟨g3, 0, none⟩) 1 cp3 := (by obtain ⟨_, h3⟩ := O3; rcases h3 with ⟨_, h3⟩ | ⟨g3, cp3, _, rfl, _⟩; simp at h3; exact ⟨g3, cp3, by simp⟩); obtain ⟨g3, cp3, rfl⟩ := hx3; have B3 := Lib.hid (HB.out.chg C33 (by simp)); have HQ3 := Lib.hid Q3; have HC3 := Lib.hid C33; clear O3 C3 C33 Q3)
      | (refine wpList_val_store rfl 46 (.tmp 30) (.tmp 28) rfl sb 1 rfl _ rfl _ _ B3.out (by simp) (by kernel_rfl) rfl ?_; intro w4 B4 C4; have HB4 := Lib.hid (And.intro B4 C4); clear B4 C4))
    go_ret
    obtain ⟨B4, C4⟩ := HB4.out
    refine ⟨rfl, ⟨_, B4, .inr ?_⟩, HC3.out.weak.then C4 (fun g hg => .inl hg)⟩
    refine (HQ3.out.mono hlim).chg C4 (fun g hg e => ?_)
    exact QueN.sh_ne (lim := w.heap.size) (L := [x]) B3.out (.inr HQ3.out) g hg e
  · have hq2 := hq
    obtain ⟨g, off, cp, cur, rfl, q2, q3, q4, q5, q6, q7⟩ := hq2
    simp only [words_len] at hb q5
    have c0 : w.cell? ⟨sb, 0, none⟩ = some (.int .i64 (cap : Nat)) := by rw [hb.cell]; rfl
    have c1 : w.cell? ⟨sb, 1, none⟩ = some (.slice (some ⟨g, off, none⟩) L.length cp) := by rw [hb.cell]; rfl
    have c2 : w.cell? ⟨sb, 2, none⟩ = some (.bool false) := by rw [hb.cell]; rfl
    have d0 : decide (cap ≤ L.length) = false := by simp; omega
    have hsrc : ∀ (w1 : World), Chg [] w w1 → ∀ j y, (words L)[j]? = some y → w1.cell? ((⟨g, off, none⟩ : Addr).add j) = some y := fun w1 h1 j y hj => by
      have hadd : (⟨g, off, none⟩ : Addr).add j = ⟨g, off + j, none⟩ := by simp only [Addr.add]; split <;> simp_all
      rw [hadd, (q3.chg h1 (by simp)).cell]; exact q7 j y hj
    have HSRC := Lib.hid hsrc
    have HC1 := Lib.hid (fun (w1 : World) (h1 : Chg [] w w1) => show w1.cell? ⟨sb, 1, none⟩ = some (.slice (some ⟨g, off, none⟩) L.length cp) from by rw [(hb.chg h1 (by simp)).cell]; rfl)
    clear hb q3 q7 hsrc hq
    go_enter Try.func46, Try.ntmps46
    go_wp2_with fail
    go_quiet (fail)
    have k1 := HC1.out ((w.drewN nq).alloc (.cells #[] 22)) (((Chg.refl [] w).drewN _).alloc _)
    have O1 : Own ((w.drewN nq).alloc (.cells #[] 22)) w.heap.size 22 (.slice (some ⟨w.heap.size, 0, none⟩) 0 0) [] := Own.of_blk (Blk.new (w.drewN nq) #[] 22) (Nat.le_refl _) rfl (Nat.le_refl _) (by decide) rfl
    have HO1 := Lib.hid O1
    clear O1
    go_wp2_with (first
      | (refine wpList_append_own _ rfl (.tmp 20) (.tmp 24) 46 rfl w.heap.size 22 i0 (.int .u64 0) 1 8 Try.underlying46 HI.out.1 HI.out.2.1 HI.out.2.2.1 HI.out.2.2.2 rfl (by decide) _ 0 [] rfl HO1.out ⟨g, off, none⟩ L.length cp (words L) rfl (by rw [words_len, Nat.mul_one]) (HSRC.out _ (((Chg.refl [] w).drewN _).alloc _)) (words_one _) (by unfold maxLen; omega) (by omega) (by simp) ?_; intro v2 w2 O2 G2 E2; have hO2 : Own w2 w.heap.size 22 v2 (words L) := (by unfold Own; simpa [words_len] using O2); have C2 : Chg [] w w2 := (((Chg.refl [] w).drewN _).alloc _).then (Chg.of_grown G2) (fun g hg => .inr (Nat.le_of_eq (List.mem_singleton.1 (show g ∈ [w.heap.size] from hg)).symm)); have HO2 := Lib.hid (And.intro hO2 C2); have z2 := C2.size; clear O2 G2 E2 hO2 C2)
      | (refine wpList_app1 rfl (.tmp 25) (.tmp 27) 46 rfl w.heap.size 22 (.int .u64 0) 8 Try.underlying46 infoU64 rfl v2 (words L) rfl (HO2.out.1.alloc _) w2.heap.size 1 (.int .u64 (x : Nat)) rfl ((Blk.new w2 #[.int .u64 (x : Nat)] 22).cell 0) rfl (by rw [words_len]; unfold maxLen; omega) (by rw [words_len]; omega) (by simp; omega) ?_; intro v3 w3 O3 C3; have C33 : Chg [] w w3 := (HO2.out.2.alloc _).then C3 (fun g hg => .inr ((HO2.out.1.block g hg).1)); have Q3 := (Que.of_own O3 (by simp)).1; have hx3 : ∃ g3 cp3, v3 = .slice (some ⟨g3, 0, none⟩) (L.length + 1) cp3 := (by obtain ⟨_, h3⟩ := O3; rcases h3 with ⟨_, h3⟩ | ⟨g3, cp3, _, rfl, _⟩; simp at h3; exact ⟨g3, cp3, by simp [words_len]⟩); obtain ⟨g3, cp3, rfl⟩ := hx3; have B3 := Lib.hid (HB.out.chg C33 (by simp)); have HQ3 := Lib.hid Q3; have HC3 := Lib.hid C33; clear O3 C3 C33 Q3)
      | (refine wpList_val_store rfl 46 (.tmp 30) (.tmp 28) rfl sb 1 rfl _ rfl _ _ B3.out (by simp) (by kernel_rfl) rfl ?_; intro w4 B4 C4; have HB4 := Lib.hid (And.intro B4 C4); clear B4 C4))
    go_ret
    obtain ⟨B4, C4⟩ := HB4.out
    have hw : words (L ++ [x]) = words L ++ [Value.int .u64 (x : Nat)] := words_snoc L x
    refine ⟨rfl, ⟨_, B4, .inr ?_⟩, HC3.out.weak.then C4 (fun g hg => .inl hg)⟩
    rw [hw]
    refine (HQ3.out.mono hlim).chg C4 (fun g hg e => ?_)
    refine QueN.sh_ne (lim := w.heap.size) (L := L ++ [x]) B3.out (.inr ?_) g hg e
    rw [hw]; exact HQ3.out
set_option maxRecDepth 20000 in
set_option maxHeartbeats 4000000 in
theorem shsettle_on (sb lim cap : Nat) (L : List Nat) (x : Nat) (w : World) (h : IsSh w sb lim ⟨cap, L ++ [x], true, true⟩) (hl : L.length < 1000) :
    Calls Try.prog 47 #[.pointer (some ⟨sb, 0, none⟩)] w fun e w' => e = .returned (.tuple #[.int .u64 (x : Nat), .int .i64 0]) ∧ IsSh w' sb lim ⟨cap, L, false, false⟩ ∧ Chg [sb] w w' := by
  obtain ⟨v, hb, hq⟩ := h
  simp only at hb hq
  have hq1 : Que w lim 22 v (words (L ++ [x])) := hq.que (by simp [words])
  have HN := Lib.hid (QueN.sh_ne hb hq)
  have hq2 := hq1
  obtain ⟨g, off, cp, cur, rfl, q2, q3, q4, q5, q6, q7⟩ := hq2
  have hx0 : w.cell? ⟨g, off + L.length, none⟩ = some (.int .u64 (x : Nat)) := by rw [q3.cell]; exact q7 L.length _ (by simp [words])
  simp only [words_len, List.length_append, List.length_cons, List.length_nil, Nat.zero_add] at hb hq1 q5 HN
  have c2 : w.cell? ⟨sb, 2, none⟩ = some (.bool true) := by rw [hb.cell]; rfl
  have c3 : w.cell? ⟨sb, 3, none⟩ = some (.bool true) := by rw [hb.cell]; rfl
  have f2 := hb.frozen 2
  have f3 := hb.frozen 3
  have B2 := (hb.setCell 2 (.bool false)).setCell 3 (.bool false)
  have C2 := ((Chg.refl [sb] w).setCell (a := ⟨sb, 2, none⟩) (.inl (by simp)) (.bool false)).setCell (a := ⟨sb, 3, none⟩) (.inl (by simp)) (.bool false)
  have HQL : Que w lim 22 (.slice (some ⟨g, off, none⟩) L.length cp) (words L) := ⟨g, off, cp, cur, by rw [words_len], q2, q3, q4, by rw [words_len]; omega, q6, fun j y hy => q7 j y (by rw [words_snoc, List.getElem?_append_left (by have := (List.getElem?_eq_some_iff.1 hy).1; exact this)]; exact hy)⟩
  have HX := Lib.hid (show ∀ w1, Chg [sb] w w1 → w1.cell? ⟨g, off + L.length, none⟩ = some (.int .u64 (x : Nat)) from fun w1 h1 => by
    rw [World.cell?_of_block (w := w) (h1.block g q3.lt (fun hm => HN.out g hm rfl)), hx0])
  have HQ := Lib.hid HQL
  unfold maxLen at q6
  clear hq1 q2 q3 q4 q7 hq hx0 HQL
  go_enter Try.func47, Try.ntmps47
  go_wp2_with fail
  obtain ⟨w2, hw2⟩ : ∃ w2, w2 = (w.setCell ⟨sb, 2, none⟩ (.bool false)).setCell ⟨sb, 3, none⟩ (.bool false) := ⟨_, rfl⟩
  rw [← hw2] at B2 C2 ⊢
  have k1 : w2.cell? ⟨sb, 1, none⟩ = some (.slice (some ⟨g, off, none⟩) (L.length + 1) cp) := by rw [B2.cell]; rfl
  have kx := HX.out w2 C2
  have g1 := B2.frozen 1
  clear hw2 hb
  have e1 : IntKind.i64.wrap (((L.length + 1 : Nat) : Int) - 1) = (L.length : Int) := by rw [IntWalk.i64_in _ (by omega)]; omega
  have e2 : (0 : Int) ≤ (L.length : Int) := by omega
  have e3 : (L.length : Int) < ((L.length + 1 : Nat) : Int) := by omega
  go_quiet (fail)
  go_wp2_with fail
  have e5 : (L.length : Int) ≤ (cp : Int) := by omega
  have e6 : L.length ≤ cp := by omega
  have e7 : ¬ cp = 0 := by omega
  have e8 : IntKind.i64.wrap (L.length : Int) = (L.length : Int) := by rw [IntWalk.i64_in _ (by omega)]
  have e4 : IntKind.i64.wrap ((L.length : Int) + 1 - 1) = (L.length : Int) := by rw [IntWalk.i64_in _ (by omega)]; omega
  go_region_with (fail)
  all_goals
    clear e1 e2 e3 e4 e5 e6 e7 e8
    have B3 := (B2.chg ((Chg.refl [] w2).drewN (nq + 1)) (by simp)).setCell 1 (.slice (some ⟨g, off, none⟩) L.length cp)
    have C3 := (C2.drewN (nq + 1)).setCell (a := ⟨sb, 1, none⟩) (.inl (by simp)) (.slice (some ⟨g, off, none⟩) L.length cp)
    go_wp2_with fail
    go_ret2
    exact ⟨rfl, ⟨_, B3, .inr (HQ.out.chg C3 (fun g' hg e => HN.out g' hg e))⟩, C3⟩
end Go.Proofs.Ytidooepalfegdaa
