/- plan: the document's Round. -/
import Derived.Test.YtjohbnfeijhcmaaDoorPlS
import Derived.Deep.RegionHeld3
import Derived.Deep.AppendLies
import Derived.Deep.RegionLaw
namespace Go.Proofs.YtjohbnfeijhcmaaDoor
open Go.RowKit Bosun Go.ChangeShapes Go.WideShapes Go.ChangeAt
theorem tickC {i n m : Nat} {q : Int} (hi : i < m) (hm : m ≤ 10000) (hq : 0 < q) : ((IntKind.i64.wrap (IntKind.i64.wrap ((i : Int) / (n : Int)) + 1)).tmod q == 0) = decide (0 < q ∧ ((i / n + 1 : Nat) : Int) % q = 0) := by
  have h := tickB (n := n) hi hm hq
  have h1 : ((i : Int) / (n : Int)) = ((i / n : Nat) : Int) := rfl
  have h2 : i / n ≤ i := Nat.div_le_self _ _
  rw [h1] at h ⊢
  obtain ⟨x, hx⟩ : ∃ x, x = i / n := ⟨_, rfl⟩
  rw [← hx] at h h2 ⊢
  clear hx h1
  rw [IntWalk.wrap64_in (x : Int) (by omega), IntWalk.wrap64_in _ (by omega)] at h
  rw [IntWalk.i64_in (x : Int) (by omega), IntWalk.i64_in _ (by omega), h]
theorem rnd_cells {i n m : Nat} {q : Int} {b : Bool} (hm : m ≤ 10000) (hi : i < m) (hb : b = decide (0 < q ∧ ((i / n + 1 : Nat) : Int) % q = 0)) :
    flatE (rnd n i q) ++ [Value.int .i64 ((i : Int).tmod (n : Int)), .bool b, .int .u64 (IntKind.u64.wrap (IntKind.u64.wrap (i : Int) + 1))] = flatE (rnd n (i + 1) q) := by
  have e1 : IntKind.u64.wrap (IntKind.u64.wrap (i : Int) + 1) = ((i + 1 : Nat) : Int) := by simp only [IntKind.wrap_u64]; omega
  have e2 : (i : Int).tmod (n : Int) = ((i % n : Nat) : Int) := by rw [Int.tmod_eq_emod_of_nonneg (by omega)]; rfl
  rw [rnd_succ, e1, e2, hb]
  simp [flatE, rndE, Ent.cells]
set_option maxRecDepth 4000 in
set_option maxHeartbeats 8000000 in
theorem rround_any (c s q : Int) (n m : Nat) (w : World) (hn : min (max c 1) 64 = (n : Int)) (hm : min (max s 0) 1048576 = (m : Int)) (hm2 : m ≤ 10000) :
    Calls Tryd.prog 23 #[.int .i64 c, .int .i64 s, .int .i64 q] w fun e w' => ∃ u, e = .returned u ∧ OwnE w' w.heap.size 36 u (rnd n m q) ∧ Chg [] w w' := by
  have hn1 : 1 ≤ n := by omega
  have hn2 : n ≤ 64 := by omega
  have hs : ∀ i : Nat, (i : Int) < s ↔ i < m := fun i => by omega
  have HS := Lib.hid hs
  have HN := Lib.hid hn
  clear hn hm hs
  go_enter Tryd.func23, Tryd.ntmps23
  go_upto_region 1 with (fail)
  go_wp2_with (first
    | (refine wpList_max rfl _ _ _ _ rfl .i64 c 1 (max c 1) rfl rfl (by omega) ?_)
    | (refine wpList_min rfl _ _ _ _ rfl .i64 (max c 1) 64 (n : Int) rfl rfl (by have := HN.out; omega) ?_)
    | fail)
  obtain ⟨i0, hi0, hz0, hz1, hz2⟩ := info_parts infoE'
  have HI := Lib.hid (And.intro hi0 (And.intro hz0 (And.intro hz1 hz2)))
  clear hi0 hz0 hz1 hz2
  have hn0 : ¬ (n : Int) = 0 := by omega
  have hn0n : ¬ n = 0 := by omega
  have hn0' : ((n : Int) == 0) = false := by simp; omega
  go_loopw [7, 8] (fun x7 x8 wr => ∃ (i : Nat) (gx : Option Addr) (capx : Nat), i ≤ m ∧ x7 = .slice gx i capx ∧ x8 = .int .i64 i ∧ OwnE wr w.heap.size 36 (.slice gx i capx) (rnd n i q) ∧ Chg [] w wr) (fun _ x8 _ => m - (intOf x8).toNat)
  case atStart => exact ⟨0, none, 0, by omega, rfl, rfl, OwnE.nil _ _ _, Chg.refl _ _⟩
  case round =>
    obtain ⟨i, gx, capx, hi, rfl, rfl, hown, C⟩ := hrel
    by_cases him : i < m
    · have his : (i : Int) < s := (HS.out i).2 him
      have hi0 : (0 : Int) ≤ (i : Int) := by omega
      have hil : (i : Int) < 1048576 := by omega
      have hob := hown.block
      have hwz := C.size
      by_cases hq : 0 < q
      · have hqb : decide (0 < q) = true := decide_eq_true hq
        have hq0 : ¬ q = 0 := by omega
        have hq0' : (q == 0) = false := by simp; omega
        have hown2 : wr.ownsRow w.heap.size 36 3 (.slice gx i capx) i (flatE (rnd n i q)) := by
          have h := hown
          unfold OwnE at h
          rw [rnd_len] at h
          exact h
        have HO := Lib.hid hown2
        have HB := Lib.hid hob
        have HZ := Lib.hid hwz
        have HL := Lib.hid (And.intro hm2 hi)
        clear hown hown2 hob hwz hm2 hi
        go_upto_region 6 with (fail)
        go_region_held3 (fun _ => True) (trivial)
          (first | (refine step_append_lies _ (by rfl) _ _ _ (by rfl) w.heap.size 36 i0 (.agg #[.int .i64 0, .bool false, .int .u64 0]) 3 24 Tryd.underlying23 HI.out.1 HI.out.2.1 HI.out.2.2.1 HI.out.2.2.2 rfl (by decide) (.slice gx i capx) i (flatE (rnd n i q)) (by rfl) (World.ownsRow.drew (World.ownsRow.alloc HO.out _)) ⟨wr.heap.size, 0, none⟩ 1 1 [.int .i64 ((i : Int).tmod (n : Int)), .bool ((IntKind.i64.wrap (IntKind.i64.wrap ((i : Int) / (n : Int)) + 1)).tmod q == 0), .int .u64 (IntKind.u64.wrap (IntKind.u64.wrap (i : Int) + 1))] (by rfl) (by rfl) (World.news_of_block (Blk.new wr #[.int .i64 ((i : Int).tmod (n : Int)), .bool ((IntKind.i64.wrap (IntKind.i64.wrap ((i : Int) / (n : Int)) + 1)).tmod q == 0), .int .u64 (IntKind.u64.wrap (IntKind.u64.wrap (i : Int) + 1))] 36).drew) (by intro u hu; simp at hu; rcases hu with rfl | rfl | rfl <;> rfl) (by omega) (by have := HL.out; unfold maxLen; omega) (by have := HL.out; omega) (by have := HZ.out; simp; omega) (wr.heap.size + 1) (by simp) ?_; intro g cap w6 O6 G6 L6 hlt) | fail)
        have C6 : Chg [] w w6 := (C.alloc _).drew.then (Chg.of_grown G6) (fun g hg => .inr (HB.out g hg).1)
        have EN := Lib.hid (rnd_cells (n := n) (q := q) (b := (IntKind.i64.wrap (IntKind.i64.wrap ((i : Int) / (n : Int)) + 1)).tmod q == 0) HL.out.1 him (tickC (n := n) him HL.out.1 hq))
        have HC6 := Lib.hid C6
        have HO6 := Lib.hid O6
        clear C6 O6 G6 L6 hlt C
        go_wp2_with fail
        refine ⟨⟨i + 1, some ⟨g, 0, none⟩, cap, by have := HL.out; omega, rfl, by go_num, ?_, HC6.out⟩, by simp only [intOf]; omega⟩
        have h := HO6.out
        rw [EN.out] at h
        unfold OwnE
        rw [rnd_len]
        exact h
      · have HQ := Lib.hid hq
        have hown2 : wr.ownsRow w.heap.size 36 3 (.slice gx i capx) i (flatE (rnd n i q)) := by
          have h := hown
          unfold OwnE at h
          rw [rnd_len] at h
          exact h
        have HO := Lib.hid hown2
        have HB := Lib.hid hob
        have HZ := Lib.hid hwz
        have HL := Lib.hid (And.intro hm2 hi)
        clear hown hown2 hob hwz hm2 hi
        go_upto_region 6 with (fail)
        refine wp_region_held_drew (S := fun _ => True) (by kernel_rfl) trivial (fun _ => ?_)
        refine wpAnyH_take (i := 0) (oi := _) (v := .slice gx i capx) rfl (by kernel_rfl) (by kernel_rfl) (by kernel_rfl) (fun _ _ _ h => h) (Or.inl ⟨by rfl, fun w _ => by go_simp⟩) trivial ?_
        simp only [Act.put, List.setIfInBounds_toArray, List.set_cons_zero, List.set_cons_succ]
        refine wpAnyH_take (i := 1) (oi := _) (v := .int .i64 (i : Int)) rfl (by kernel_rfl) (by kernel_rfl) (by kernel_rfl) (fun _ _ _ h => h) (Or.inl ⟨by rfl, fun w _ => by go_simp⟩) trivial ?_
        simp only [Act.put, List.setIfInBounds_toArray, List.set_cons_zero, List.set_cons_succ]
        refine wpAnyH_take (i := 2) (oi := _) (v := .int .i64 (n : Int)) rfl (by kernel_rfl) (by kernel_rfl) (by kernel_rfl) (fun _ _ _ h => h) (Or.inl ⟨by rfl, fun w _ => by go_simp⟩) trivial ?_
        simp only [Act.put, List.setIfInBounds_toArray, List.set_cons_zero, List.set_cons_succ]
        refine wpAnyH_take (i := 3) (oi := _) (v := .int .i64 ((i : Int).tmod (n : Int))) rfl (by kernel_rfl) (by kernel_rfl) (by kernel_rfl) (fun _ _ _ h => h) (Or.inl ⟨by rfl, fun w _ => by go_simp⟩) trivial ?_
        simp only [Act.put, List.setIfInBounds_toArray, List.set_cons_zero, List.set_cons_succ]
        refine wpAnyH_take (i := 4) (oi := _) (v := .int .i64 q) rfl (by kernel_rfl) (by kernel_rfl) (by kernel_rfl) (fun _ _ _ h => h) (Or.inl ⟨by rfl, fun w _ => by go_simp⟩) trivial ?_
        simp only [Act.put, List.setIfInBounds_toArray, List.set_cons_zero, List.set_cons_succ]
        refine wpAnyH_take (i := 5) (oi := _) (v := .bool false) rfl (by kernel_rfl) (by kernel_rfl) (by kernel_rfl) (fun _ _ _ h => h) (Or.inl ⟨by rfl, fun w _ => by go_simp⟩) trivial ?_
        simp only [Act.put, List.setIfInBounds_toArray, List.set_cons_zero, List.set_cons_succ]
        refine wpAnyH_take (i := 6) (oi := _) (v := .bool false) rfl (by kernel_rfl) (by kernel_rfl) (by kernel_rfl) (fun _ _ _ h => h) (Or.inl ⟨by rfl, fun w _ => by go_simp⟩) trivial ?_
        simp only [Act.put, List.setIfInBounds_toArray, List.set_cons_zero, List.set_cons_succ]
        refine wpAnyH_take (i := 7) (oi := _) (v := undef) rfl (by kernel_rfl) (by kernel_rfl) (by kernel_rfl) (fun _ _ _ h => h) (Or.inr ⟨by kernel_rfl, rfl⟩) trivial ?_
        simp only [Act.put, List.setIfInBounds_toArray, List.set_cons_zero, List.set_cons_succ]
        refine wpAnyH_take (i := 8) (oi := _) (v := undef) rfl (by kernel_rfl) (by kernel_rfl) (by kernel_rfl) (fun _ _ _ h => h) (Or.inr ⟨by kernel_rfl, rfl⟩) trivial ?_
        simp only [Act.put, List.setIfInBounds_toArray, List.set_cons_zero, List.set_cons_succ]
        refine wpAnyH_take (i := 9) (oi := _) (v := undef) rfl (by kernel_rfl) (by kernel_rfl) (by kernel_rfl) (fun _ _ _ h => h) (Or.inr ⟨by kernel_rfl, rfl⟩) trivial ?_
        simp only [Act.put, List.setIfInBounds_toArray, List.set_cons_zero, List.set_cons_succ]
        refine wpAnyH_take (i := 10) (oi := _) (v := undef) rfl (by kernel_rfl) (by kernel_rfl) (by kernel_rfl) (fun _ _ _ h => h) (Or.inr ⟨by kernel_rfl, rfl⟩) trivial ?_
        simp only [Act.put, List.setIfInBounds_toArray, List.set_cons_zero, List.set_cons_succ]
        refine wpAnyH_take (i := 11) (oi := _) (v := undef) rfl (by kernel_rfl) (by kernel_rfl) (by kernel_rfl) (fun _ _ _ h => h) (Or.inr ⟨by kernel_rfl, rfl⟩) trivial ?_
        simp only [Act.put, List.setIfInBounds_toArray, List.set_cons_zero, List.set_cons_succ]
        refine wpAnyH_take (i := 12) (oi := _) (v := undef) rfl (by kernel_rfl) (by kernel_rfl) (by kernel_rfl) (fun _ _ _ h => h) (Or.inr ⟨by kernel_rfl, rfl⟩) trivial ?_
        simp only [Act.put, List.setIfInBounds_toArray, List.set_cons_zero, List.set_cons_succ]
        refine wpAnyH_take (i := 13) (oi := _) (v := undef) rfl (by kernel_rfl) (by kernel_rfl) (by kernel_rfl) (fun _ _ _ h => h) (Or.inr ⟨by kernel_rfl, rfl⟩) trivial ?_
        simp only [Act.put, List.setIfInBounds_toArray, List.set_cons_zero, List.set_cons_succ]
        refine wpAnyH_take (i := 14) (oi := _) (v := .bool false) rfl (by kernel_rfl) (by kernel_rfl) (by kernel_rfl) (fun _ _ _ h => h) (Or.inl ⟨by rfl, fun w _ => by go_simp⟩) trivial ?_
        simp only [Act.put, List.setIfInBounds_toArray, List.set_cons_zero, List.set_cons_succ]
        refine wpAnyH_take (i := 15) (oi := _) (v := .int .i64 (i : Int)) rfl (by kernel_rfl) (by kernel_rfl) (by kernel_rfl) (fun _ _ _ h => h) (Or.inl ⟨by rfl, fun w _ => by go_simp⟩) trivial ?_
        simp only [Act.put, List.setIfInBounds_toArray, List.set_cons_zero, List.set_cons_succ]
        refine wpAnyH_take (i := 16) (oi := _) (v := .int .u64 (IntKind.u64.wrap (i : Int))) rfl (by kernel_rfl) (by kernel_rfl) (by kernel_rfl) (fun _ _ _ h => h) (Or.inl ⟨by rfl, fun w _ => by go_simp⟩) trivial ?_
        simp only [Act.put, List.setIfInBounds_toArray, List.set_cons_zero, List.set_cons_succ]
        refine wpAnyH_take (i := 17) (oi := _) (v := .int .u64 (IntKind.u64.wrap (IntKind.u64.wrap (i : Int) + 1))) rfl (by kernel_rfl) (by kernel_rfl) (by kernel_rfl) (fun _ _ _ h => h) (Or.inl ⟨by rfl, fun w _ => by go_simp⟩) trivial ?_
        simp only [Act.put, List.setIfInBounds_toArray, List.set_cons_zero, List.set_cons_succ]
        refine wpAnyH_take (i := 18) (oi := _) (v := .agg #[.int .i64 ((i : Int).tmod (n : Int)), .bool false, .int .u64 (IntKind.u64.wrap (IntKind.u64.wrap (i : Int) + 1))]) rfl (by kernel_rfl) (by kernel_rfl) (by kernel_rfl) (fun _ _ _ h => h) (Or.inl ⟨by rfl, fun w _ => by go_simp⟩) trivial ?_
        simp only [Act.put, List.setIfInBounds_toArray, List.set_cons_zero, List.set_cons_succ]
        refine wpAnyH_ready (rs := [19]) (by kernel_rfl) (by simp) ?_
        refine AllReadyH.cons (o := _) rfl (fun K hK => ?_) AllReadyH.nil
        rw [if_pos (by rfl)]
        go_simp
        refine hK.out _ _ trivial (fun _ => ?_)
        clear hK K
        try simp only [Act.put, List.setIfInBounds_toArray, List.set_cons_zero, List.set_cons_succ]
        refine wpAnyH_ready (rs := [20]) (by kernel_rfl) (by simp) ?_
        refine AllReadyH.cons (o := _) rfl (fun K hK => ?_) AllReadyH.nil
        refine step_append_lies _ (by rfl) _ _ _ (by rfl) w.heap.size 36 i0 (.agg #[.int .i64 0, .bool false, .int .u64 0]) 3 24 Tryd.underlying23 HI.out.1 HI.out.2.1 HI.out.2.2.1 HI.out.2.2.2 rfl (by decide) (.slice gx i capx) i (flatE (rnd n i q)) (by rfl) (World.ownsRow.drew (World.ownsRow.alloc HO.out _)) ⟨wr.heap.size, 0, none⟩ 1 1 [.int .i64 ((i : Int).tmod (n : Int)), .bool (false), .int .u64 (IntKind.u64.wrap (IntKind.u64.wrap (i : Int) + 1))] (by rfl) (by rfl) (World.news_of_block (Blk.new wr #[.int .i64 ((i : Int).tmod (n : Int)), .bool (false), .int .u64 (IntKind.u64.wrap (IntKind.u64.wrap (i : Int) + 1))] 36).drew) (by intro u hu; simp at hu; rcases hu with rfl | rfl | rfl <;> rfl) (by omega) (by have := HL.out; unfold maxLen; omega) (by have := HL.out; omega) (by have := HZ.out; simp; omega) (wr.heap.size + 1) (by simp) ?_
        intro g cap w6 O6 G6 L6 hlt
        refine hK.out _ _ trivial (fun _ => ?_)
        clear hK K
        try simp only [Act.put, List.setIfInBounds_toArray, List.set_cons_zero, List.set_cons_succ]
        refine wpAnyH_take (i := 21) (oi := _) (v := .slice (some ⟨g, 0, none⟩) (i + 1) cap) rfl (by kernel_rfl) (by kernel_rfl) (by kernel_rfl) (fun _ _ _ h => h) (Or.inl ⟨by rfl, fun w _ => by go_simp⟩) trivial ?_
        simp only [Act.put, List.setIfInBounds_toArray, List.set_cons_zero, List.set_cons_succ]
        refine wpAnyH_done (by kernel_rfl) ?_ _
        have C6 : Chg [] w w6 := (C.alloc _).drew.then (Chg.of_grown G6) (fun g hg => .inr (HB.out g hg).1)
        have EN := Lib.hid (rnd_cells (n := n) (q := q) (b := false) HL.out.1 him (by simp; intro h; exact absurd h HQ.out))
        have HC6 := Lib.hid C6
        have HO6 := Lib.hid O6
        clear C6 O6 G6 L6 hlt C
        go_wp2_with fail
        refine ⟨⟨i + 1, some ⟨g, 0, none⟩, cap, by have := HL.out; omega, rfl, by go_num, ?_, HC6.out⟩, by simp only [intOf]; omega⟩
        have h := HO6.out
        rw [EN.out] at h
        unfold OwnE
        rw [rnd_len]
        exact h
    · have his : ¬ (i : Int) < s := fun h => him ((HS.out i).1 h)
      obtain rfl : m = i := by omega
      go_wp2_with fail
      go_ret
      exact ⟨_, rfl, hown, C⟩
end Go.Proofs.YtjohbnfeijhcmaaDoor
