/- The page's shelf: what each of its calls answers, and makes of it. -/
import Derived.Test.YtidooepalfegdaaDq8
import Derived.Test.YtidooepalfegdaaDqS
import Derived.Test.YtidooepalfegdaaQue
namespace Bosun
open Go
structure Shf where
  cap : Nat
  L : List Nat
  claim : Bool
  on : Bool
end Bosun
namespace Go.Proofs.Ytidooepalfegdaa
open Go.RowKit Bosun
def IsSh (w : World) (sb lim : Nat) (s : Shf) : Prop := ∃ v, Blk w sb #[.int .i64 (s.cap : Nat), v, .bool s.claim, .bool s.on] 86 ∧ QueN w lim 22 v (words s.L)
theorem IsSh.chg {w w' : World} {sb lim : Nat} {s : Shf} {S : List Nat} (h : IsSh w sb lim s) (hc : Chg S w w') (h1 : sb ∉ S) (h2 : ∀ g ∈ S, g < lim ∨ ∃ cs t, Blk w g cs t ∧ t ≠ 22) : IsSh w' sb lim s := by
  obtain ⟨v, hb, hq⟩ := h
  refine ⟨v, hb.chg hc h1, hq.chg hc (fun g hg e => ?_)⟩
  have := hq.block e
  rcases h2 g hg with h | ⟨cs, t, h, ht⟩
  · omega
  · rcases hq with ⟨rfl, _⟩ | ⟨g', off, cap, cur, rfl, _, h3, _⟩
    · cases e
    · simp [blkOf] at e; subst e
      exact ht (h.inj h3).2
theorem IsSh.keep {w w' : World} {sb lim : Nat} {s : Shf} (h : IsSh w sb lim s) (hc : Chg [] w w') : IsSh w' sb lim s := h.chg hc (by simp) (by simp)
theorem shnew_any (c : Nat) (h1 : 1 ≤ c) (h2 : c ≤ 256) (w : World) :
    Calls Try.prog 11 #[.int .i64 (c : Nat)] w fun e w' => ∃ sb, e = .returned (.pointer (some ⟨sb, 0, none⟩)) ∧ (∀ lim, IsSh w' sb lim ⟨c, [], false, false⟩) ∧ Chg [] w w' ∧ w.heap.size ≤ sb := by
  go_enter Try.func11, Try.ntmps11
  go_wp2_with (first
    | (refine wpList_max rfl (.tmp 3) (.const (.int .i64 1)) _ _ rfl .i64 (c : Nat) 1 (c : Nat) rfl rfl (by rw [if_neg (by omega)]) ?_)
    | (refine wpList_min rfl (.tmp 4) (.const (.int .i64 256)) _ _ rfl .i64 (c : Nat) 256 (c : Nat) rfl rfl (by rw [if_neg (by omega)]) ?_))
  go_ret
  exact ⟨_, rfl, fun lim => ⟨_, Blk.new _ _ _, .inl ⟨rfl, rfl⟩⟩, (Chg.refl _ _).alloc _, Nat.le_refl _⟩
theorem shclaims_any (sb lim : Nat) (s : Shf) (w : World) (h : IsSh w sb lim s) (hc : s.claim = false) :
    Calls Try.prog 45 #[.pointer (some ⟨sb, 0, none⟩)] w fun e w' => (∃ x, e = .returned x) ∧ IsSh w' sb lim { s with claim := true, on := decide (0 < s.L.length) } ∧ Chg [sb] w w' := by
  obtain ⟨v, hb, hq⟩ := h
  obtain ⟨cap, L, cl, on⟩ := s
  simp only at hc hb hq ⊢
  subst hc
  have HQ := Lib.hid hq
  obtain ⟨ao, cp, hv, _, _⟩ := hq.reads
  rw [words_len] at hv
  have HV := Lib.hid hv
  have hb' := hb
  rw [hv] at hb'
  have c1 : w.cell? ⟨sb, 1, none⟩ = some (.slice ao L.length cp) := by rw [hb'.cell]; rfl
  have c2 : w.cell? ⟨sb, 2, none⟩ = some (.bool false) := by rw [hb.cell]; rfl
  have c3 : w.cell? ⟨sb, 3, none⟩ = some (.bool on) := by rw [hb.cell]; rfl
  have f2 := hb.frozen 2
  have f3 := hb.frozen 3
  have HB := Lib.hid hb
  clear hv hb' hb hq
  obtain ⟨n, hn⟩ : ∃ n, n = L.length := ⟨_, rfl⟩
  rw [← hn] at c1
  have HN := Lib.hid hn
  have ed : (decide (0 < (n : Int))) = decide (0 < n) := by simp
  clear hn
  go_enter Try.func45, Try.ntmps45
  go_wp2_with fail
  go_ret2
  refine ⟨⟨_, rfl⟩, ⟨v, ?_, HQ.out.chg ((((Chg.refl [sb] w).setCell (.inl (by simp)) _)).setCell (.inl (by simp)) _) (fun g hg e => ?_)⟩, (((Chg.refl [sb] w).setCell (.inl (by simp)) _)).setCell (.inl (by simp)) _⟩
  · have := (HB.out.setCell 2 (.bool true)).setCell 3 (.bool (decide (0 < L.length)))
    rw [← HN.out] at this ⊢
    simpa using this
  · simp at hg
    subst hg
    rcases HQ.out with ⟨rfl, _⟩ | ⟨g', off, cap', cur, rfl, _, h3, _⟩
    · cases e
    · simp [blkOf] at e
      subst e
      exact absurd (HB.out.inj h3).2 (by decide)
theorem QueN.sh_ne {w : World} {v : Value} {L : List Nat} {sb lim : Nat} {cs : Array Value} (hb : Blk w sb cs 86) (hq : QueN w lim 22 v (words L)) : ∀ g, g ∈ [sb] → blkOf v ≠ some g := by
  intro g hg e
  simp at hg
  subst hg
  rcases hq with ⟨rfl, _⟩ | ⟨g', off, cap', cur, rfl, _, h3, _⟩
  · cases e
  · simp [blkOf] at e
    subst e
    exact absurd (hb.inj h3).2 (by decide)
set_option maxHeartbeats 2000000 in
theorem shsnatch_none (sb lim cap : Nat) (cl on : Bool) (w : World) (h : IsSh w sb lim ⟨cap, [], cl, on⟩) :
    Calls Try.prog 49 #[.pointer (some ⟨sb, 0, none⟩)] w fun e w' => e = .returned (.tuple #[.int .u64 0, .int .i64 7]) ∧ w = w' := by
  obtain ⟨v, hb, hq⟩ := h
  obtain ⟨ao, cp, rfl, _, _⟩ := hq.reads
  have c1 : w.cell? ⟨sb, 1, none⟩ = some (.slice ao 0 cp) := by rw [hb.cell]; rfl
  clear hb hq
  go_enter Try.func49, Try.ntmps49
  go_wp2_with fail
  go_ret2
  exact ⟨rfl, rfl⟩
set_option maxHeartbeats 4000000 in
theorem shsnatch_some (sb lim cap : Nat) (cl on : Bool) (x : Nat) (L : List Nat) (w : World) (h : IsSh w sb lim ⟨cap, x :: L, cl, on⟩) (hl : L.length < 1000) :
    Calls Try.prog 49 #[.pointer (some ⟨sb, 0, none⟩)] w fun e w' => e = .returned (.tuple #[.int .u64 (x : Nat), .int .i64 0]) ∧ IsSh w' sb lim ⟨cap, L, cl, if L.length = 0 then false else on⟩ ∧ Chg [sb] w w' := by
  obtain ⟨v, hb, hq⟩ := h
  simp only at hb hq
  have hq1 : Que w lim 22 v (words (x :: L)) := hq.que (by simp [words])
  have HN := Lib.hid (QueN.sh_ne hb hq)
  have hq2 := hq1
  obtain ⟨g, off, cp, cur, rfl, q2, q3, q4, q5, q6, q7⟩ := hq2
  have hx0 : w.cell? ⟨g, off, none⟩ = some (.int .u64 (x : Nat)) := by rw [q3.cell]; exact q7 0 _ rfl
  simp only [words_len, List.length_cons] at hb hq1 q5 HN
  have c1 : w.cell? ⟨sb, 1, none⟩ = some (.slice (some ⟨g, off, none⟩) (L.length + 1) cp) := by rw [hb.cell]; rfl
  have c3 : w.cell? ⟨sb, 3, none⟩ = some (.bool on) := by rw [hb.cell]; rfl
  have HB := Lib.hid hb
  have HQ := Lib.hid (show Que w lim 22 (.slice (some ⟨g, off, none⟩) (L.length + 1) cp) (Value.int .u64 (x : Nat) :: words L) from hq1)
  clear hb hq1 q2 q3 q4 q7 hq
  unfold maxLen at q6
  by_cases e0 : L.length = 0
  · rw [if_pos e0]
    have d0 : ((L.length : Int) == 0) = true := by simp [e0]
    clear e0
    go_enter Try.func49, Try.ntmps49
    go_wp2_with (first
      | (refine wpList_que_tail rfl 46 (.tmp 21) (.const (.int .i64 1)) rfl lim 22 Try.underlying46 (by kernel_rfl) .i64 rfl _ rfl _ _ HQ.out ?_; intro v' Qv ev; have hx' : ∃ g' off' cp', v' = .slice (some ⟨g', off', none⟩) L.length cp' := (by obtain ⟨g', off', cp', _, rfl, _⟩ := Qv; exact ⟨g', off', cp', by rw [words_len]⟩); obtain ⟨g', off', cp', rfl⟩ := hx'; have HQv := Lib.hid Qv; have EV := Lib.hid ev; clear Qv ev)
      | (refine wpList_val_store rfl 46 (.tmp 24) (.tmp 22) rfl sb 1 rfl _ rfl _ _ HB.out (by simp) (by kernel_rfl) rfl ?_; intro w2 B2 C2; have k1 : w2.cell? ⟨sb, 1, none⟩ = some (.slice (some ⟨g', off', none⟩) L.length cp') := (by rw [B2.cell]; rfl); have k3 : w2.cell? ⟨sb, 3, none⟩ = some (.bool on) := (by rw [B2.cell]; rfl); have f3 := B2.frozen 3))
    go_ret2
    have CS := (Chg.refl [sb] w2).setCell (a := ⟨sb, 3, none⟩) (.inl (by simp)) (.bool false)
    have C3 := C2.then CS (fun g hg => .inl hg)
    refine ⟨rfl, ⟨_, B2.setCell 3 _, .inr (HQv.out.chg C3 (fun g hg e => HN.out g hg ?_))⟩, C3⟩
    rw [← e]; exact EV.out.symm
  · rw [if_neg e0]
    have d0 : ((L.length : Int) == 0) = false := by simp only [beq_eq_false_iff_ne, ne_eq]; omega
    clear e0
    go_enter Try.func49, Try.ntmps49
    go_wp2_with (first
      | (refine wpList_que_tail rfl 46 (.tmp 21) (.const (.int .i64 1)) rfl lim 22 Try.underlying46 (by kernel_rfl) .i64 rfl _ rfl _ _ HQ.out ?_; intro v' Qv ev; have hx' : ∃ g' off' cp', v' = .slice (some ⟨g', off', none⟩) L.length cp' := (by obtain ⟨g', off', cp', _, rfl, _⟩ := Qv; exact ⟨g', off', cp', by rw [words_len]⟩); obtain ⟨g', off', cp', rfl⟩ := hx'; have HQv := Lib.hid Qv; have EV := Lib.hid ev; clear Qv ev)
      | (refine wpList_val_store rfl 46 (.tmp 24) (.tmp 22) rfl sb 1 rfl _ rfl _ _ HB.out (by simp) (by kernel_rfl) rfl ?_; intro w2 B2 C2; have k1 : w2.cell? ⟨sb, 1, none⟩ = some (.slice (some ⟨g', off', none⟩) L.length cp') := (by rw [B2.cell]; rfl); have k3 : w2.cell? ⟨sb, 3, none⟩ = some (.bool on) := (by rw [B2.cell]; rfl); have f3 := B2.frozen 3))
    go_ret2
    refine ⟨rfl, ⟨_, B2, .inr (HQv.out.chg C2 (fun g hg e => HN.out g hg ?_))⟩, C2⟩
    rw [← e]; exact EV.out.symm
theorem shtake_direct (sb lim cap : Nat) (cl on : Bool) (L : List Nat) (w : World) (h : IsSh w sb lim ⟨cap, L, cl, on⟩) (hn : ¬ (L.length = 1 ∧ on = true)) (r : Value) (r2 : Value) (Q : World → Prop)
    (hs : Calls Try.prog 49 #[.pointer (some ⟨sb, 0, none⟩)] w fun e w' => e = .returned (.tuple #[r, r2]) ∧ Q w') :
    Calls Try.prog 48 #[.pointer (some ⟨sb, 0, none⟩)] w fun e w' => e = .returned (.tuple #[r, r2]) ∧ Q w' := by
  obtain ⟨v, hb, hq⟩ := h
  obtain ⟨ao, cp, rfl, _, _⟩ := hq.reads
  simp only [words_len] at hb
  have c1 : w.cell? ⟨sb, 1, none⟩ = some (.slice ao L.length cp) := by rw [hb.cell]; rfl
  have c3 : w.cell? ⟨sb, 3, none⟩ = some (.bool on) := by rw [hb.cell]; rfl
  have HS := Lib.hid hs
  clear hb hq hs
  by_cases h1 : L.length = 1
  · obtain rfl : on = false := by cases on; rfl; exact absurd ⟨h1, rfl⟩ hn
    have d0 : ((L.length : Int) == 1) = true := by simp [h1]
    clear h1 hn
    go_enter Try.func48, Try.ntmps48
    go_wp2_with (go_at_call 49; refine HS.out.mono ?_; rintro e w2 ⟨rfl, H2⟩)
    go_ret2
    exact ⟨rfl, H2⟩
  · have d0 : ((L.length : Int) == 1) = false := by simp only [beq_eq_false_iff_ne, ne_eq]; omega
    clear h1 hn
    go_enter Try.func48, Try.ntmps48
    go_wp2_with (go_at_call 49; refine HS.out.mono ?_; rintro e w2 ⟨rfl, H2⟩)
    go_ret2
    exact ⟨rfl, H2⟩
theorem shtake_one (sb lim cap : Nat) (cl : Bool) (L : List Nat) (w : World) (h : IsSh w sb lim ⟨cap, L, cl, true⟩) (h1 : L.length = 1) :
    Calls Try.prog 48 #[.pointer (some ⟨sb, 0, none⟩)] w fun e w' => e = .returned (.tuple #[.int .u64 0, .int .i64 7]) ∧ w = w' := by
  obtain ⟨v, hb, hq⟩ := h
  obtain ⟨ao, cp, rfl, _, _⟩ := hq.reads
  simp only [words_len] at hb
  have c1 : w.cell? ⟨sb, 1, none⟩ = some (.slice ao L.length cp) := by rw [hb.cell]; rfl
  have c3 : w.cell? ⟨sb, 3, none⟩ = some (.bool true) := by rw [hb.cell]; rfl
  have d0 : ((L.length : Int) == 1) = true := by simp [h1]
  clear hb hq h1
  go_enter Try.func48, Try.ntmps48
  go_wp2_with fail
  go_ret2
  exact ⟨rfl, rfl⟩
theorem shsettle_off (sb lim cap : Nat) (L : List Nat) (w : World) (h : IsSh w sb lim ⟨cap, L, true, false⟩) :
    Calls Try.prog 47 #[.pointer (some ⟨sb, 0, none⟩)] w fun e w' => e = .returned (.tuple #[.int .u64 0, .int .i64 7]) ∧ IsSh w' sb lim ⟨cap, L, false, false⟩ ∧ Chg [sb] w w' := by
  obtain ⟨v, hb, hq⟩ := h
  have c2 : w.cell? ⟨sb, 2, none⟩ = some (.bool true) := by rw [hb.cell]; rfl
  have c3 : w.cell? ⟨sb, 3, none⟩ = some (.bool false) := by rw [hb.cell]; rfl
  have f2 := hb.frozen 2
  have HB := Lib.hid hb
  have HQ := Lib.hid hq
  clear hb hq
  go_enter Try.func47, Try.ntmps47
  go_wp2_with fail
  go_ret2
  have CS := (Chg.refl [sb] w).setCell (a := ⟨sb, 2, none⟩) (.inl (by simp)) (.bool false)
  exact ⟨rfl, ⟨v, HB.out.setCell 2 _, HQ.out.chg CS (QueN.sh_ne HB.out HQ.out)⟩, CS⟩
theorem shpush_full (sb lim cap : Nat) (on : Bool) (L : List Nat) (x : Nat) (w : World) (h : IsSh w sb lim ⟨cap, L, false, on⟩) (hl : cap ≤ L.length) :
    Calls Try.prog 46 #[.pointer (some ⟨sb, 0, none⟩), .int .u64 (x : Nat)] w fun e w' => e = .returned (.int .i64 6) ∧ Chg [] w w' := by
  obtain ⟨v, hb, hq⟩ := h
  obtain ⟨ao, cp, rfl, _, _⟩ := hq.reads
  simp only [words_len] at hb
  have c0 : w.cell? ⟨sb, 0, none⟩ = some (.int .i64 (cap : Nat)) := by rw [hb.cell]; rfl
  have c1 : w.cell? ⟨sb, 1, none⟩ = some (.slice ao L.length cp) := by rw [hb.cell]; rfl
  have c2 : w.cell? ⟨sb, 2, none⟩ = some (.bool false) := by rw [hb.cell]; rfl
  have d0 : decide (cap ≤ L.length) = true := by simpa using hl
  clear hb hq hl
  go_enter Try.func46, Try.ntmps46
  go_wp2_with fail
  go_quiet (fail)
  go_wp2_with fail
  go_ret
  exact ⟨rfl, (Chg.refl _ _).drewN _⟩
end Go.Proofs.Ytidooepalfegdaa
