/- The law's 'shelved': what a work's step is on a shelf. -/
import Derived.Test.YtidooepalfegdaaDqSh2
namespace Go.Proofs.Ytidooepalfegdaa
open Go.RowKit Bosun
set_option maxHeartbeats 2000000 in
theorem sv_claim (sb lim g : Nat) (s : Shf) (o : DOp) (x : Nat) (w : World) (h : IsSh w sb lim s) (ho : IsOp w g o) (hs : o.steps = 2) (hc : s.claim = false) :
    Calls Try.prog 17 #[.pointer (some ⟨sb, 0, none⟩), .pointer (some ⟨g, 0, none⟩), .int .i64 0, .bool false, .int .u64 (x : Nat)] w fun e w' => e = .returned (.bool true) ∧ IsSh w' sb lim { s with claim := true, on := decide (0 < s.L.length) } ∧ Chg [sb] w w' := by
  have HR := Lib.hid (result_any g o w ho)
  generalize hy : resD o = y at HR
  obtain ⟨y1, y2⟩ := y
  have HDN := Lib.hid (fun (w1 : World) (h1 : Chg [] w w1) => done_any g o w1 (ho.chg h1 (by simp)))
  have HST := Lib.hid (fun (w1 : World) (h1 : Chg [] w w1) => steps_any g o w1 (ho.chg h1 (by simp)))
  rw [hs] at HST
  have HS := Lib.hid (fun (w1 : World) (h1 : Chg [] w w1) => shclaims_any sb lim s w1 (h.keep h1) hc)
  clear h ho hs hc hy
  go_enter Try.func17, Try.ntmps17
  go_wp2_with fail
  refine HR.out.mono ?_
  rintro e w1 ⟨rfl, C1⟩
  have HC1 := Lib.hid C1
  clear C1
  go_wp2_with (first
    | (go_at_call 15; refine (HST.out _ HC1.out).mono ?_; rintro e y ⟨rfl, rfl⟩)
    | (go_at_call 13; refine (HDN.out _ HC1.out).mono ?_; rintro e y ⟨rfl, rfl⟩)
    | (go_at_call 45; refine (HS.out _ HC1.out).mono ?_; rintro e w2 ⟨⟨y, rfl⟩, H2, C2⟩))
  go_ret
  exact ⟨rfl, H2, HC1.out.weak.then C2 (fun g hg => .inl hg)⟩
set_option maxHeartbeats 2000000 in
theorem sv_skip_push (sb lim g : Nat) (s : Shf) (o : DOp) (x : Nat) (w : World) (h : IsSh w sb lim s) (ho : IsOp w g o) (hd : o.done = false)  :
    Calls Try.prog 17 #[.pointer (some ⟨sb, 0, none⟩), .pointer (some ⟨g, 0, none⟩), .int .i64 0, .bool true, .int .u64 (x : Nat)] w fun e w' => e = .returned (.bool true) ∧ Chg [] w w' := by
  have HR := Lib.hid (result_any g o w ho)
  generalize hy : resD o = y at HR
  obtain ⟨y1, y2⟩ := y
  have HDN := Lib.hid (fun (w1 : World) (h1 : Chg [] w w1) => done_any g o w1 (ho.chg h1 (by simp)))
  have HST := Lib.hid (fun (w1 : World) (h1 : Chg [] w w1) => steps_any g o w1 (ho.chg h1 (by simp)))
  rw [hd] at HDN
  clear h ho hd hy
  go_enter Try.func17, Try.ntmps17
  go_wp2_with fail
  refine HR.out.mono ?_
  rintro e w1 ⟨rfl, C1⟩
  have HC1 := Lib.hid C1
  clear C1
  go_wp2_with (first
    | (go_at_call 15; refine (HST.out _ HC1.out).mono ?_; rintro e y ⟨rfl, rfl⟩)
    | (go_at_call 13; refine (HDN.out _ HC1.out).mono ?_; rintro e y ⟨rfl, rfl⟩))
  go_ret
  exact ⟨rfl, HC1.out⟩
set_option maxHeartbeats 2000000 in
theorem sv_skip_pop (sb lim g : Nat) (s : Shf) (o : DOp) (x : Nat) (w : World) (h : IsSh w sb lim s) (ho : IsOp w g o) (hd : o.done = false) (hs : o.steps ≠ 2) :
    Calls Try.prog 17 #[.pointer (some ⟨sb, 0, none⟩), .pointer (some ⟨g, 0, none⟩), .int .i64 0, .bool false, .int .u64 (x : Nat)] w fun e w' => e = .returned (.bool true) ∧ Chg [] w w' := by
  have HR := Lib.hid (result_any g o w ho)
  generalize hy : resD o = y at HR
  obtain ⟨y1, y2⟩ := y
  have HDN := Lib.hid (fun (w1 : World) (h1 : Chg [] w w1) => done_any g o w1 (ho.chg h1 (by simp)))
  have HST := Lib.hid (fun (w1 : World) (h1 : Chg [] w w1) => steps_any g o w1 (ho.chg h1 (by simp)))
  rw [hd] at HDN
  obtain ⟨n, hn⟩ : ∃ n, n = o.steps := ⟨_, rfl⟩
  rw [← hn] at HST hs
  have d2 : ((n : Int) == 2) = false := by simp only [beq_eq_false_iff_ne, ne_eq]; omega
  clear hn hs
  clear h ho hd hy
  go_enter Try.func17, Try.ntmps17
  go_wp2_with fail
  refine HR.out.mono ?_
  rintro e w1 ⟨rfl, C1⟩
  have HC1 := Lib.hid C1
  clear C1
  go_wp2_with (first
    | (go_at_call 15; refine (HST.out _ HC1.out).mono ?_; rintro e y ⟨rfl, rfl⟩)
    | (go_at_call 13; refine (HDN.out _ HC1.out).mono ?_; rintro e y ⟨rfl, rfl⟩))
  go_ret
  exact ⟨rfl, HC1.out⟩
set_option maxHeartbeats 2000000 in
theorem sv_skip_steal (sb lim g : Nat) (s : Shf) (o : DOp) (x k : Nat) (push : Bool) (w : World) (h : IsSh w sb lim s) (ho : IsOp w g o) (hd : o.done = false) (hk : 0 < k) :
    Calls Try.prog 17 #[.pointer (some ⟨sb, 0, none⟩), .pointer (some ⟨g, 0, none⟩), .int .i64 (k : Nat), .bool push, .int .u64 (x : Nat)] w fun e w' => e = .returned (.bool true) ∧ Chg [] w w' := by
  have HR := Lib.hid (result_any g o w ho)
  generalize hy : resD o = y at HR
  obtain ⟨y1, y2⟩ := y
  have HDN := Lib.hid (fun (w1 : World) (h1 : Chg [] w w1) => done_any g o w1 (ho.chg h1 (by simp)))
  have HST := Lib.hid (fun (w1 : World) (h1 : Chg [] w w1) => steps_any g o w1 (ho.chg h1 (by simp)))
  rw [hd] at HDN
  have dk : ((k : Int) == 0) = false := by simp only [beq_eq_false_iff_ne, ne_eq]; omega
  clear hk
  clear h ho hd hy
  go_enter Try.func17, Try.ntmps17
  go_wp2_with fail
  refine HR.out.mono ?_
  rintro e w1 ⟨rfl, C1⟩
  have HC1 := Lib.hid C1
  clear C1
  go_wp2_with (first
    | (go_at_call 15; refine (HST.out _ HC1.out).mono ?_; rintro e y ⟨rfl, rfl⟩)
    | (go_at_call 13; refine (HDN.out _ HC1.out).mono ?_; rintro e y ⟨rfl, rfl⟩))
  go_ret
  exact ⟨rfl, HC1.out⟩
set_option maxHeartbeats 2000000 in
theorem sv_push_full (sb lim g : Nat) (s : Shf) (o : DOp) (x : Nat) (w : World) (h : IsSh w sb lim s) (ho : IsOp w g o) (hd : o.done = true) (he : o.err = 6) (hc : s.claim = false) (hl : s.cap ≤ s.L.length) :
    Calls Try.prog 17 #[.pointer (some ⟨sb, 0, none⟩), .pointer (some ⟨g, 0, none⟩), .int .i64 0, .bool true, .int .u64 (x : Nat)] w fun e w' => e = .returned (.bool true) ∧ Chg [] w w' := by
  have HR := Lib.hid (result_any g o w ho)
  rw [show resD o = (0, 6) from by unfold resD; rw [hd, he]; rfl] at HR
  have HDN := Lib.hid (fun (w1 : World) (h1 : Chg [] w w1) => done_any g o w1 (ho.chg h1 (by simp)))
  have HST := Lib.hid (fun (w1 : World) (h1 : Chg [] w w1) => steps_any g o w1 (ho.chg h1 (by simp)))
  rw [hd] at HDN
  obtain ⟨cap, L, cl, on⟩ := s
  simp only at hc hl
  subst hc
  have HS := Lib.hid (fun (w1 : World) (h1 : Chg [] w w1) => shpush_full sb lim cap on L x w1 (h.keep h1) hl)
  clear h ho hd he hl
  go_enter Try.func17, Try.ntmps17
  go_wp2_with fail
  refine HR.out.mono ?_
  rintro e w1 ⟨rfl, C1⟩
  have HC1 := Lib.hid C1
  clear C1
  go_wp2_with (first
    | (go_at_call 15; refine (HST.out _ HC1.out).mono ?_; rintro e y ⟨rfl, rfl⟩)
    | (go_at_call 13; refine (HDN.out _ HC1.out).mono ?_; rintro e y ⟨rfl, rfl⟩)
    | (go_at_call 46; refine (HS.out _ HC1.out).mono ?_; rintro e w2 ⟨rfl, C2⟩))
  go_ret
  exact ⟨rfl, HC1.out.then C2 (by simp)⟩
set_option maxHeartbeats 2000000 in
theorem sv_push_ok (sb lim g : Nat) (s : Shf) (o : DOp) (x : Nat) (w : World) (h : IsSh w sb lim s) (ho : IsOp w g o) (hd : o.done = true) (he : o.err = 0) (hx : o.x = x) (hc : s.claim = false) (hl : s.L.length < s.cap) (hcap : s.cap ≤ 256) (hlim : lim ≤ w.heap.size) :
    Calls Try.prog 17 #[.pointer (some ⟨sb, 0, none⟩), .pointer (some ⟨g, 0, none⟩), .int .i64 0, .bool true, .int .u64 (x : Nat)] w fun e w' => e = .returned (.bool true) ∧ IsSh w' sb lim { s with L := s.L ++ [x] } ∧ Chg [sb] w w' := by
  have HR := Lib.hid (result_any g o w ho)
  rw [show resD o = (x, 0) from by unfold resD; rw [hd, he, hx]; rfl] at HR
  have HDN := Lib.hid (fun (w1 : World) (h1 : Chg [] w w1) => done_any g o w1 (ho.chg h1 (by simp)))
  have HST := Lib.hid (fun (w1 : World) (h1 : Chg [] w w1) => steps_any g o w1 (ho.chg h1 (by simp)))
  rw [hd] at HDN
  obtain ⟨cap, L, cl, on⟩ := s
  simp only at hc hl hcap
  subst hc
  have HS := Lib.hid (fun (w1 : World) (h1 : Chg [] w w1) => shpush_ok sb lim cap on L x w1 (h.keep h1) hl hcap (Nat.le_trans hlim h1.size))
  clear h ho hd he hl hx hcap hlim
  go_enter Try.func17, Try.ntmps17
  go_wp2_with fail
  refine HR.out.mono ?_
  rintro e w1 ⟨rfl, C1⟩
  have HC1 := Lib.hid C1
  clear C1
  go_wp2_with (first
    | (go_at_call 15; refine (HST.out _ HC1.out).mono ?_; rintro e y ⟨rfl, rfl⟩)
    | (go_at_call 13; refine (HDN.out _ HC1.out).mono ?_; rintro e y ⟨rfl, rfl⟩)
    | (go_at_call 46; refine (HS.out _ HC1.out).mono ?_; rintro e w2 ⟨rfl, H2, C2⟩))
  go_ret
  exact ⟨rfl, H2, HC1.out.weak.then C2 (fun g hg => .inl hg)⟩
set_option maxHeartbeats 2000000 in
theorem sv_pop_ok (sb lim g : Nat) (s : Shf) (o : DOp) (x y : Nat) (L : List Nat) (w : World) (h : IsSh w sb lim s) (ho : IsOp w g o) (hd : o.done = true) (hs : o.steps ≠ 2) (he : o.err = 0) (hx : o.x = y) (hc : s.claim = true) (hon : s.on = true) (hL : s.L = L ++ [y]) (hl : L.length < 1000) :
    Calls Try.prog 17 #[.pointer (some ⟨sb, 0, none⟩), .pointer (some ⟨g, 0, none⟩), .int .i64 0, .bool false, .int .u64 (x : Nat)] w fun e w' => e = .returned (.bool true) ∧ IsSh w' sb lim ⟨s.cap, L, false, false⟩ ∧ Chg [sb] w w' := by
  have HR := Lib.hid (result_any g o w ho)
  rw [show resD o = (y, 0) from by unfold resD; rw [hd, he, hx]; rfl] at HR
  have HDN := Lib.hid (fun (w1 : World) (h1 : Chg [] w w1) => done_any g o w1 (ho.chg h1 (by simp)))
  have HST := Lib.hid (fun (w1 : World) (h1 : Chg [] w w1) => steps_any g o w1 (ho.chg h1 (by simp)))
  rw [hd] at HDN
  obtain ⟨cap, L0, cl, on⟩ := s
  simp only at hc hon hL
  subst hc hon hL
  have HS := Lib.hid (fun (w1 : World) (h1 : Chg [] w w1) => shsettle_on sb lim cap L y w1 (h.keep h1) hl)
  obtain ⟨n, hn⟩ : ∃ n, n = o.steps := ⟨_, rfl⟩
  rw [← hn] at HST hs
  have d2 : ((n : Int) == 2) = false := by simp only [beq_eq_false_iff_ne, ne_eq]; omega
  clear h ho hd he hl hx hn hs
  go_enter Try.func17, Try.ntmps17
  go_wp2_with fail
  refine HR.out.mono ?_
  rintro e w1 ⟨rfl, C1⟩
  have HC1 := Lib.hid C1
  clear C1
  go_wp2_with (first
    | (go_at_call 15; refine (HST.out _ HC1.out).mono ?_; rintro e y ⟨rfl, rfl⟩)
    | (go_at_call 13; refine (HDN.out _ HC1.out).mono ?_; rintro e y ⟨rfl, rfl⟩)
    | (go_at_call 47; refine (HS.out _ HC1.out).mono ?_; rintro e w2 ⟨rfl, H2, C2⟩))
  go_ret
  exact ⟨rfl, H2, HC1.out.weak.then C2 (fun g hg => .inl hg)⟩
set_option maxHeartbeats 2000000 in
theorem sv_pop_none (sb lim g : Nat) (s : Shf) (o : DOp) (x : Nat) (w : World) (h : IsSh w sb lim s) (ho : IsOp w g o) (hd : o.done = true) (hs : o.steps ≠ 2) (he : o.err = 7) (hc : s.claim = true) (hon : s.on = false) :
    Calls Try.prog 17 #[.pointer (some ⟨sb, 0, none⟩), .pointer (some ⟨g, 0, none⟩), .int .i64 0, .bool false, .int .u64 (x : Nat)] w fun e w' => e = .returned (.bool true) ∧ IsSh w' sb lim ⟨s.cap, s.L, false, false⟩ ∧ Chg [sb] w w' := by
  have HR := Lib.hid (result_any g o w ho)
  rw [show resD o = (0, 7) from by unfold resD; rw [hd, he]; rfl] at HR
  have HDN := Lib.hid (fun (w1 : World) (h1 : Chg [] w w1) => done_any g o w1 (ho.chg h1 (by simp)))
  have HST := Lib.hid (fun (w1 : World) (h1 : Chg [] w w1) => steps_any g o w1 (ho.chg h1 (by simp)))
  rw [hd] at HDN
  obtain ⟨cap, L, cl, on⟩ := s
  simp only at hc hon
  subst hc hon
  have HS := Lib.hid (fun (w1 : World) (h1 : Chg [] w w1) => shsettle_off sb lim cap L w1 (h.keep h1))
  obtain ⟨n, hn⟩ : ∃ n, n = o.steps := ⟨_, rfl⟩
  rw [← hn] at HST hs
  have d2 : ((n : Int) == 2) = false := by simp only [beq_eq_false_iff_ne, ne_eq]; omega
  clear h ho hd he hn hs
  go_enter Try.func17, Try.ntmps17
  go_wp2_with fail
  refine HR.out.mono ?_
  rintro e w1 ⟨rfl, C1⟩
  have HC1 := Lib.hid C1
  clear C1
  go_wp2_with (first
    | (go_at_call 15; refine (HST.out _ HC1.out).mono ?_; rintro e y ⟨rfl, rfl⟩)
    | (go_at_call 13; refine (HDN.out _ HC1.out).mono ?_; rintro e y ⟨rfl, rfl⟩)
    | (go_at_call 47; refine (HS.out _ HC1.out).mono ?_; rintro e w2 ⟨rfl, H2, C2⟩))
  go_ret
  exact ⟨rfl, H2, HC1.out.weak.then C2 (fun g hg => .inl hg)⟩
set_option maxHeartbeats 2000000 in
theorem sv_again (sb lim g : Nat) (s : Shf) (o : DOp) (x k : Nat) (push : Bool) (w : World) (h : IsSh w sb lim s) (ho : IsOp w g o) (hk : 0 < k) (hd : o.done = true) (he : o.err = 8) :
    Calls Try.prog 17 #[.pointer (some ⟨sb, 0, none⟩), .pointer (some ⟨g, 0, none⟩), .int .i64 (k : Nat), .bool push, .int .u64 (x : Nat)] w fun e w' => e = .returned (.bool true) ∧ Chg [] w w' := by
  have HR := Lib.hid (result_any g o w ho)
  rw [show resD o = (0, 8) from by unfold resD; rw [hd, he]; rfl] at HR
  have HDN := Lib.hid (fun (w1 : World) (h1 : Chg [] w w1) => done_any g o w1 (ho.chg h1 (by simp)))
  have HST := Lib.hid (fun (w1 : World) (h1 : Chg [] w w1) => steps_any g o w1 (ho.chg h1 (by simp)))
  rw [hd] at HDN
  have dk : ((k : Int) == 0) = false := by simp only [beq_eq_false_iff_ne, ne_eq]; omega
  clear h ho hd he hk
  go_enter Try.func17, Try.ntmps17
  go_wp2_with fail
  refine HR.out.mono ?_
  rintro e w1 ⟨rfl, C1⟩
  have HC1 := Lib.hid C1
  clear C1
  go_wp2_with (first
    | (go_at_call 15; refine (HST.out _ HC1.out).mono ?_; rintro e y ⟨rfl, rfl⟩)
    | (go_at_call 13; refine (HDN.out _ HC1.out).mono ?_; rintro e y ⟨rfl, rfl⟩))
  go_ret
  exact ⟨rfl, HC1.out⟩
set_option maxHeartbeats 2000000 in
theorem sv_steal_direct (sb lim g : Nat) (s : Shf) (o : DOp) (x k : Nat) (push : Bool) (y : Nat) (L : List Nat) (w : World) (h : IsSh w sb lim s) (ho : IsOp w g o) (hk : 0 < k) (hd : o.done = true) (he : o.err = 0) (hx : o.x = y) (hL : s.L = y :: L) (hl : L.length < 1000) (hn : ¬ (s.L.length = 1 ∧ s.on = true)) :
    Calls Try.prog 17 #[.pointer (some ⟨sb, 0, none⟩), .pointer (some ⟨g, 0, none⟩), .int .i64 (k : Nat), .bool push, .int .u64 (x : Nat)] w fun e w' => e = .returned (.bool true) ∧ IsSh w' sb lim ⟨s.cap, L, s.claim, if L.length = 0 then false else s.on⟩ ∧ Chg [sb] w w' := by
  have HR := Lib.hid (result_any g o w ho)
  rw [show resD o = (y, 0) from by unfold resD; rw [hd, he, hx]; rfl] at HR
  have HDN := Lib.hid (fun (w1 : World) (h1 : Chg [] w w1) => done_any g o w1 (ho.chg h1 (by simp)))
  have HST := Lib.hid (fun (w1 : World) (h1 : Chg [] w w1) => steps_any g o w1 (ho.chg h1 (by simp)))
  rw [hd] at HDN
  obtain ⟨cap, L0, cl, on⟩ := s
  simp only at hL hn
  subst hL
  obtain ⟨on', hon'⟩ : ∃ on', on' = (if L.length = 0 then false else on) := ⟨_, rfl⟩
  rw [← hon']
  have HS := Lib.hid (fun (w1 : World) (h1 : Chg [] w w1) => shtake_direct sb lim cap cl on (y :: L) w1 (h.keep h1) hn _ _ (fun w2 => IsSh w2 sb lim ⟨cap, L, cl, on'⟩ ∧ Chg [sb] w1 w2) (by rw [hon']; exact shsnatch_some sb lim cap cl on y L w1 (h.keep h1) hl))
  have dk : ((k : Int) == 0) = false := by simp only [beq_eq_false_iff_ne, ne_eq]; omega
  clear h ho hd he hl hx hn hk hon'
  go_enter Try.func17, Try.ntmps17
  go_wp2_with fail
  refine HR.out.mono ?_
  rintro e w1 ⟨rfl, C1⟩
  have HC1 := Lib.hid C1
  clear C1
  go_wp2_with (first
    | (go_at_call 15; refine (HST.out _ HC1.out).mono ?_; rintro e y ⟨rfl, rfl⟩)
    | (go_at_call 13; refine (HDN.out _ HC1.out).mono ?_; rintro e y ⟨rfl, rfl⟩)
    | (go_at_call 48; refine (HS.out _ HC1.out).mono ?_; rintro e w2 ⟨rfl, H2, C2⟩))
  go_ret
  exact ⟨rfl, H2, HC1.out.weak.then C2 (fun g hg => .inl hg)⟩
set_option maxHeartbeats 2000000 in
theorem sv_steal_snatch (sb lim g : Nat) (s : Shf) (o : DOp) (x k : Nat) (push : Bool) (y : Nat) (w : World) (h : IsSh w sb lim s) (ho : IsOp w g o) (hk : 0 < k) (hd : o.done = true) (he : o.err = 0) (hx : o.x = y) (hL : s.L = [y]) (hon : s.on = true) :
    Calls Try.prog 17 #[.pointer (some ⟨sb, 0, none⟩), .pointer (some ⟨g, 0, none⟩), .int .i64 (k : Nat), .bool push, .int .u64 (x : Nat)] w fun e w' => e = .returned (.bool true) ∧ IsSh w' sb lim ⟨s.cap, [], s.claim, false⟩ ∧ Chg [sb] w w' := by
  have HR := Lib.hid (result_any g o w ho)
  rw [show resD o = (y, 0) from by unfold resD; rw [hd, he, hx]; rfl] at HR
  have HDN := Lib.hid (fun (w1 : World) (h1 : Chg [] w w1) => done_any g o w1 (ho.chg h1 (by simp)))
  have HST := Lib.hid (fun (w1 : World) (h1 : Chg [] w w1) => steps_any g o w1 (ho.chg h1 (by simp)))
  rw [hd] at HDN
  obtain ⟨cap, L0, cl, on⟩ := s
  simp only at hL hon
  subst hL hon
  have HS := Lib.hid (fun (w1 : World) (h1 : Chg [] w w1) => shtake_one sb lim cap cl [y] w1 (h.keep h1) rfl)
  have HS2 := Lib.hid (fun (w1 : World) (h1 : Chg [] w w1) => shsnatch_some sb lim cap cl true y [] w1 (h.keep h1) (by decide))
  have dk : ((k : Int) == 0) = false := by simp only [beq_eq_false_iff_ne, ne_eq]; omega
  clear h ho hd he hx hk
  go_enter Try.func17, Try.ntmps17
  go_wp2_with fail
  refine HR.out.mono ?_
  rintro e w1 ⟨rfl, C1⟩
  have HC1 := Lib.hid C1
  clear C1
  go_wp2_with (first
    | (go_at_call 15; refine (HST.out _ HC1.out).mono ?_; rintro e y ⟨rfl, rfl⟩)
    | (go_at_call 13; refine (HDN.out _ HC1.out).mono ?_; rintro e y ⟨rfl, rfl⟩)
    | (go_at_call 48; refine (HS.out _ HC1.out).mono ?_; rintro e w2 ⟨rfl, rfl⟩)
    | (go_at_call 49; refine (HS2.out _ HC1.out).mono ?_; rintro e w2 ⟨rfl, H2, C2⟩))
  go_ret
  exact ⟨rfl, H2, HC1.out.weak.then C2 (fun g hg => .inl hg)⟩
set_option maxHeartbeats 2000000 in
theorem sv_none_one (sb lim g : Nat) (s : Shf) (o : DOp) (x k : Nat) (push : Bool) (w : World) (h : IsSh w sb lim s) (ho : IsOp w g o) (hk : 0 < k) (hd : o.done = true) (he : o.err = 7) (hL : s.L.length = 1) (hon : s.on = true) :
    Calls Try.prog 17 #[.pointer (some ⟨sb, 0, none⟩), .pointer (some ⟨g, 0, none⟩), .int .i64 (k : Nat), .bool push, .int .u64 (x : Nat)] w fun e w' => e = .returned (.bool true) ∧ Chg [] w w' := by
  have HR := Lib.hid (result_any g o w ho)
  rw [show resD o = (0, 7) from by unfold resD; rw [hd, he]; rfl] at HR
  have HDN := Lib.hid (fun (w1 : World) (h1 : Chg [] w w1) => done_any g o w1 (ho.chg h1 (by simp)))
  have HST := Lib.hid (fun (w1 : World) (h1 : Chg [] w w1) => steps_any g o w1 (ho.chg h1 (by simp)))
  rw [hd] at HDN
  obtain ⟨cap, L0, cl, on⟩ := s
  simp only at hL hon
  subst hon
  have HS := Lib.hid (fun (w1 : World) (h1 : Chg [] w w1) => shtake_one sb lim cap cl L0 w1 (h.keep h1) hL)
  have dk : ((k : Int) == 0) = false := by simp only [beq_eq_false_iff_ne, ne_eq]; omega
  clear h ho hd he hk hL
  go_enter Try.func17, Try.ntmps17
  go_wp2_with fail
  refine HR.out.mono ?_
  rintro e w1 ⟨rfl, C1⟩
  have HC1 := Lib.hid C1
  clear C1
  go_wp2_with (first
    | (go_at_call 15; refine (HST.out _ HC1.out).mono ?_; rintro e y ⟨rfl, rfl⟩)
    | (go_at_call 13; refine (HDN.out _ HC1.out).mono ?_; rintro e y ⟨rfl, rfl⟩)
    | (go_at_call 48; refine (HS.out _ HC1.out).mono ?_; rintro e w2 ⟨rfl, rfl⟩))
  go_ret
  exact ⟨rfl, HC1.out⟩
set_option maxHeartbeats 2000000 in
theorem sv_none_nil (sb lim g : Nat) (s : Shf) (o : DOp) (x k : Nat) (push : Bool) (w : World) (h : IsSh w sb lim s) (ho : IsOp w g o) (hk : 0 < k) (hd : o.done = true) (he : o.err = 7) (hL : s.L = []) :
    Calls Try.prog 17 #[.pointer (some ⟨sb, 0, none⟩), .pointer (some ⟨g, 0, none⟩), .int .i64 (k : Nat), .bool push, .int .u64 (x : Nat)] w fun e w' => e = .returned (.bool true) ∧ Chg [] w w' := by
  have HR := Lib.hid (result_any g o w ho)
  rw [show resD o = (0, 7) from by unfold resD; rw [hd, he]; rfl] at HR
  have HDN := Lib.hid (fun (w1 : World) (h1 : Chg [] w w1) => done_any g o w1 (ho.chg h1 (by simp)))
  have HST := Lib.hid (fun (w1 : World) (h1 : Chg [] w w1) => steps_any g o w1 (ho.chg h1 (by simp)))
  rw [hd] at HDN
  obtain ⟨cap, L0, cl, on⟩ := s
  simp only at hL
  subst hL
  have HS := Lib.hid (fun (w1 : World) (h1 : Chg [] w w1) => shtake_direct sb lim cap cl on [] w1 (h.keep h1) (by simp) _ _ (fun w2 => w1 = w2) (shsnatch_none sb lim cap cl on w1 (h.keep h1)))
  have dk : ((k : Int) == 0) = false := by simp only [beq_eq_false_iff_ne, ne_eq]; omega
  clear h ho hd he hk
  go_enter Try.func17, Try.ntmps17
  go_wp2_with fail
  refine HR.out.mono ?_
  rintro e w1 ⟨rfl, C1⟩
  have HC1 := Lib.hid C1
  clear C1
  go_wp2_with (first
    | (go_at_call 15; refine (HST.out _ HC1.out).mono ?_; rintro e y ⟨rfl, rfl⟩)
    | (go_at_call 13; refine (HDN.out _ HC1.out).mono ?_; rintro e y ⟨rfl, rfl⟩)
    | (go_at_call 48; refine (HS.out _ HC1.out).mono ?_; rintro e w2 ⟨rfl, rfl⟩))
  go_ret
  exact ⟨rfl, HC1.out⟩
end Go.Proofs.Ytidooepalfegdaa
