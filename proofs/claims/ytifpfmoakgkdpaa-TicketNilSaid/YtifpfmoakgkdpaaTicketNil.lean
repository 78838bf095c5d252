/- For every x the law TicketNil returns true: a hand that is nil never holds. No conditions. -/
import Derived.Test.YtifpfmoakgkdpaaRows
import Derived.Test.YtifpfmoakgkdpaaTick2
import Derived.Test.YtifpfmoakgkdpaaLaw
namespace Go.Proofs.Ytifpfmoakgkdpaa
open Go.RowKit Bosun
set_option maxHeartbeats 4000000 in
theorem ticketNil_walk (w : World) (x : Nat) (hx : x < 18446744073709551616) :
    Calls Try.prog 4 #[.int .u64 (x : Nat)] w fun e w' => e = .returned (.bool true) ∧ Chg [] w w' := by
  have HX := Lib.hid hx
  clear hx
  go_enter Try.func4, Try.ntmps4
  go_wp2_with fail
  refine (new_any 2 2 (by decide) _).mono ?_
  rintro e w1 ⟨bm, bw, rfl, M1, C1, g1, g2⟩
  replace M1 : IsMem w1 bm bw [0, 0] 0 := M1
  go_wp2_with fail
  refine (store_any bm bw _ _ _ M1 1 x HX.out).mono ?_
  rw [show setA [0, 0] 1 x = [0, x] from rfl, show tick [0, 0] 1 0 = 1 from rfl]
  rintro e w2 ⟨rfl, M2, C2⟩
  have D2 : Chg [] w w2 := C1.then C2 (fun g hg => .inr (by simp at hg; omega))
  have hin : ∀ g, g ∈ [bm] → w.heap.size ≤ g := fun g hg => by simp at hg; omega
  have HIN := Lib.hid hin
  have ha : aheadN [0, x] 0 x = 0 := by
    unfold aheadN
    rw [if_pos (by rfl), show getA [0, x] (0 + 1) = x from rfl]
    have := HX.out
    omega
  have HA := Lib.hid ha
  clear hin ha M1 C1 C2 g1 g2
  go_wp2_with (first
    | (go_at_call 12; refine (step_nil _ _).mono ?_; rintro e w3 ⟨rfl, rfl⟩)
    | (go_at_call 11; refine (free_nil _ _).mono ?_; rintro e w3 ⟨rfl, rfl⟩)
    | (go_at_call 10; refine (holds_nil _).mono ?_; rintro e w3 ⟨rfl, rfl⟩)
    | (go_at_call 9; refine (waits_nil _).mono ?_; rintro e w3 ⟨rfl, rfl⟩)
    | (go_at_call 14; refine (mine_nil _).mono ?_; rintro e w3 ⟨rfl, rfl⟩)
    | (go_at_call 15; (with_reducible refine (load_any bm bw [0, x] 1 _ M2 0).mono ?_); rw [show getA [0, x] 0 = 0 from rfl, show tick [0, x] 0 1 = 2 from rfl]; rintro e w4 ⟨rfl, M4, C4⟩)
    | (go_at_call 15; (with_reducible refine (load_any bm bw [0, x] 2 _ M4 1).mono ?_); rw [show getA [0, x] 1 = x from rfl, show tick [0, x] 1 2 = 3 from rfl]; rintro e w5 ⟨rfl, M5, C5⟩)
    | (go_at_call 16; refine (ahead_any bm bw [0, x] 3 _ M5 0 (by omega) (by omega) x HX.out).mono ?_; rw [HA.out]; rintro e w6 ⟨rfl, C6⟩)
    | (go_at_call 13; refine (awake_any _).mono ?_; rintro e w7 ⟨rfl, C7⟩))
  go_ret
  exact ⟨rfl, (((D2.then C4 (fun g hg => .inr (HIN.out g hg))).then C5 (fun g hg => .inr (HIN.out g hg))).then C6 (by simp)).then C7 (by simp)⟩
namespace ticketNil
open Go.ChangeShapes Go.WideShapes Go.ChangeAt
theorem own : ownKnob Try.prog.godebug = none := by kernel_rfl

set_option maxRecDepth 100000 in
theorem lifted (os : Os) (started : os.Started) (H : Type) (enc : TypeId × Value → H) :
    ReturnsInHanded {} Try.checked os 4 .any (Rows.ticketNilSpec.pre6 enc Try.prog Try.f4 Rows.ticketNilRow.domain false) (Rows.ticketNilSpec.post enc Try.prog Try.f4 false true false false) := by
  refine returnsInHanded_of_change (C := Try.checked) own started (by kernel_rfl) Try.func4
    (ChangeSpec.witness6 (enc := enc) (C := Try.checked) false ⟨#[], #[.int .u64 0], []⟩ 8 (by kernel_rfl) (by kernel_rfl) (by kernel_rfl) (by kernel_rfl)) ?_
  intro W base args ds gs before hval0 hW hcnd _
  have hval : ∀ (j : Nat) t v, Try.f4.params[j]? = some t → args[j]? = some v → Value.okWide Try.prog W .any base t v := hval0
  have hW' := hW
  obtain ⟨p, q, hA0, hV, rfl, hfz, hnd⟩ := hW
  have hA : DataW.TrodAll enc Try.prog W 0 (fun _ => true) true Try.f4.params.toList args.toList ds p := hA0
  rw [Try.params4] at hA hval
  obtain ⟨v0, vs0, d0, ds0, p0, q0, hargs, rfl, rfl, h0, r0⟩ := trodAll_cons hA
  obtain ⟨rfl, rfl, rfl⟩ := trodAll_nil r0
  obtain rfl : args = #[v0] := by cases args; simp_all
  obtain ⟨rfl, rfl⟩ := trodVars_none hV
  obtain ⟨a0, rfl, rfl, rfl, w0⟩ := open_int Try.underlying22 (hval 0 22 v0 rfl rfl) h0
  obtain ⟨n0, rfl, hn0⟩ := nat_u64 w0
  clear hA0 hval0
  simp only [List.append_nil] at hW'
  refine (ticketNil_walk W n0 hn0).mono fun e W' ⟨he, hg⟩ => ?_
  subst he
  exact ⟨_, rfl, _, _, _, [], _, [], hW', trodAll_mk1 (shut_bool Try.underlying4 _), (trodAll_cons_mk (shut_int Try.underlying22 w0) trodAll_mk0), rfl, hg.below.frame _, fun h => by cases h⟩

theorem over : Rows.ticketNilRow.holds Try.pinned (OpenSpec.ofChange Rows.ticketNilSpec) :=
  OpenClaim.holds_of_wide 4 Try.f4 rfl rfl rfl rfl rfl rfl rfl ⟨rfl, rfl, rfl, rfl, rfl⟩ rfl rfl rfl rfl rfl (by kernel_rfl) Try.func4 (by kernel_rfl)
    (of_decide_eq_true (by kernel_rfl)) (by unfold Func.isWrapper; first | (rw [if_pos (by decide +kernel)]; kernel_rfl) | (rw [if_neg (by decide +kernel)]; exact ⟨rfl, rfl⟩))
    (fun os started H enc _ => lifted os started H enc)
end ticketNil

theorem ticketNil_holds : Rows.TicketNilSaid := ticketNil.over
#print axioms ticketNil_holds
end Go.Proofs.Ytifpfmoakgkdpaa
