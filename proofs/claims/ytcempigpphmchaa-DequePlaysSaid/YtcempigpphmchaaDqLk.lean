/- deque: like: a work tells what the document's tells. -/
import Derived.Test.YtcempigpphmchaaDqU
namespace Go.Proofs.Ytcempigpphmchaa
open Go.RowKit Bosun
set_option maxHeartbeats 4000000 in
theorem like_any (g r : Nat) (o : DOp) (w : World) (h : IsOp w g o) (hr : IsROp w r o) (ok : OkOp o) (bm bw rm rw : Nat) (W : List Nat) (u : Nat) (hm : IsMem w bm bw W u) (hn : IsRef w rm rw W u) :
    Calls Try.prog 13 #[.pointer (some ⟨g, 0, none⟩), .pointer (some ⟨r, 0, none⟩), .pointer (some ⟨bm, 0, none⟩), .pointer (some ⟨rm, 0, none⟩)] w fun e w' => e = .returned (.bool true) ∧ Chg [] w w' := by
  have A1 := Lib.hid (dclaimed_any g o w h ok.kind ok.s ok.b0 ok.b1 ok.cap ok.b bm bw W u hm)
  have A2 := Lib.hid (fun w' (C : Chg [] w w') => rclaimed_any r o w' (hr.chg C (by simp)) ok.kind ok.s ok.b0 ok.b1 ok.cap ok.b rm rw W u (hn.keep C))
  have B1 := Lib.hid (fun w' (C : Chg [] w w') => result_any g o w' (h.chg C (by simp)))
  have B2 := Lib.hid (fun w' (C : Chg [] w w') => rresult_any r o w' (hr.chg C (by simp)))
  have D1 := Lib.hid (fun w' (C : Chg [] w w') => dseen_any g o w' (h.chg C (by simp)) ok.kind)
  have D2 := Lib.hid (fun w' (C : Chg [] w w') => rseen_any r o w' (hr.chg C (by simp)) ok.kind)
  have E1 := Lib.hid (fun w' (C : Chg [] w w') => dtop_any g o w' (h.chg C (by simp)) ok.kind)
  have E2 := Lib.hid (fun w' (C : Chg [] w w') => rtop_any r o w' (hr.chg C (by simp)) ok.kind)
  have F1 := Lib.hid (fun w' (C : Chg [] w w') => dbottom_any g o w' (h.chg C (by simp)) ok.kind)
  have F2 := Lib.hid (fun w' (C : Chg [] w w') => rbottom_any r o w' (hr.chg C (by simp)) ok.kind)
  have G1 := Lib.hid (fun w' (C : Chg [] w w') => done_any g o w' (h.chg C (by simp)))
  have G2 := Lib.hid (fun w' (C : Chg [] w w') => steps_any g o w' (h.chg C (by simp)))
  have HR := Lib.hid hr
  obtain ⟨⟨a1, a2⟩, ha⟩ : ∃ a : Nat × Bool, a = clmD o W := ⟨_, rfl⟩
  rw [← ha] at A1 A2
  obtain ⟨⟨b1, b2⟩, hb⟩ : ∃ a : Nat × Int, a = resD o := ⟨_, rfl⟩
  rw [← hb] at B1 B2
  obtain ⟨⟨d1, d2⟩, hd⟩ : ∃ a : Nat × Bool, a = telD 2 3 (·.x) o := ⟨_, rfl⟩
  rw [← hd] at D1 D2
  obtain ⟨⟨e1, e2⟩, he⟩ : ∃ a : Nat × Bool, a = telD 2 1 (·.t) o := ⟨_, rfl⟩
  rw [← he] at E1 E2
  obtain ⟨⟨f1, f2⟩, hf⟩ : ∃ a : Nat × Bool, a = telD 0 1 (·.b) o := ⟨_, rfl⟩
  rw [← hf] at F1 F2
  obtain ⟨dn, hdn⟩ : ∃ dn, dn = o.done := ⟨_, rfl⟩
  obtain ⟨st, hst⟩ : ∃ st, st = o.steps := ⟨_, rfl⟩
  rw [← hdn] at G1
  rw [← hst] at G2
  dsimp only at A1 A2 B1 B2 D1 D2 E1 E2 F1 F2
  have HC8 := Lib.hid (fun w' (C : Chg [] w w') => show w'.cell? ⟨r, 8, none⟩ = some (.bool dn) by rw [hdn]; exact (HR.out.chg C (by simp)).c8)
  have HC3 := Lib.hid (fun w' (C : Chg [] w w') => show w'.cell? ⟨r, 3, none⟩ = some (.int .i64 (st : Nat)) by rw [hst]; exact (HR.out.chg C (by simp)).c3)
  clear ha hb hd he hf hdn hst h hr ok hm hn HR
  go_enter Try.func13, Try.ntmps13
  go_wp2_with (first
    | (go_at_call 32; refine A1.out.mono ?_; rintro e w1 ⟨rfl, C1⟩; have H2 := Lib.hid (A2.out w1 C1))
    | (go_at_call 33; refine H2.out.mono ?_; rintro e w2 ⟨rfl, C2⟩; have K2 := C1.trans C2; have H3 := Lib.hid (B1.out w2 K2))
    | (go_at_call 34; refine H3.out.mono ?_; rintro e w3 ⟨rfl, C3⟩; have K3 := K2.trans C3; have H4 := Lib.hid (B2.out w3 K3))
    | (go_at_call 35; refine H4.out.mono ?_; rintro e w4 ⟨rfl, C4⟩; have K4 := K3.trans C4; have H5 := Lib.hid (D1.out w4 K4); have H6 := Lib.hid (D2.out w4 K4); have H7 := Lib.hid (E1.out w4 K4); have H8 := Lib.hid (E2.out w4 K4); have H9 := Lib.hid (F1.out w4 K4); have H10 := Lib.hid (F2.out w4 K4); have c8 := HC8.out w4 K4; have c3 := HC3.out w4 K4)
    | (go_at_call 36; refine H5.out.mono ?_; rintro e y ⟨rfl, rfl⟩)
    | (go_at_call 37; refine H6.out.mono ?_; rintro e y ⟨rfl, rfl⟩)
    | (go_at_call 38; refine H7.out.mono ?_; rintro e y ⟨rfl, rfl⟩)
    | (go_at_call 39; refine H8.out.mono ?_; rintro e y ⟨rfl, rfl⟩)
    | (go_at_call 40; refine H9.out.mono ?_; rintro e y ⟨rfl, rfl⟩)
    | (go_at_call 41; refine H10.out.mono ?_; rintro e y ⟨rfl, rfl⟩))
  go_region_held3 (fun w' => w'.cell? ⟨r, 8, none⟩ = some (.bool dn) ∧ w'.cell? ⟨r, 3, none⟩ = some (.int .i64 (st : Nat))) (first | assumption | exact ⟨c8, c3⟩)
    (first
      | (go_at_call 42; refine (G1.out _ K4.drew).mono ?_; rintro e y ⟨rfl, rfl⟩)
      | (go_at_call 43; refine (G2.out _ K4.drew).mono ?_; rintro e y ⟨rfl, rfl⟩))
  go_wp2_with fail
  go_ret
  exact ⟨ret_bool (by simp), K4.drew⟩
end Go.Proofs.Ytcempigpphmchaa
