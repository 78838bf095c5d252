/- life: rules, Next, and the page's Next. -/
import Derived.Test.YtcoljjbbfjhhpaaProg
import Derived.Test.YtcoljjbbfjhhpaaLifeP
import Derived.KernelRfl
namespace Go.Proofs.Ytcoljjbbfjhhpaa
open Go.RowKit Bosun

def rulesA : Array Value := #[.int .i64 0, .int .i64 0, .int .i64 0, .int .i64 1, .string ⟨#[98, 111, 114, 110]⟩, .int .i64 1, .int .i64 1, .int .i64 1, .int .i64 2, .string ⟨#[100, 105, 115, 112, 97, 116, 99, 104]⟩, .int .i64 2, .int .i64 2, .int .i64 2, .int .i64 1, .string ⟨#[112, 114, 101, 101, 109, 112, 116]⟩, .int .i64 2, .int .i64 2, .int .i64 2, .int .i64 3, .string ⟨#[115, 108, 101, 101, 112]⟩, .int .i64 2, .int .i64 2, .int .i64 2, .int .i64 4, .string ⟨#[98, 108, 111, 99, 107]⟩, .int .i64 2, .int .i64 2, .int .i64 2, .int .i64 5, .string ⟨#[119, 97, 105, 116]⟩, .int .i64 3, .int .i64 4, .int .i64 5, .int .i64 1, .string ⟨#[119, 97, 107, 101]⟩, .int .i64 2, .int .i64 2, .int .i64 2, .int .i64 6, .string ⟨#[100, 105, 101]⟩, .int .i64 6, .int .i64 6, .int .i64 6, .int .i64 0, .string ⟨#[114, 101, 97, 112]⟩, .int .i64 2, .int .i64 2, .int .i64 2, .int .i64 0, .string ⟨#[118, 97, 110, 105, 115, 104]⟩]
def rules0 : Array Value := #[.int .i64 0, .int .i64 0, .int .i64 0, .int .i64 0, .string ⟨#[]⟩, .int .i64 0, .int .i64 0, .int .i64 0, .int .i64 0, .string ⟨#[]⟩, .int .i64 0, .int .i64 0, .int .i64 0, .int .i64 0, .string ⟨#[]⟩, .int .i64 0, .int .i64 0, .int .i64 0, .int .i64 0, .string ⟨#[]⟩, .int .i64 0, .int .i64 0, .int .i64 0, .int .i64 0, .string ⟨#[]⟩, .int .i64 0, .int .i64 0, .int .i64 0, .int .i64 0, .string ⟨#[]⟩, .int .i64 0, .int .i64 0, .int .i64 0, .int .i64 0, .string ⟨#[]⟩, .int .i64 0, .int .i64 0, .int .i64 0, .int .i64 0, .string ⟨#[]⟩, .int .i64 0, .int .i64 0, .int .i64 0, .int .i64 0, .string ⟨#[]⟩, .int .i64 0, .int .i64 0, .int .i64 0, .int .i64 0, .string ⟨#[]⟩]
theorem tup2 {a a' : Int} {b b' : Bool} (h : a = a') (k : b = b') : Ending.returned (.tuple #[.int .i64 a, .bool b]) = .returned (.tuple #[.int .i64 a', .bool b']) := by rw [h, k]

set_option maxHeartbeats 1000000 in
theorem rules_any (w : World) :
    Calls Try.prog 21 #[] w fun e w' => e = .returned (.agg rulesA) ∧ Chg [] w w' := by
  go_enter Try.func21, Try.ntmps21
  go_wp2_with (first
    | (refine wpList_new_row rfl 39 rfl rules0 (by kernel_rfl) ?_; intro w1 B1 C1 s1)
    | (refine wpList_new_row rfl 36 rfl #[.int .i64 0, .int .i64 0, .int .i64 0] (by kernel_rfl) ?_; intro w2 B2 C2 s2; rw [s1] at B2 ⊢)
    | (refine wpList_put_row rfl 36 (.tmp 1) (.tmp 2) rfl (w.heap.size + 1) #[.int .i64 2, .int .i64 2, .int .i64 2] rfl rfl 36 _ B2 (by kernel_rfl) rfl (by kernel_rfl) ?_; intro w3 B3 C3)
    | (refine wpList_get_row rfl 36 (.tmp 1) rfl (w.heap.size + 1) rfl 36 _ _ B3 Try.underlying36 rfl (by kernel_rfl) ?_)
    | (refine wpList_put_row rfl 39 (.tmp 0) (.tmp 23) rfl w.heap.size rulesA rfl rfl 39 _ ((B1.chg C2 (by simp)).chg C3 (by simp)) (by kernel_rfl) rfl (by kernel_rfl) ?_; intro w4 B4 C4))
  refine bodyPost_ret (results_row rfl _ _ w.heap.size 39 _ _ rfl B4 Try.underlying39 rfl (by kernel_rfl)) rfl ⟨rfl, ?_⟩
  exact ((C1.then C2 (by simp)).then C3 (fun g hg => .inr (by simp at hg; omega))).then C4 (fun g hg => .inr (by simp at hg; omega))

theorem rnext_any (s m : Int) (w : World) :
    Calls Try.prog 9 #[.int .i64 s, .int .i64 m] w fun e w' => (∃ t, e = .returned (.tuple #[.int .i64 t, .bool (goes s m).isSome]) ∧ ∀ x, goes s m = some x → t = x) ∧ w' = w := by
  rcases (show m = 0 ∨ m = 1 ∨ m = 2 ∨ m = 3 ∨ m = 4 ∨ m = 5 ∨ m = 6 ∨ m = 7 ∨ m = 8 ∨ m = 9 ∨ ((m == 0) = false ∧ (m == 1) = false ∧ (m == 2) = false ∧ (m == 3) = false ∧ (m == 4) = false ∧ (m == 5) = false ∧ (m == 6) = false ∧ (m == 7) = false ∧ (m == 8) = false ∧ (m == 9) = false) by simp; omega)
    with h | h | h | h | h | h | h | h | h | h | ⟨h0, h1, h2, h3, h4, h5, h6, h7, h8, h9⟩
  case inr.inr.inr.inr.inr.inr.inr.inr.inr.inr =>
    have hn : goes s m = none := by
      simp at h0 h1 h2 h3 h4 h5 h6 h7 h8 h9
      simp [goes, h0, h1, h2, h3, h4, h5, h6, h7, h8, h9]
    go_enter Try.func9, Try.ntmps9
    rw [hn]
    go_wp2_with fail
    go_ret2
    exact ⟨⟨_, rfl, fun x hx => by cases hx⟩, rfl⟩
  all_goals
    subst h
    go_enter Try.func9, Try.ntmps9
    go_wp2_with fail
    all_goals
      refine bodyPost_ret (results_tmp2 rfl _ _ _) rfl ?_
      exact ⟨⟨_, tup2 rfl (by simp [goes] <;> (try split) <;> (try simp_all) <;> (try omega)), fun x hx => by (unfold goes at hx; simp at hx; omega)⟩, rfl⟩
end Go.Proofs.Ytcoljjbbfjhhpaa
