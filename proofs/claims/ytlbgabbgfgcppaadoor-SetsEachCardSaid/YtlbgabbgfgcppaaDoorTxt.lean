/- sets: Text, plainly and walked. -/
import Derived.Test.YtlbgabbgfgcppaaDoorBld
import Derived.Test.YtlbgabbgfgcppaaDoorEach2
import Derived.RegionIn
namespace Bosun
open Go
/-- A number below 100, in decimal, as the reference spells it. -/
def digB (i : Nat) : List UInt8 := if i < 10 then [UInt8.ofNat (48 + i)] else [UInt8.ofNat (48 + i / 10), UInt8.ofNat (48 + i % 10)]
theorem dec_dig {i : Nat} (h : i < 100) : Lib.decDigits i = digB i := by
  unfold Lib.decDigits digB
  by_cases h1 : i < 10
  · rw [dif_pos h1, if_pos h1]
  · rw [dif_neg h1, if_neg h1]
    unfold Lib.decDigits
    rw [dif_pos (by omega)]; rfl
theorem digB_len (i : Nat) : 1 ≤ (digB i).length ∧ (digB i).length ≤ 2 := by unfold digB; split <;> simp
/-- A set's text, of its members. -/
def txt (l : List Nat) : List UInt8 := l.foldl (fun t i => (if t.length = 0 then t else t ++ [44]) ++ digB i) []
theorem txt_nil : txt [] = [] := rfl
theorem txt_snoc (l : List Nat) (i : Nat) : txt (l ++ [i]) = (if (txt l).length = 0 then txt l else txt l ++ [44]) ++ digB i := by simp [txt]
theorem txt_len_go : ∀ (l : List Nat) (t : List UInt8) (n : Nat), (t.length ≤ 3 * n ∧ (t.length = 0 ↔ n = 0)) →
    (l.foldl (fun t i => (if t.length = 0 then t else t ++ [44]) ++ digB i) t).length ≤ 3 * (n + l.length) ∧ ((l.foldl (fun t i => (if t.length = 0 then t else t ++ [44]) ++ digB i) t).length = 0 ↔ n + l.length = 0)
  | [], t, n, h => by simpa using h
  | i :: l, t, n, h => by
    have hd := digB_len i
    have := txt_len_go l ((if t.length = 0 then t else t ++ [44]) ++ digB i) (n + 1) (by
      have e : ((if t.length = 0 then t else t ++ [44]) ++ digB i).length = (if t.length = 0 then 0 else t.length + 1) + (digB i).length := by
        rw [List.length_append]; split
        · rename_i h; rw [h]
        · simp
      rw [e]
      constructor
      · split <;> omega
      · split <;> omega)
    rw [List.foldl_cons, List.length_cons]
    rw [show n + (l.length + 1) = n + 1 + l.length by omega]
    exact this
theorem txt_len (l : List Nat) : (txt l).length ≤ 3 * l.length ∧ ((txt l).length = 0 ↔ l.length = 0) := by
  have := txt_len_go l [] 0 (by simp)
  simpa [txt] using this
theorem str_eq (l : List UInt8) : Lib.strCells ⟨l.toArray⟩ = Lib.byteCells l := rfl
theorem bld_own (T e : TypeId) (B b n : Nat) (f : List Nat → List Value) : OwnFrom n (fun pre W => Lib.IsBuilderF T e B b (f pre) W) := by
  have one : ∀ (s : List Nat) (p : Value) (W W' : World) (row : Option Nat), Lib.BuilderAtF T e B b p (f s) W → W.grownBy W' row → (∀ r, row = some r → n ≤ r ∧ ∃ o : Obj, W.heap[r]? = some o ∧ o.isCells = false) → Lib.BuilderAtF T e B b p (f s) W' := by
    rintro s p W W' row ⟨hB, v, hb, hown, hne⟩ hg hr
    refine ⟨hB, v, (hg.block b (Array.getElem?_eq_some_iff.1 hb).1 (fun h => ?_)).trans hb, hown.kept hg ?_, hne⟩
    · obtain ⟨_, o, ho, hc⟩ := hr b h.symm
      rw [hb] at ho; cases ho; cases hc
    · cases hv : v.ownBlock with
      | none => exact .inl rfl
      | some g =>
        right; intro h
        obtain ⟨c, fz, hg'⟩ := Lib.ownsRowF_kind hown g hv
        obtain ⟨_, o, ho, hc⟩ := hr g h.symm
        rw [hg'] at ho; cases ho; cases hc
  rintro s W W' row (h | h) hg hr
  · exact .inl (one s _ W W' row h hg hr)
  · exact .inr (one s _ W W' row h hg hr)
theorem keeps_others {e : TypeId} {b : Nat} {W W' : World} (h : Lib.OthersKept e (some b) W W') (hs : W.heap.size ≤ W'.heap.size) (hb : ∀ o, W.heap[b]? = some o → o.isCells = true) : KeepsOthers W W' :=
  ⟨hs, fun k o hk ho => h k o hk (fun e => by cases e; rw [hb o hk] at ho; cases ho) (fun c fz e => by subst e; cases ho)⟩
theorem bld_cells {T e : TypeId} {B b : Nat} {bs : List Value} {W : World} (h : Lib.IsBuilderF T e B b bs W) : ∀ o, W.heap[b]? = some o → o.isCells = true := by
  rintro o ho
  rcases h with ⟨_, v, hb, _⟩ | ⟨_, v, hb, _⟩ <;> (rw [hb] at ho; cases ho; rfl)
theorem bld_new (w : World) (T e : TypeId) : Lib.IsBuilderF T e w.heap.size w.heap.size [] (w.alloc (.cells #[.pointer none, .slice none 0 0] T)) :=
  .inl ⟨Nat.le_refl _, _, World.alloc_heap_new w _, by simpa using World.ownsRowF_of (World.ownsRow_nil _ _ _ _), by simp [Value.ownBlock]⟩
end Bosun
namespace Go.Proofs.YtlbgabbgfgcppaaDoor
open Go.RowKit Go.Shelf Bosun
attribute [local go_sem] Oper.semAt_some
theorem text_none (w : World) : Calls Tryd.prog 26 #[.int .u64 0] w fun e w' => e = .returned (.string ⟨#[45]⟩) ∧ w = w' := by
  go_enter Tryd.func26, Tryd.ntmps26
  go_wp2_with fail
  go_ret
  exact ⟨rfl, rfl⟩
/-- The text of those that came. -/
def txtF (l : List (Fin 64)) : List UInt8 := txt (l.map Fin.val)
theorem txtF_snoc (l : List (Fin 64)) (i : Fin 64) : txtF (l ++ [i]) = (if (txtF l).length = 0 then txtF l else txtF l ++ [44]) ++ digB i.val := by
  unfold txtF; rw [List.map_append, List.map_cons, List.map_nil, txt_snoc]
theorem txtF_len (l : List (Fin 64)) : (txtF l).length ≤ 3 * l.length := by
  have := (txt_len (l.map Fin.val)).1
  simpa [txtF] using this
theorem itoa_any (i : Fin 64) (w : World) : Calls Tryd.prog 37 #[.int .i64 ((i.val : Nat) : Int)] w fun e w' => e = .returned (.string ⟨(digB i.val).toArray⟩) ∧ w' = w := by
  have h := Tryd.strconv_Itoa_small i.val (by omega) w
  rw [dec_dig (by omega)] at h
  exact h
set_option maxRecDepth 100000 in
set_option maxHeartbeats 4000000 in
theorem text_some (s : Nat) (hs : s < 18446744073709551616) (h0 : s ≠ 0) (w : World) (hT : TabW w) :
    Calls Tryd.prog 26 #[.int .u64 (s : Nat)] w fun e w' => e = .returned (.string ⟨(txt (members s)).toArray⟩) ∧ Chg [] w w' := by
  have HE := Lib.hid (fun w => callsIn_wide (n := 5) |>.2 (each_any s w))
  have s0 : ((s : Int) == 0) = false := beq_eq_false_iff_ne.2 (by omega)
  have hbp : 0 < w.heap.size := World.block_lt_of_cell? w _ (hT 0 (by decide))
  have hml := members_le s
  refine (callsIn_wide (n := 6)).1 ?_
  refine callsIn_of_wp_marks Tryd.func26 rfl trivial ?_ rfl
  simp only [Tryd.ntmps26, List.size_toArray, List.length_cons, List.length_nil, Nat.reduceAdd, Nat.reduceSub, Array.replicate_succ, Array.replicate_zero, List.push_toArray, List.append_toArray, List.nil_append, List.cons_append]
  gi_wp2_with (refine ⟨trivial, ?_⟩; gi_at_call 28; refine (HE.out _).mono ?_; rintro e w2 ⟨rfl, rfl⟩)
  obtain ⟨b, hbe⟩ : ∃ b, b = w.heap.size := ⟨_, rfl⟩
  generalize hW0 : ((w.alloc (.cells #[.pointer none, .slice none 0 0] 50)).alloc (.cells #[.int .u64 (s : Nat)] 22)) = W0
  have z0 : W0.heap.size = b + 2 := by rw [← hW0, hbe]; simp
  have B0 : Below b w W0 := by
    rw [← hW0, hbe]
    exact ((Below.refl _ w).alloc (Nat.le_refl _) _).alloc (by simp) _
  have I0 : Lib.IsBuilderF 50 5 b b (Lib.byteCells (txtF [])) W0 := by
    rw [← hW0, hbe]
    exact Lib.IsBuilderF.alloc (bld_new w _ _) _
  have k1 : W0.cell? ⟨b + 1, 0, none⟩ = some (.int .u64 (s : Nat)) := by
    have q := Blk.new (w.alloc (.cells #[.pointer none, .slice none 0 0] 50)) #[.int .u64 (s : Nat)] 22
    simp only [World.size_alloc] at q
    rw [hW0, ← hbe] at q
    exact q.cell 0
  have T0 : TabW W0 := TabW.below (by omega) B0 hT
  rw [← hbe]
  have hbH := Lib.hid hbe
  have hbP : 0 < b := by omega
  have hbL : w.heap.size ≤ b := by omega
  have hbG : b ≤ w.heap.size := by omega
  clear hbe hW0 HE
  refine wpIn_rangeFunc_ownF rfl (by omega) (gf := 40) (lb := #[.pointer (some ⟨b + 1, 0, none⟩)]) rfl trivial (enters_of Tryd.func40 (by kernel_rfl) rfl)
    (each2_stops 5 (by omega) (b + 1) b (by omega) s hs W0 (by omega) (by omega) k1 T0) belowK_t (belowK_b (by omega)) (Below.refl _ _) (fun _ => rfl)
    (fun pre W => Lib.IsBuilderF 50 5 b b (Lib.byteCells (txtF pre)) W ∧ Below b w W)
    (fun _ _ _ => False)
    (OwnFrom.and (fun s W W' row hs hg hr => bld_own 50 5 b b W0.heap.size (fun l => Lib.byteCells (txt l)) (s.map Fin.val) W W' row hs hg hr) (ownFrom_below (by omega) (by omega)))
    (fun _ _ _ _ _ hs _ _ => hs)
    ⟨I0, B0⟩
    (fun x => { tmps := #[.int .u64 (s : Nat), undef, .string ⟨#[]⟩, .pointer (some ⟨b, 0, none⟩), .int .i64 ((x.val : Nat) : Int), .int .u64 (s : Nat), .bool false, .int .u64 (s : Nat),
      .func (.func 40) #[] #[.pointer (some ⟨b + 1, 0, none⟩)], .int .i64 ((x.val : Nat) : Int), undef, undef, undef, undef, undef, undef, undef], defers := [] }) ?assign ?body ?done ?stop
  case assign =>
    intro l x W K hK
    gi_wp2
    exact hK
  case body =>
    rintro lp pre x W ⟨hI, hB⟩ hlt
    have hn1 : 1 ≤ 6 - 1 - 1 := by decide
    have hlen := txtF_len pre
    have hsn := txtF_snoc pre x
    have hd := digB_len x.val
    clear k1 I0 B0
    have hWs := hB.size
    have HT := Lib.hid (fun w => CallsIn.inRound lp (callsIn_wide (n := 3) |>.2 (itoa_any x w)))
    have HLn := Lib.hid (CallsIn.inRound lp (callsIn_wide (n := 3) |>.2 (Tryd.Builder_Len_f b b _ W hI)))
    rw [Lib.byteCells_length] at HLn
    obtain ⟨t, ht⟩ : ∃ t, t = txtF pre := ⟨_, rfl⟩
    rw [← ht] at hI hlen hsn HLn
    clear ht
    by_cases hz : t.length = 0
    · rw [if_pos hz] at hsn
      have HS := Lib.hid (CallsIn.inRound lp (callsIn_wide (n := 3) |>.2 (writeString_any b b _ ⟨(digB x.val).toArray⟩ W hI (by rw [Lib.byteCells_length]; show _ + (digB x.val).length ≤ _; omega) (by omega))))
      have HSN := Lib.hid hsn
      clear hsn
      have hz' : ((t.length : Nat) : Int) = 0 := by omega
      rw [hz] at HLn
      gi_wp2_with (first
        | (refine ⟨trivial, ?_⟩; gi_at_call 34; refine HLn.out.mono ?_; rintro e w2 ⟨rfl, rfl⟩)
        | (refine ⟨trivial, ?_⟩; gi_at_call 37; refine (HT.out _).mono ?_; rintro e w2 ⟨rfl, rfl⟩)
        | (refine ⟨trivial, ?_⟩; gi_at_call 36; refine HS.out.mono ?_; rintro e w3 ⟨rfl, h3, b3, k3⟩))
      exact ⟨keeps_others k3 b3.size (bld_cells hI), b3, .inr (by rw [HSN.out, Lib.byteCells_append]; exact h3), hB.trans b3⟩
    · rw [if_neg hz] at hsn
      have HSN := Lib.hid hsn
      have HWB := Lib.hid (CallsIn.inRound lp (callsIn_wide (n := 3) |>.2 (writeByte_any b b _ 44 W hI (by rw [Lib.byteCells_length]; omega) (by omega))))
      clear hsn
      have hz' : (0 : Int) < ((t.length : Nat) : Int) := by omega
      gi_wp2_with (first
        | (refine ⟨trivial, ?_⟩; gi_at_call 34; refine HLn.out.mono ?_; rintro e w2 ⟨rfl, rfl⟩)
        | (refine ⟨trivial, ?_⟩; gi_at_call 35; refine HWB.out.mono ?_; rintro e w2 ⟨rfl, h2, b2, k2⟩; have HS := Lib.hid (CallsIn.inRound lp (callsIn_wide (n := 3) |>.2 (writeString_any b b _ ⟨(digB x.val).toArray⟩ w2 (.inr h2) (by rw [List.length_append, Lib.byteCells_length]; show _ + 1 + (digB x.val).length ≤ _; omega) (by have := b2.size; omega)))))
        | (refine ⟨trivial, ?_⟩; gi_at_call 37; refine (HT.out _).mono ?_; rintro e w2' ⟨rfl, rfl⟩)
        | (refine ⟨trivial, ?_⟩; gi_at_call 36; refine HS.out.mono ?_; rintro e w3 ⟨rfl, h3, b3, k3⟩))
      exact ⟨(keeps_others k2 b2.size (bld_cells hI)).trans (keeps_others k3 b3.size (bld_cells (.inr h2))), b2.trans b3, .inr (by rw [HSN.out, Lib.byteCells_append, Lib.byteCells_append]; exact h3), hB.trans (b2.trans b3)⟩
  case done =>
    rintro D ys W hD hys ⟨hI, hB⟩ hK
    have HST := Lib.hid (callsIn_wide (n := 5) |>.2 (Tryd.Builder_String_any_k b b _ W hI (by have := hB.size; omega)))
    have e : txt (members s) = txtF ys := by unfold txtF; rw [hys]
    have HYS := Lib.hid e
    clear k1 hys e
    gi_wp2_with (refine ⟨trivial, ?_⟩; gi_at_call 38; refine HST.out.mono ?_; rintro e w2 ⟨rfl, h2, b2, k2⟩)
    have hK2 := (keeps_others k2 b2.size (bld_cells hI)).same D _ hK rfl
    refine ⟨by simp, .inl ⟨_, _, rfl, run_takeDeferred hK2, ?_⟩⟩
    exact ⟨_, results_tmp rfl _ _ _, by show Ending.returned (.string ⟨(txtF ys).toArray⟩) = _; rw [HYS.out], Chg.of_below (by rw [← hbH.out]; exact (hB.trans b2).trans (belowK_b (w := W0) (by omega) w2 D _ _ hD hK2 rfl rfl))⟩
  case stop =>
    rintro D c pre W _ _ h _
    exact h.elim
/-- The text of a set. -/
def txtN (s : Nat) : List UInt8 := if s = 0 then [45] else txt (members s)
theorem text_any (s : Nat) (hs : s < 18446744073709551616) (w : World) (hT : TabW w) :
    Calls Tryd.prog 26 #[.int .u64 (s : Nat)] w fun e w' => e = .returned (.string ⟨(txtN s).toArray⟩) ∧ Chg [] w w' := by
  by_cases h : s = 0
  · subst h
    refine (text_none w).mono ?_
    rintro e w' ⟨rfl, rfl⟩
    exact ⟨rfl, Chg.refl _ _⟩
  · have e : txtN s = txt (members s) := by unfold txtN; rw [if_neg h]
    rw [e]
    exact text_some s hs h w hT
end Go.Proofs.YtlbgabbgfgcppaaDoor
