/- For every base, first and l the law TicketPlays returns true: each step of any hands returns the specified result. No conditions. -/
import Derived.Test.YtifpfmoakgkdpaaRows
import Derived.Test.YtifpfmoakgkdpaaTick5
import Derived.Test.YtifpfmoakgkdpaaTick3
import Derived.Deep.DeepCutAuto
import Derived.Deep.RegionWith
import Derived.Deep.AppendLies
namespace Go.Proofs.Ytifpfmoakgkdpaa
open Go.RowKit Bosun
theorem Own.ne_blk {w : World} {v : Value} {xs : List Value} {b g : Nat} {e t : TypeId} {cs : Array Value} (h : Own w b e v xs) (hg : Blk w g cs t) (ht : t ≠ e) : v.ownBlock ≠ some g := by
  intro he
  rcases h.2 with ⟨rfl, _⟩ | ⟨g', cap, cur, rfl, _, hg', _⟩
  · cases he
  · obtain rfl : g' = g := by simpa [Value.ownBlock] using he
    exact ht (hg.inj hg').2
theorem own_cell {w : World} {b : Nat} {e : TypeId} {ga offa n c : Nat} {xs : List Value} (h : Own w b e (.slice (some ⟨ga, offa, none⟩) n c) xs) {k : Nat} {x : Value} (hk : xs[k]? = some x) : w.cell? ⟨ga, offa + k, none⟩ = some x := by
  obtain ⟨ao, cap, hv, _, hc⟩ := h.reads
  obtain ⟨g, off, hao, h1⟩ := hc k x hk
  simp at hv
  rw [← hv.1] at hao
  simp at hao
  obtain ⟨rfl, rfl⟩ := hao
  exact h1
theorem infoRef : (Try.prog.info? 46).map (fun i => (i.zero, i.size, i.bytes)) = some (some (.agg #[.int .i64 0, .int .i64 0, .int .u64 0]), 3, 24) := by kernel_rfl
/-- Both locks and all hands. -/
structure PM (w0 w : World) (bm bw rm rw : Nat) (va : Value) (gb : Nat) (base : Int) (hb : List Nat) (hs : List (Int × Nat)) (W : List Nat) (u : Nat) : Prop where
  m : IsMem w bm bw W u
  r : IsRef w rm rw W u
  ne : bw ≠ rw
  a : Own w w0.heap.size 28 va (ptrs hb)
  h : HandsAt w bm bw w0.heap.size base hb hs
  b : RHands w gb base hs
  n4 : hb.length = 4
  w8 : W.length = 8
  c : Chg [] w0 w
  lo : w0.heap.size ≤ bm ∧ w0.heap.size ≤ bw ∧ w0.heap.size ≤ rm ∧ w0.heap.size ≤ rw ∧ w0.heap.size ≤ gb
section
variable {w0 w w' : World} {bm bw rm rw : Nat} {va : Value} {gb : Nat} {base : Int} {hb : List Nat} {hs : List (Int × Nat)} {W : List Nat} {u : Nat}
theorem PM.keep (h : PM w0 w bm bw rm rw va gb base hb hs W u) (hc : Chg [] w w') : PM w0 w' bm bw rm rw va gb base hb hs W u :=
  ⟨h.m.keep hc, h.r.keep hc, h.ne, h.a.keep hc, h.h.keep hc (by simp), h.b.chg hc (by simp), h.n4, h.w8, h.c.then hc (by simp), h.lo⟩
theorem blk_ne {w : World} {g g' : Nat} {cs cs' : Array Value} {t t' : TypeId} (h : Blk w g cs t) (h' : Blk w g' cs' t') (ht : t ≠ t') : g ≠ g' := by
  intro e; subst e; exact ht (h.inj h').2
/-- Behind a work of both. -/
theorem PM.next (h : PM w0 w bm bw rm rw va gb base hb hs W u) {k : Nat} (hk : k < hb.length) {w1 : World} {s1 : Int} {m1 : Nat} {W1 : List Nat} {u1 : Nat} (hs1 : St s1) (hm1 : m1 < 18446744073709551616) (hl : W1.length = W.length)
    (hh : IsHand w1 hb[k] base s1 m1) (hm : IsMem w1 bm bw W1 u1) (hc : Chg [hb[k], bm, bw] w w1)
    (hb' : RHands w' gb base (hs.set k (s1, m1))) (hr : IsRef w' rm rw W1 u1) (hc' : Chg [gb, rm, rw] w1 w') : PM w0 w' bm bw rm rw va gb base hb (hs.set k (s1, m1)) W1 u1 := by
  have hi := h.h.isAt k hk (by rw [h.h.len]; exact hk)
  have lo := h.lo
  have H1 := h.h.set hk hs1 hm1 hc hh
  obtain ⟨cs, B0, _⟩ := h.b
  have A1 : Own w1 w0.heap.size 28 va (ptrs hb) := h.a.chg hc (fun g hg => by
    simp at hg
    rcases hg with rfl | rfl | rfl
    · exact Own.ne_blk h.a hi (by decide)
    · exact Own.ne_blk h.a h.m.head (by decide)
    · exact Own.ne_blk h.a h.m.row (by decide))
  have e1 : gb ≠ bm := blk_ne B0 h.m.head (by decide)
  have e2 : gb ≠ bw := blk_ne B0 h.m.row (by decide)
  have e3 : rm ≠ bm := blk_ne h.r.head h.m.head (by decide)
  have e4 : rm ≠ bw := blk_ne h.r.head h.m.row (by decide)
  have e5 : rw ≠ bm := blk_ne h.r.row h.m.head (by decide)
  have e6 := h.ne
  refine ⟨hm.chg hc' (by simp; omega) (by simp; omega), hr, h.ne, A1.chg hc' (fun g hg => ?_), H1.keep hc' (fun g hg => ?_), hb', h.n4, hl.trans h.w8, (h.c.then hc (fun g hg => .inr ?_)).then hc' (fun g hg => .inr ?_), h.lo⟩
  · simp at hg
    rcases hg with rfl | rfl | rfl
    · exact Own.ne_blk h.a B0 (by decide)
    · exact Own.ne_blk h.a h.r.head (by decide)
    · exact Own.ne_blk h.a h.r.row (by decide)
  · obtain ⟨j, hj, rfl⟩ := List.getElem_of_mem hg
    have hj2 := h.h.isAt j hj (by rw [h.h.len]; exact hj)
    have f1 : hb[j] ≠ gb := blk_ne hj2 B0 (by decide)
    have f2 : hb[j] ≠ rm := blk_ne hj2 h.r.head (by decide)
    have f3 : hb[j] ≠ rw := blk_ne hj2 h.r.row (by decide)
    simp; omega
  · simp at hg
    have := (h.h.out _ (List.getElem_mem hk)).2.2
    omega
  · simp at hg
    omega
end
theorem row_chg {w w1 : World} {b n sz : Nat} {e : TypeId} {v : Value} {xs : List Value} {S : List Nat} (h : w.ownsRow b e sz v n xs) (hc : Chg S w w1) (hS : ∀ g, g ∈ S → v.ownBlock ≠ some g) : w1.ownsRow b e sz v n xs := by
  refine ⟨h.1, ?_⟩
  rcases h.2 with h | ⟨g, cap, cur, h1, h2, h3, r⟩
  · exact .inl h
  · refine .inr ⟨g, cap, cur, h1, h2, ?_, r⟩
    rw [hc.block g (Array.getElem?_eq_some_iff.1 h3).1 (fun hm => hS g hm (by rw [h1]; rfl))]
    exact h3
theorem row_ne {w : World} {v : Value} {xs : List Value} {b g n sz : Nat} {e t : TypeId} {cs : Array Value} (h : w.ownsRow b e sz v n xs) (hg : Blk w g cs t) (ht : t ≠ e) : v.ownBlock ≠ some g := by
  intro he
  rcases h.2 with ⟨rfl, _⟩ | ⟨g', cap, cur, rfl, _, hg', _⟩
  · cases he
  · obtain rfl : g' = g := by simpa [Value.ownBlock] using he
    exact ht (hg.inj hg').2
def row3 (base : Int) (j : Nat) : List Value := (List.replicate j [Value.int .i64 base, .int .i64 0, .int .u64 0]).flatten
theorem row3_succ (base : Int) (j : Nat) : row3 base (j + 1) = row3 base j ++ [Value.int .i64 base, .int .i64 0, .int .u64 0] := by
  unfold row3; rw [List.replicate_succ', List.flatten_append]; simp
theorem flat_get (x : List Value) (hx : x.length = 3) : ∀ (j k : Nat), k < j → ∀ i, i < 3 → (List.replicate j x).flatten[3 * k + i]? = x[i]?
  | 0, k, h, _, _ => by omega
  | j + 1, 0, _, i, hi => by
    rw [List.replicate_succ, List.flatten_cons, List.getElem?_append_left (by omega)]
    simp
  | j + 1, k + 1, h, i, hi => by
    rw [List.replicate_succ, List.flatten_cons, List.getElem?_append_right (by omega), show 3 * (k + 1) + i - x.length = 3 * k + i from by omega]
    exact flat_get x hx j k (by omega) i hi
theorem flat_rc (base : Int) (j : Nat) (cur : Array Value) (hsz : 3 * j ≤ cur.size) (ht : cur.toList.take (j * 3) = (List.replicate j [Value.int .i64 base, .int .i64 0, .int .u64 0]).flatten) : RC cur base (List.replicate j (0, 0)) := by
  refine ⟨by simpa using hsz, fun k hk => ?_⟩
  have hk' : k < j := by simpa using hk
  have hcell : ∀ i, i < 3 → cur[3 * k + i]? = [Value.int .i64 base, .int .i64 0, .int .u64 0][i]? := fun i hi => by
    have h1 : (cur.toList.take (j * 3))[3 * k + i]? = cur[3 * k + i]? := by rw [List.getElem?_take, if_pos (by omega), Array.getElem?_toList]
    rw [← h1, ht]
    exact flat_get _ rfl j k hk' i hi
  rw [List.getElem_replicate]
  exact ⟨by simpa using hcell 0 (by omega), by simpa using hcell 1 (by omega), by simpa using hcell 2 (by omega)⟩
theorem wrap_base (b : Int) : 0 ≤ wrap64 ((IntKind.u64.wrap b).tmod 8) ∧ wrap64 ((IntKind.u64.wrap b).tmod 8) ≤ 7 := by
  rw [IntKind.wrap_u64, Int.tmod_eq_emod_of_nonneg (by omega)]
  rw [IntWalk.wrap64_in _ (by omega)]
  omega
set_option maxRecDepth 100000 in
set_option maxHeartbeats 8000000 in
theorem ticketPlays_walk (w : World) (b0 : Int) (hb0 : -9223372036854775808 ≤ b0) (hb1 : b0 ≤ 9223372036854775807) (n0 : Nat) (hn0 : n0 < 18446744073709551616) (v : Value) (rows : List (List Value)) (hr : ∀ r ∈ rows, ActRow r) (hv : ReadsS w v 2 rows) :
    Calls Try.prog 5 #[.int .i64 b0, .int .u64 (n0 : Nat), v] w fun e w' => e = .returned (.bool true) ∧ Chg [] w w' := by
  obtain ⟨ao, cap, rfl, hm, hcell⟩ := hv
  unfold maxLen at hm
  have HCELL := Lib.hid hcell
  have HR := Lib.hid hr
  have HN0 := Lib.hid hn0
  clear hcell hr hn0
  go_enter Try.func5, Try.ntmps5
  go_upto_region 2 with (fail)
  go_cut [23] (fun s wx => ∃ b : Bool, s = .bool b ∧ (b = false → -4 ≤ b0 ∧ b0 ≤ 8) ∧ w = wx)
  case first =>
    rcases (show 8 < b0 ∨ (decide (8 < b0) = false ∧ b0 < -4) ∨ (decide (8 < b0) = false ∧ decide (b0 < -4) = false) by simp; omega) with a1 | ⟨a1, a2⟩ | ⟨a1, a2⟩
    · go_wp2_with fail
      go_meet
      exact ⟨true, rfl, (fun e => by cases e), rfl⟩
    · go_wp2_with fail
      go_meet
      exact ⟨true, rfl, (fun e => by cases e), rfl⟩
    · go_wp2_with fail
      go_meet
      exact ⟨false, rfl, (fun e => by simp at a1 a2; omega), rfl⟩
  case rest =>
  obtain ⟨b, rfl, hb, hwx⟩ := hcut
  subst hwx
  go_upto_if 23 with (fail)
  go_cut [7] (fun s wx => ∃ base : Int, -4 ≤ base ∧ base ≤ 8 ∧ s = .int .i64 base ∧ w = wx)
  case first =>
    cases b with
    | true =>
      clear hb
      go_wp2_with fail
      go_meet
      have hwb := wrap_base b0
      exact ⟨wrap64 ((IntKind.u64.wrap b0).tmod 8), by omega, by omega, rfl, rfl⟩
    | false =>
      obtain ⟨a1, a2⟩ := hb rfl
      clear hb
      go_wp2_with fail
      go_meet
      exact ⟨b0, a1, a2, rfl, rfl⟩
  case rest =>
    obtain ⟨base, hm0, hm1, rfl, hwx⟩ := hcut
    subst hwx
    clear hb hb0 hb1
    go_wp2_with fail
    refine (new_any 8 8 (by decide) _).mono ?_
    rintro e w1 ⟨bm, bw, rfl, M1, C1, g1, g2⟩
    go_wp2_with fail
    refine (rnew_any 8 8 (by decide) _).mono ?_
    rintro e w2 ⟨rm, rw, rfl, R2, C2, g3, g4⟩
    have M2 := M1.keep C2
    have l1 := M1.row.lt
    have D2 := C1.then C2 (by simp)
    have z1 := C1.size
    have hlo : w.heap.size ≤ bm ∧ w.heap.size ≤ bw ∧ w.heap.size ≤ rm ∧ w.heap.size ≤ rw ∧ bw ≠ rw := by omega
    clear M1 C1 C2 g1 g2 g3 g4 l1 z1
    go_wp2_with fail
    go_loopw [10] (fun x10 wr => ∃ (j : Nat) (W : List Nat) (u : Nat), j ≤ 8 ∧ x10 = .int .i64 j ∧ W.length = 8 ∧ IsMem wr bm bw W u ∧ IsRef wr rm rw W u ∧ Chg [] w wr) (fun x10 _ => 8 - (intOf x10).toNat)
    case atStart => exact ⟨0, List.replicate 8 0, 0, by omega, rfl, by simp, M2, R2, D2⟩
    case round =>
      obtain ⟨j, W, u, hj, rfl, hW, M, R, D⟩ := hrel
      have e1 : rm ≠ bm := blk_ne R.head M.head (by decide)
      have e2 : rm ≠ bw := blk_ne R.head M.row (by decide)
      have e3 : rw ≠ bm := blk_ne R.row M.head (by decide)
      by_cases hj8 : j < 8
      · go_wp2_with (first
          | (go_at_call 7; refine (store_any bm bw W u _ M j n0 HN0.out).mono ?_; rintro e w5 ⟨rfl, M5, C5⟩)
          | (go_at_call 18; refine (rstore_any rm rw W u _ (R.chg C5 (by simp; omega) (by simp; omega)) j n0 HN0.out).mono ?_; rintro e w6 ⟨rfl, R6, C6⟩))
        go_roundw
        case rel => exact ⟨j + 1, _, _, by omega, by go_num, by rw [setA_length]; exact hW, M5.chg C6 (by simp; omega) (by simp; omega), R6, (D.then C5 (fun g hg => .inr (by simp at hg; omega))).then C6 (fun g hg => .inr (by simp at hg; omega))⟩
        case measure => simp [intOf] <;> omega
      · obtain rfl : j = 8 := by omega
        rw [show ((8 : Nat) : Int) = (8 : Int) from rfl]
        clear M2 R2 D2
        go_wp2_with fail
        go_loopw [11, 12, 13] (fun x11 x12 x13 wr => ∃ (j : Nat) (hb : List Nat), j ≤ 4 ∧ hb.length = j ∧ x13 = .int .i64 j ∧ Own wr w.heap.size 28 x11 (ptrs hb) ∧ HandsAt wr bm bw w.heap.size base hb (List.replicate j (0, 0)) ∧ (∀ g ∈ hb, g < wr.heap.size) ∧
            wr.ownsRow w.heap.size 46 3 x12 j (row3 base j) ∧ IsMem wr bm bw W u ∧ IsRef wr rm rw W u ∧ Chg [] w wr)
          (fun _ _ x13 _ => 4 - (intOf x13).toNat)
        case atStart => exact ⟨0, [], by omega, rfl, rfl, Own.nil _ _ _, ⟨rfl, fun k h => by simp at h, by simp, fun g h => by simp at h, fun x h => by simp at h⟩, fun g h => by simp at h, World.ownsRow_nil _ _ _ _, M, R, D⟩
        case round =>
          clear M R D
          obtain ⟨j, hb, hj, hbl, rfl, O, H, hlt, B, M, R, D⟩ := hrel
          by_cases hj4 : j < 4
          · obtain ⟨i0, hi0, hz0, hz1, hz2⟩ := info_parts infoRef
            have hn : ∀ g cs t, Blk wr g cs t → t ≠ 28 → g ∉ u11.ownBlock.toList := fun g cs t hb ht hm => Own.ne_blk O hb ht (by simpa using hm)
            have hn2 : ∀ g cs t, Blk wr g cs t → t ≠ 46 → g ∉ u12.ownBlock.toList := fun g cs t hb ht hm => row_ne B hb ht (by simpa using hm)
            have HNN := Lib.hid hn
            have HNN2 := Lib.hid hn2
            have HI := Lib.hid (And.intro hi0 (And.intro hz0 (And.intro hz1 hz2)))
            have hrl : (row3 base j).length = j * 3 := B.1
            clear hn hn2 hi0 hz0 hz1 hz2
            go_wp2_with (first
              | (go_at_call 8; refine (tnew_any base (by omega) (by omega) _).mono ?_; rintro e w5 ⟨b, rfl, A5, C5, hb5⟩; have z5 := C5.size)
              | (refine wpList_app1 rfl (.tmp 46) (.tmp 49) 27 rfl w.heap.size 28 (.pointer none) 8 Try.underlying27 infoHand rfl _ _ rfl ((O.keep C5).alloc _) w5.heap.size 1 (.pointer (some ⟨b, 0, none⟩)) rfl (by rw [(Blk.new w5 #[.pointer (some ⟨b, 0, none⟩)] 28).cell]; rfl) rfl (by unfold maxLen; simp only [ptrs, List.length_map]; omega) (by simp only [ptrs, List.length_map]; omega) (by simp; have := (D.then C5 (by simp)).size; omega) ?_
                 intro v6 w6 O6 C6
                 have B6 : w6.ownsRow w.heap.size 46 3 u12 j (row3 base j) := row_chg (row_chg B ((C5.alloc _) : Chg [] wr (w5.alloc (.cells #[.pointer (some ⟨b, 0, none⟩)] 28))) (by simp)) (S := u11.ownBlock.toList) C6 (fun g hg he => by
                   rcases B.2 with ⟨rfl, _⟩ | ⟨g', cap', cur, rfl, _, hg', _⟩
                   · cases he
                   · obtain rfl : g' = g := (by simpa [Value.ownBlock] using he)
                     exact HNN.out g' cur _ hg' (by decide) hg)
                 have z6 := C6.size
                 have hw6 : w.heap.size ≤ w6.heap.size := (by have := D.size; simp at z6; omega))
              | (refine wpList_append_own_at _ rfl (.tmp 51) (.tmp 54) 44 rfl w.heap.size 46 i0 (.agg #[.int .i64 0, .int .i64 0, .int .u64 0]) 3 24 Try.underlying44 HI.out.1 HI.out.2.1 HI.out.2.2.1 HI.out.2.2.2 rfl (by decide) u12 j (row3 base j) rfl (World.ownsRow.alloc B6 (.cells #[.int .i64 base, .int .i64 0, .int .u64 0] 46)) ⟨w6.heap.size, 0, none⟩ 1 1 [.int .i64 base, .int .i64 0, .int .u64 0] rfl rfl (World.news_of_block (Blk.new w6 #[.int .i64 base, .int .i64 0, .int .u64 0] 46)) (by intro x hx; simp at hx; rcases hx with rfl | rfl | rfl <;> rfl) (by unfold maxLen; omega) (by omega) (by simp; omega) ?_
                 intro v7 w7 O7 G7 _ L7))
            have C7 : Chg u12.ownBlock.toList (w6.alloc (.cells #[.int .i64 base, .int .i64 0, .int .u64 0] 46)) w7 := Chg.of_grown G7
            have C6' : Chg u11.ownBlock.toList (w5.alloc (.cells #[.pointer (some ⟨b, 0, none⟩)] 28)) w6 := C6
            have E7 : Chg (u11.ownBlock.toList ++ u12.ownBlock.toList) w5 w7 := ((((Chg.refl _ w5).alloc _).then C6' (fun g hg => .inl (List.mem_append.2 (.inl hg)))).alloc _).then C7 (fun g hg => .inl (List.mem_append.2 (.inr hg)))
            have hnot : ∀ g cs t, Blk wr g cs t → t ≠ 28 → t ≠ 46 → g ∉ u11.ownBlock.toList ++ u12.ownBlock.toList := fun g cs t hb h1 h2 hm => by
              rcases List.mem_append.1 hm with hm | hm
              · exact HNN.out g cs t hb h1 hm
              · exact HNN2.out g cs t hb h2 hm
            have hold : ∀ g, g ∈ u11.ownBlock.toList ++ u12.ownBlock.toList → g < wr.heap.size ∧ w.heap.size ≤ g := fun g hg => by
              rcases List.mem_append.1 hg with hg | hg
              · have := O.block g hg; omega
              · rcases B.2 with ⟨rfl, _⟩ | ⟨g', cap', cur, rfl, hb', hg', _⟩
                · cases hg
                · obtain rfl : g = g' := List.mem_singleton.1 (show g ∈ [g'] from hg)
                  exact ⟨(Array.getElem?_eq_some_iff.1 hg').1, hb'⟩
            have hHm := H.more D.size (M.head.lt) (M.row.lt) hb5 hlt C5 A5
            have z7 := E7.size
            have hbl5 := Blk.lt A5
            go_roundw
            case rel =>
              refine ⟨j + 1, hb ++ [b], by omega, by simp [hbl], by go_num, ?_, ?_, fun g hg => ?_, by rw [row3_succ]; exact O7, (M.keep C5).chg E7 (hnot _ _ _ M.head (by decide) (by decide)) (hnot _ _ _ M.row (by decide) (by decide)),
                (R.keep C5).chg E7 (hnot _ _ _ R.head (by decide) (by decide)) (hnot _ _ _ R.row (by decide) (by decide)), (D.then C5 (by simp)).then E7 (fun g hg => .inr (hold g hg).2)⟩
              · have O6' : Own w6 w.heap.size 28 v6 (ptrs (hb ++ [b])) := by simpa [ptrs] using O6
                refine (O6'.alloc _).chg C7 (fun g hg => ?_)
                rcases B6.2 with ⟨rfl, _⟩ | ⟨g', cap', cur, rfl, hb', hg', _⟩
                · cases hg
                · obtain rfl : g = g' := List.mem_singleton.1 (show g ∈ [g'] from hg)
                  exact Own.ne_blk (cs := cur) O6' hg' (by decide)
              · rw [List.replicate_succ']
                refine hHm.keep E7 (fun g hg => ?_)
                rcases List.mem_append.1 hg with hg | hg
                · obtain ⟨k, hk, rfl⟩ := List.getElem_of_mem hg
                  exact hnot _ _ _ (H.isAt k hk (by rw [H.len]; exact hk)) (by decide) (by decide)
                · simp at hg; subst hg
                  exact fun hm => by have := hold _ hm; omega
              · rcases List.mem_append.1 hg with hg | hg
                · have := hlt g hg; omega
                · simp at hg; omega
            case measure => simp [intOf] <;> omega
          · obtain rfl : j = 4 := by omega
            rw [show ((4 : Nat) : Int) = (4 : Int) from rfl]
            have hva : ∃ ga ca, u11 = .slice (some ⟨ga, 0, none⟩) 4 ca := by
              rcases O.2 with ⟨_, h0⟩ | ⟨g', cap', cur, he, _⟩
              · simp [ptrs, hbl] at h0
              · exact ⟨g', cap', by rw [he]; simp [ptrs, hbl]⟩
            obtain ⟨ga, ca, rfl⟩ := hva
            have hvb : ∃ gb cb cur, u12 = .slice (some ⟨gb, 0, none⟩) 4 cb ∧ w.heap.size ≤ gb ∧ Blk wr gb cur 46 ∧ RC cur base (List.replicate 4 (0, 0)) := by
              rcases B.2 with ⟨_, h0⟩ | ⟨g', cap', cur, he, h1, h2, h3, h4, h5, h6⟩
              · omega
              · exact ⟨g', cap', cur, he, h1, h2, flat_rc base 4 cur (by omega) h6⟩
            obtain ⟨gb, cb, cur, rfl, hgb, hBc, hRC⟩ := hvb
            have P0 : PM w wr bm bw rm rw (.slice (some ⟨ga, 0, none⟩) 4 ca) gb base hb (List.replicate 4 (0, 0)) W u := ⟨M, R, by omega, O, H, ⟨cur, hBc, hRC⟩, hbl, hW, D, by omega⟩
            clear O H B M R D hBc hRC hlt
            go_wp2_with fail
            go_loopw [14] (fun x14 wr => ∃ (i : Nat) (hs : List (Int × Nat)) (W : List Nat) (u : Nat), i ≤ rows.length ∧ i ≤ 60 ∧ x14 = .int .i64 i ∧ PM w wr bm bw rm rw (.slice (some ⟨ga, 0, none⟩) 4 ca) gb base hb hs W u)
              (fun x14 _ => 60 - (intOf x14).toNat)
            case atStart => exact ⟨0, _, _, _, by omega, by omega, rfl, P0⟩
            case round =>
              clear P0
              obtain ⟨i, hs, W, u, hi, hi60, rfl, B⟩ := hrel
              rcases (show (i < rows.length ∧ i < 60) ∨ (i < rows.length ∧ decide ((i : Int) < 60) = false) ∨ ¬ i < rows.length by simp; omega) with ⟨h1, h2⟩ | ⟨h1, h2⟩ | h1
              · obtain ⟨g, off, rfl, hc⟩ := HCELL.out i _ (List.getElem?_eq_getElem h1)
                obtain ⟨z, fr, hz0, hz1, hrow⟩ := HR.out _ (List.getElem_mem h1)
                rw [hrow] at hc
                have f0 : wr.cell? ⟨g, off + i * 2, none⟩ = some (.int .u8 z) := by
                  rw [World.cell?_of_block (w := w) (B.c.block g (World.block_lt_of_cell? w _ (hc 0 _ rfl)) (by simp)), ← hc 0 _ rfl]; rfl
                have f1 : wr.cell? ⟨g, off + i * 2 + 1, none⟩ = some (.bool fr) := by
                  rw [World.cell?_of_block (w := w) (B.c.block g (World.block_lt_of_cell? w _ (hc 1 _ rfl)) (by simp)), ← hc 1 _ rfl]
                obtain ⟨k, hzk, hk4⟩ : ∃ k : Nat, z % 4 = (k : Int) ∧ k < 4 := ⟨(z % 4).toNat, by omega, by omega⟩
                have hk : k < hb.length := by rw [B.n4]; exact hk4
                have hkp : (ptrs hb)[k]? = some (.pointer (some ⟨hb[k], 0, none⟩)) := by simp [ptrs, hk]
                have hks : k < hs.length := by rw [B.h.len]; exact hk
                obtain ⟨⟨st, mine⟩, hst⟩ : ∃ p, hs[k] = p := ⟨_, rfl⟩
                obtain ⟨hSt, hmi⟩ : St st ∧ mine < 18446744073709551616 := by have := B.h.wf _ (List.getElem_mem hks); rw [hst] at this; exact this
                have HK := B.h.isAt k hk hks
                rw [hst] at HK
                simp only at HK
                obtain ⟨hob1, hob2, hob3⟩ := B.h.out _ (List.getElem_mem hk)
                have cA := own_cell B.a hkp
                rw [Nat.zero_add] at cA
                have HKP := Lib.hid hkp
                have HST := Lib.hid hst
                obtain ⟨bk, hbk⟩ : ∃ b, b = hb[k] := ⟨_, rfl⟩
                rw [← hbk] at HK hob1 hob2 cA
                have HBK := Lib.hid hbk
                clear hc hrow hst hbk hkp hob3
                go_upto_if 80 with (fail)
                have tk : gb ≠ bk ∧ gb ≠ bm ∧ gb ≠ bw ∧ gb ≠ rm ∧ gb ≠ rw ∧ rm ≠ bk ∧ rm ≠ bm ∧ rm ≠ bw ∧ rw ≠ bk ∧ rw ≠ bm ∧ bw ≠ rw := by
                  obtain ⟨cs, B0, _⟩ := B.b
                  exact ⟨blk_ne B0 HK (by decide), blk_ne B0 B.m.head (by decide), blk_ne B0 B.m.row (by decide), blk_ne B0 B.r.head (by decide), blk_ne B0 B.r.row (by decide), blk_ne B.r.head HK (by decide), blk_ne B.r.head B.m.head (by decide), blk_ne B.r.head B.m.row (by decide),
                    blk_ne B.r.row HK (by decide), blk_ne B.r.row B.m.head (by decide), B.ne⟩
                have HTK := Lib.hid tk
                clear tk
                go_cut [6] (fun _ wx => ∃ (hs' : List (Int × Nat)) (W' : List Nat) (u' : Nat), PM w wx bm bw rm rw (.slice (some ⟨ga, 0, none⟩) 4 ca) gb base hb hs' W' u')
                case first =>
                  cases fr with
                  | true =>
                    have HF := Lib.hid (free_any bk base st mine wr HK hmi bm bw W u B.m hob1 hob2)
                    have HG := Lib.hid (fun w5 h1 h2 => rfree_any gb base (by omega) (by omega) hs k hks (k * 3) (by omega) st mine (by rw [HST.out]) (by rw [HST.out]) w5 h1 rm rw W u h2 HTK.out.2.2.2.1 HTK.out.2.2.2.2.1)
                    obtain ⟨q, hq⟩ : ∃ q, q = (st == 2) := ⟨_, rfl⟩
                    rw [← hq] at HF HG
                    clear hq
                    go_wp2_with (first
                      | (go_at_call 11; refine HF.out.mono ?_; rintro e w5 ⟨rfl, A5, M5, C5⟩; have t5 := HTK.out)
                      | (go_at_call 19; refine (HG.out _ (B.b.chg C5 (by simp; omega)) (B.r.chg C5 (by simp; omega) (by simp; omega))).mono ?_; rintro e w6 ⟨rfl, A6, M6, C6⟩))
                    go_meet
                    rw [HBK.out] at A5 C5
                    exact ⟨_, _, _, B.next hk (frS_St hSt) (frM_lt hmi) (frW_length _ _ _ _) A5 M5 C5 A6 M6 C6⟩
                  | false =>
                    have HF := Lib.hid (step_any bk base st mine wr HK hSt hmi bm bw W u B.m hob1 hob2)
                    have HG := Lib.hid (fun w5 h1 h2 => rstep_any gb base (by omega) (by omega) hs k hks (k * 3) (by omega) st mine (by rw [HST.out]) (by rw [HST.out]) w5 h1 hSt rm rw W u h2 HTK.out.2.2.2.1 HTK.out.2.2.2.2.1)
                    obtain ⟨q, hq⟩ : ∃ q, q = decide (stS base W st mine = 2) := ⟨_, rfl⟩
                    rw [← hq] at HF HG
                    clear hq
                    go_wp2_with (first
                      | (go_at_call 12; refine HF.out.mono ?_; rintro e w5 ⟨rfl, A5, M5, C5⟩; have t5 := HTK.out)
                      | (go_at_call 20; refine (HG.out _ (B.b.chg C5 (by simp; omega)) (B.r.chg C5 (by simp; omega) (by simp; omega))).mono ?_; rintro e w6 ⟨rfl, A6, M6, C6⟩))
                    go_meet
                    rw [HBK.out] at A5 C5
                    exact ⟨_, _, _, B.next hk (stS_St hSt) (stM_lt B.m.small hmi) (stW_length _ _ _) A5 M5 C5 A6 M6 C6⟩
                case rest =>
                  obtain ⟨hs', W', u', P⟩ := hcut
                  have hks' : k < hs'.length := by rw [P.h.len]; exact hk
                  obtain ⟨⟨st2, m2⟩, hst2⟩ : ∃ p, hs'[k] = p := ⟨_, rfl⟩
                  have hmi2 : m2 < 18446744073709551616 := by have := P.h.wf _ (List.getElem_mem hks'); rw [hst2] at this; exact this.2
                  have HK2 := P.h.isAt k hk hks'
                  have d1 := P.b.cells hks'
                  rw [hst2] at HK2 d1
                  rw [← HBK.out] at HK2
                  simp only at HK2 d1
                  rw [Nat.mul_comm 3 k] at d1
                  have cB := own_cell P.a HKP.out
                  rw [Nat.zero_add, ← HBK.out] at cB
                  obtain ⟨_, d2, d3⟩ := d1
                  have HKd := Blk.drew HK2
                  have Pd := P.keep ((Chg.refl [] _).drew)
                  have HCELLS := Lib.hid (fun w9 (h9 : Chg [] _ w9) => And.intro (own_cell (Pd.keep h9).a HKP.out) ((Pd.keep h9).b.cells hks').2)
                  rw [hst2, Nat.zero_add, ← HBK.out] at HCELLS
                  simp only at HCELLS
                  rw [Nat.mul_comm 3 k] at HCELLS
                  clear HK cA f0 f1 B hst2
                  have i1 : (0 : Int) ≤ (k : Int) := by omega
                  have i2 : (k : Int) < 4 := by omega
                  go_wp2_with fail
                  go_region_held3 (fun w' => w'.cell? ⟨ga, k, none⟩ = some (.pointer (some ⟨bk, 0, none⟩)) ∧ w'.cell? ⟨gb, k * 3 + 1, none⟩ = some (.int .i64 st2) ∧ w'.cell? ⟨gb, k * 3 + 2, none⟩ = some (.int .u64 (m2 : Nat))) (first | assumption | exact ⟨cB, d2, d3⟩)
                    (first
                      | (go_at_call 10; refine (holds_any bk base st2 m2 _ HKd).mono ?_; rintro e w8 ⟨rfl, rfl⟩)
                      | (go_at_call 9; refine (waits_any bk base st2 m2 _ HKd).mono ?_; rintro e w8 ⟨rfl, rfl⟩)
                      | (go_at_call 14; refine (mine_any bk base st2 m2 _ HKd).mono ?_; rintro e w8 ⟨rfl, rfl⟩)
                      | (go_at_call 16; refine (ahead_any bm bw W' u' _ Pd.m base (by omega) (by omega) m2 hmi2).mono ?_; rintro e w9 ⟨rfl, C9⟩; have k9 := HCELLS.out w9 C9)
                      | (go_at_call 21; refine (rahead_any rm rw W' u' _ (Pd.keep C9).r base (by omega) (by omega) m2 hmi2).mono ?_; rintro e w8 ⟨rfl, rfl⟩))
                  have P9 := Pd.keep C9
                  have w8 := P9.w8
                  have c0 := P9.r.c0
                  have c1 := P9.r.c1
                  rw [w8] at c0
                  have hps : partN W' 0 8 = W' := partN_all W' 8 (by omega) (by omega)
                  have HPS := Lib.hid hps
                  have HKEY := Lib.hid (fun w9 (h9 : Chg [] _ w9) => And.intro (P9.keep h9).r.c0 (P9.keep h9).r.c1)
                  rw [w8] at HKEY
                  have HRD := Lib.hid (show ∀ w5, IsRef w5 rm rw W' u' → Reads w5 (.slice (some ⟨rw, 0, none⟩) 8 8) (words W') from fun w5 h5 => h5.row.reads 8 8 (by simp [words_len, w8]) (by simp [words_len, w8]; unfold maxLen; omega) (by rw [List.take_of_length_le (by simp [words_len, w8])]))
                  clear hps HKd HK2 cB d2 d3 k9
                  go_wp2_with fail
                  go_region_held3 (fun w' => w'.cell? ⟨rm, 0, none⟩ = some (.slice (some ⟨rw, 0, none⟩) 8 8) ∧ w'.cell? ⟨rm, 1, none⟩ = some (.int .u64 (u' : Nat))) (first | assumption | exact ⟨c0, c1⟩)
                    (first
                      | (go_at_call 22; refine (used_any bm bw W' u' _ P9.m.drew).mono ?_; rintro e w10 ⟨rfl, rfl⟩)
                      | (go_at_call 24; refine (part_any bm bw W' u' _ P9.m.drew 0 8 (by decide) (by decide) (by decide) (by decide)).mono ?_; rw [HPS.out]; rintro e w10 ⟨v10, rfl, O10, C10⟩; have k10 := HKEY.out w10 C10.undrew)
                      | (go_at_call 23; refine (msame_any _ _ W' W' _ O10.reads (HRD.out _ (P9.keep C10.undrew).r)).mono ?_; rw [decide_eq_true rfl]; rintro e w11 ⟨rfl, C11⟩; have k11 := HKEY.out w11 (C10.undrew.then C11 (by simp))))
                  go_wp2_with fail
                  go_roundw
                  case rel => exact ⟨i + 1, hs', W', u', by omega, by omega, by go_num, (P9.keep C10.undrew).keep C11⟩
                  case measure => simp [intOf] <;> omega
              all_goals
                go_wp2_with fail
                refine (awake_any _).mono ?_
                rintro e w7 ⟨rfl, C7⟩
                go_wp2_with fail
                go_ret
                exact ⟨rfl, B.c.then C7 (by simp)⟩
namespace ticketPlays
open Go.ChangeShapes Go.WideShapes Go.ChangeAt
theorem own : ownKnob Try.prog.godebug = none := by kernel_rfl
theorem laidOut : laidOutB Try.prog = true := by kernel_rfl

set_option maxRecDepth 100000 in
theorem lifted (os : Os) (started : os.Started) (H : Type) (enc : TypeId × Value → H) :
    ReturnsInHanded {} Try.checked os 5 .any (Rows.ticketPlaysSpec.pre6 enc Try.prog Try.f5 Rows.ticketPlaysRow.domain false) (Rows.ticketPlaysSpec.post enc Try.prog Try.f5 false true false false) := by
  refine returnsInHanded_of_change (C := Try.checked) own started (by kernel_rfl) Try.func5
    (ChangeSpec.witness6 (enc := enc) (C := Try.checked) false ⟨#[], #[.int .i64 0, .int .u64 0, .slice none 0 0], []⟩ 8 (by kernel_rfl) (by kernel_rfl) (by kernel_rfl) (by kernel_rfl)) ?_
  intro W base args ds gs before hval0 hW hcnd _
  have hval : ∀ (j : Nat) t v, Try.f5.params[j]? = some t → args[j]? = some v → Value.okWide Try.prog W .any base t v := hval0
  have hW' := hW
  obtain ⟨p, q, hA0, hV, rfl, hfz, hnd⟩ := hW
  have hA : DataW.TrodAll enc Try.prog W 0 (fun _ => true) true Try.f5.params.toList args.toList ds p := hA0
  rw [Try.params5] at hA hval
  obtain ⟨v0, vs0, d0, ds0, p0, q0, hargs, rfl, rfl, h0, r0⟩ := trodAll_cons hA
  obtain ⟨v1, vs1, d1, ds1, p1, q1, rfl, rfl, rfl, h1, r1⟩ := trodAll_cons r0
  obtain ⟨v2, vs2, d2, ds2, p2, q2, rfl, rfl, rfl, h2, r2⟩ := trodAll_cons r1
  obtain ⟨rfl, rfl, rfl⟩ := trodAll_nil r2
  obtain rfl : args = #[v0, v1, v2] := by cases args; simp_all
  obtain ⟨rfl, rfl⟩ := trodVars_none hV
  obtain ⟨a0, rfl, rfl, rfl, w0⟩ := open_int Try.underlying3 (hval 0 3 v0 rfl rfl) h0
  have b0 := bounds_i64 w0
  obtain ⟨a1, rfl, rfl, rfl, w1⟩ := open_int Try.underlying22 (hval 1 22 v1 rfl rfl) h1
  obtain ⟨n1, rfl, hn1⟩ := nat_u64 w1
  obtain ⟨a2, len2, cap2, rfl⟩ := okWide_slice Try.underlying23 (hval 2 23 v2 rfl rfl)
  have k2 := h2
  have lt2 : ∀ x ∈ p2, x.block < W.heap.size := by obtain ⟨m, hm⟩ := k2; exact DataW.trod_lt m _ _ _ hm
  obtain ⟨l2, hl2, hr2⟩ := open_elems (Q := ActRow) Try.underlying23 2 (by decide) (by kernel_rfl) (fun fuel cs y hy => ActRow_of fuel cs y hy) h2
  clear hA0 hval0
  simp only [List.append_nil] at hW'
  refine (ticketPlays_walk W a0 b0.1 b0.2 n1 hn1 _ l2 hl2 hr2).mono fun e W' ⟨he, hg⟩ => ?_
  subst he
  exact ⟨_, rfl, _, _, _, [], _, [], hW', trodAll_mk1 (shut_bool Try.underlying4 _), (trodAll_cons_mk (shut_int Try.underlying3 w0) (trodAll_cons_mk (shut_int Try.underlying22 w1) (trodAll_cons_mk (Below.trod laidOut (by kernel_rfl) (of_decide_eq_true (by kernel_rfl)) k2 hg.below lt2) trodAll_mk0))), rfl, hg.below.frame _, fun h => by cases h⟩

theorem over : Rows.ticketPlaysRow.holds Try.pinned (OpenSpec.ofChange Rows.ticketPlaysSpec) :=
  OpenClaim.holds_of_wide 5 Try.f5 rfl rfl rfl rfl rfl rfl rfl ⟨rfl, rfl, rfl, rfl, rfl⟩ rfl rfl rfl rfl rfl (by kernel_rfl) Try.func5 (by kernel_rfl)
    (of_decide_eq_true (by kernel_rfl)) (by unfold Func.isWrapper; first | (rw [if_pos (by decide +kernel)]; kernel_rfl) | (rw [if_neg (by decide +kernel)]; exact ⟨rfl, rfl⟩))
    (fun os started H enc _ => lifted os started H enc)
end ticketPlays

theorem ticketPlays_holds : Rows.TicketPlaysSaid := ticketPlays.over
#print axioms ticketPlays_holds
end Go.Proofs.Ytifpfmoakgkdpaa
