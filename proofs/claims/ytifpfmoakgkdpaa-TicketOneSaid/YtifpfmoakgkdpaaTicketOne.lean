/- For every first and l the law TicketOne returns true: never do two hands hold, they hold in order, and one that waits holds with its next step once all ahead have freed the lock. No conditions. -/
import Derived.Test.YtifpfmoakgkdpaaRows
import Derived.Test.YtifpfmoakgkdpaaTick5
import Derived.Deep.DeepCutAuto
import Derived.Deep.RegionWith
namespace Go.Proofs.Ytifpfmoakgkdpaa
open Go.RowKit Bosun
structure OneM (w0 w : World) (bm bw : Nat) (va : Value) (hb : List Nat) (hs : List (Int × Nat)) (n s : Nat) : Prop where
  m : ∃ u, IsMem w bm bw [n, s] u
  a : Own w w0.heap.size 28 va (ptrs hb)
  h : HandsAt w bm bw w0.heap.size 0 hb hs
  n6 : hb.length = 6
  c : Chg [] w0 w
  lo : w0.heap.size ≤ bm ∧ w0.heap.size ≤ bw
theorem QueN.ne_blk {w : World} {v : Value} {xs : List Value} {b g : Nat} {e t : TypeId} {cs : Array Value} (h : QueN w b e v xs) (hg : Blk w g cs t) (ht : t ≠ e) : blkOf v ≠ some g := by
  rcases h with ⟨rfl, _⟩ | ⟨g', off, cap, cur, rfl, _, hg', _⟩
  · intro e; cases e
  · intro he
    obtain rfl : g' = g := by simpa [blkOf] using he
    exact ht (hg.inj hg').2
theorem Own.ne_blk {w : World} {v : Value} {xs : List Value} {b g : Nat} {e t : TypeId} {cs : Array Value} (h : Own w b e v xs) (hg : Blk w g cs t) (ht : t ≠ e) : v.ownBlock ≠ some g := by
  intro he
  rcases h.2 with ⟨rfl, _⟩ | ⟨g', cap, cur, rfl, _, hg', _⟩
  · cases he
  · obtain rfl : g' = g := by simpa [Value.ownBlock] using he
    exact ht (hg.inj hg').2
theorem OneM.next {w0 w w' : World} {bm bw : Nat} {va : Value} {hb : List Nat} {hs : List (Int × Nat)} {n s : Nat} (h : OneM w0 w bm bw va hb hs n s) {k : Nat} (hk : k < hb.length)
    (hc : Chg [hb[k], bm, bw] w w') {s1 : Int} {m1 : Nat} (hh : IsHand w' hb[k] 0 s1 m1) (hs1 : St s1) (hm1 : m1 < 18446744073709551616) {n' s' : Nat} {u' : Nat} (hm : IsMem w' bm bw [n', s'] u') : OneM w0 w' bm bw va hb (hs.set k (s1, m1)) n' s' := by
  obtain ⟨u, M⟩ := h.m
  have hi := h.h.isAt k hk (by rw [h.h.len]; exact hk)
  refine ⟨⟨_, hm⟩, h.a.chg hc (fun g hg => ?_), h.h.set hk hs1 hm1 hc hh, h.n6, h.c.then hc (fun g hg => .inr ?_), h.lo⟩
  · simp at hg
    rcases hg with rfl | rfl | rfl
    · exact Own.ne_blk h.a hi (by decide)
    · exact Own.ne_blk h.a M.head (by decide)
    · exact Own.ne_blk h.a M.row (by decide)
  · simp at hg
    have := (h.h.out _ (List.getElem_mem hk)).2.2
    have := h.lo
    omega
theorem OneM.kept {w0 w w' : World} {bm bw : Nat} {va : Value} {hb : List Nat} {hs : List (Int × Nat)} {n s : Nat} (h : OneM w0 w bm bw va hb hs n s) {k : Nat} (hk : k < hb.length)
    (hc : Chg [hb[k], bm, bw] w w') {vl : Value} {xs : List Value} (q : QueN w w0.heap.size 3 vl xs) : QueN w' w0.heap.size 3 vl xs := by
  obtain ⟨u, M⟩ := h.m
  have hi := h.h.isAt k hk (by rw [h.h.len]; exact hk)
  refine q.chg hc (fun g hg => ?_)
  simp at hg
  rcases hg with rfl | rfl | rfl
  · exact QueN.ne_blk q hi (by decide)
  · exact QueN.ne_blk q M.head (by decide)
  · exact QueN.ne_blk q M.row (by decide)
theorem OneM.keep {w0 w w' : World} {bm bw : Nat} {va : Value} {hb : List Nat} {hs : List (Int × Nat)} {n s : Nat} (h : OneM w0 w bm bw va hb hs n s) (hc : Chg [] w w') : OneM w0 w' bm bw va hb hs n s := by
  obtain ⟨u, M⟩ := h.m
  exact ⟨⟨u, M.keep hc⟩, h.a.keep hc, h.h.keep hc (by simp), h.n6, h.c.then hc (by simp), h.lo⟩
theorem OneM.app {w0 w w' : World} {bm bw : Nat} {va : Value} {hb : List Nat} {hs : List (Int × Nat)} {n s : Nat} (h : OneM w0 w bm bw va hb hs n s) {vl : Value} {xs : List Value} (q : QueN w w0.heap.size 3 vl xs)
    (hc : Chg (blkOf vl).toList w w') : OneM w0 w' bm bw va hb hs n s := by
  obtain ⟨u, M⟩ := h.m
  have hn : ∀ g cs t, Blk w g cs t → t ≠ 3 → g ∉ (blkOf vl).toList := fun g cs t hb ht hm => QueN.ne_blk q hb ht (by simpa using hm)
  refine ⟨⟨u, M.chg hc (hn _ _ _ M.head (by decide)) (hn _ _ _ M.row (by decide))⟩, h.a.chg hc (fun g hg he => ?_), h.h.keep hc (fun g hg => ?_), h.n6, h.c.then hc (fun g hg => .inr (q.block (by simpa using hg)).1), h.lo⟩
  · rcases h.a.2 with ⟨rfl, _⟩ | ⟨g', cap, cur, rfl, _, hg', _⟩
    · cases he
    · obtain rfl : g' = g := by simpa [Value.ownBlock] using he
      exact hn g' cur _ hg' (by decide) hg
  · obtain ⟨k, hk, rfl⟩ := List.getElem_of_mem hg
    exact hn _ _ _ (h.h.isAt k hk (by rw [h.h.len]; exact hk)) (by decide)
theorem own_cell {w : World} {b : Nat} {e : TypeId} {ga offa n c : Nat} {xs : List Value} (h : Own w b e (.slice (some ⟨ga, offa, none⟩) n c) xs) {k : Nat} {x : Value} (hk : xs[k]? = some x) : w.cell? ⟨ga, offa + k, none⟩ = some x := by
  obtain ⟨ao, cap, hv, _, hc⟩ := h.reads
  obtain ⟨g, off, hao, h1⟩ := hc k x hk
  simp at hv
  rw [← hv.1] at hao
  simp at hao
  obtain ⟨rfl, rfl⟩ := hao
  exact h1
theorem que_head {w : World} {b : Nat} {e : TypeId} {v : Value} {x : Value} {xs : List Value} (h : Que w b e v (x :: xs)) : ∃ gl ol cl, v = .slice (some ⟨gl, ol, none⟩) (xs.length + 1) cl ∧ w.cell? ⟨gl, ol, none⟩ = some x ∧ xs.length + 1 ≤ cl ∧ cl ≤ 9223372036854775807 := by
  obtain ⟨g, off, cap, cur, rfl, h2, h3, h4, h5, h6, h7⟩ := h
  exact ⟨g, off, cap, rfl, by rw [h3.cell]; exact h7 0 x rfl, h5, h6⟩
set_option maxRecDepth 100000 in
set_option maxHeartbeats 8000000 in
theorem ticketOne_walk (w : World) (n0 : Nat) (hn0 : n0 < 18446744073709551616) (v : Value) (rows : List (List Value)) (hr : ∀ r ∈ rows, ActRow r) (hv : ReadsS w v 2 rows) :
    Calls Try.prog 3 #[.int .u64 (n0 : Nat), v] w fun e w' => e = .returned (.bool true) ∧ Chg [] w w' := by
  obtain ⟨ao, cap, rfl, hm, hcell⟩ := hv
  unfold maxLen at hm
  have HCELL := Lib.hid hcell
  have HR := Lib.hid hr
  have HN0 := Lib.hid hn0
  clear hcell hr hn0
  go_enter Try.func3, Try.ntmps3
  go_wp2_with fail
  refine (new_any 2 2 (by decide) _).mono ?_
  rintro e w1 ⟨bm, bw, rfl, M1, C1, g1, g2⟩
  replace M1 : IsMem w1 bm bw [0, 0] 0 := M1
  go_wp2_with fail
  refine (store_any bm bw _ _ _ M1 0 n0 HN0.out).mono ?_
  rw [show setA [0, 0] 0 n0 = [n0, 0] from rfl]
  rintro e w2 ⟨rfl, M2, C2⟩
  go_wp2_with fail
  refine (store_any bm bw _ _ _ M2 1 n0 HN0.out).mono ?_
  rw [show setA [n0, 0] 1 n0 = [n0, n0] from rfl]
  rintro e w3 ⟨rfl, M3, C3⟩
  have D3 : Chg [] w w3 := (C1.then C2 (fun g hg => .inr (by simp at hg; omega))).then C3 (fun g hg => .inr (by simp at hg; omega))
  have M3' : ∃ u, IsMem w3 bm bw [n0, n0] u := ⟨_, M3⟩
  have hlo : w.heap.size ≤ bm ∧ w.heap.size ≤ bw := ⟨g1, g2⟩
  clear M1 M2 M3 C1 C2 C3 g1 g2
  go_wp2_with fail
  go_loopw [6, 7] (fun x6 x7 wr => ∃ (j : Nat) (hb : List Nat), j ≤ 6 ∧ hb.length = j ∧ x7 = .int .i64 j ∧ Own wr w.heap.size 28 x6 (ptrs hb) ∧ HandsAt wr bm bw w.heap.size 0 hb (List.replicate j (0, 0)) ∧ (∀ g ∈ hb, g < wr.heap.size) ∧ (∃ u, IsMem wr bm bw [n0, n0] u) ∧ Chg [] w wr)
    (fun _ x7 _ => 6 - (intOf x7).toNat)
  case atStart => exact ⟨0, [], by omega, rfl, rfl, Own.nil _ _ _, ⟨rfl, fun k h => by simp at h, by simp, fun g h => by simp at h, fun x h => by simp at h⟩, fun g h => by simp at h, M3', D3⟩
  case round =>
    obtain ⟨j, hb, hj, hbl, rfl, O, H, hlt, ⟨u, M⟩, D⟩ := hrel
    by_cases hj6 : j < 6
    · go_wp2_with (first
        | (go_at_call 8; refine (tnew_any 0 (by omega) (by omega) _).mono ?_; rintro e w5 ⟨b, rfl, A5, C5, hb5⟩)
        | (refine wpList_app1 rfl (.tmp 27) (.tmp 29) 27 rfl w.heap.size 28 (.pointer none) 8 Try.underlying27 infoHand rfl _ _ rfl ((O.keep C5).alloc _) w5.heap.size 1 (.pointer (some ⟨b, 0, none⟩)) rfl (by rw [(Blk.new w5 #[.pointer (some ⟨b, 0, none⟩)] 28).cell]; rfl) rfl (by unfold maxLen; simp only [ptrs, List.length_map]; omega) (by simp only [ptrs, List.length_map]; omega) (by simp; have := (D.then C5 (by simp)).size; omega) ?_
           intro v6 w6 O6 C6))
      have hH := H.more D.size (M.head.lt) (M.row.lt) hb5 hlt C5 A5
      have C6' : Chg u6.ownBlock.toList (w5.alloc (.cells #[.pointer (some ⟨b, 0, none⟩)] 28)) w6 := C6
      have hn : ∀ g cs t, Blk wr g cs t → t ≠ 28 → g ∉ u6.ownBlock.toList := fun g cs t hb ht hm => Own.ne_blk O hb ht (by simpa using hm)
      have hbn : b ∉ u6.ownBlock.toList := fun hm => by have := (O.block b hm).2; omega
      have e5 : (w5.alloc (.cells #[.pointer (some ⟨b, 0, none⟩)] 28)).heap.size = w5.heap.size + 1 := by simp
      have z6 := C6'.size
      have hb5' := Blk.lt A5
      have z5 := C5.size
      go_roundw
      case rel =>
        refine ⟨j + 1, hb ++ [b], by omega, by simp [hbl], by go_num, by simpa [ptrs] using O6, ?_, fun g hg => ?_, ⟨u, ((M.keep C5).alloc _).chg C6' (hn _ _ _ M.head (by decide)) (hn _ _ _ M.row (by decide))⟩, ((D.then C5 (by simp)).alloc _).then C6' (fun g hg => .inr (O.block g hg).1)⟩
        · rw [List.replicate_succ']
          refine (hH.keep ((Chg.refl [] _).alloc _) (by simp)).keep C6' (fun g hg => ?_)
          rcases List.mem_append.1 hg with hg | hg
          · obtain ⟨k, hk, rfl⟩ := List.getElem_of_mem hg
            exact hn _ _ _ (H.isAt k hk (by rw [H.len]; exact hk)) (by decide)
          · simp at hg; subst hg; exact hbn
        · rcases List.mem_append.1 hg with hg | hg
          · have := hlt g hg; omega
          · simp at hg; omega
      case measure => simp [intOf] <;> omega
    · obtain rfl : j = 6 := by omega
      rw [show ((6 : Nat) : Int) = (6 : Int) from rfl]
      go_wp2_with fail
      go_loopw [8, 9] (fun x8 x9 wr => ∃ (i : Nat) (hs : List (Int × Nat)) (n s : Nat) (line : List Nat), i ≤ rows.length ∧ i ≤ 80 ∧ x9 = .int .i64 i ∧ OneM w wr bm bw u6 hb hs n s ∧ QueN wr w.heap.size 3 x8 (nats line) ∧ Line hs n s line)
        (fun _ x9 _ => 80 - (intOf x9).toNat)
      case atStart => exact ⟨0, List.replicate 6 (0, 0), n0, n0, [], by omega, by omega, rfl, ⟨⟨u, M⟩, O, H, hbl, D, hlo⟩, .inl ⟨rfl, rfl⟩, Line.start n0 0 HN0.out⟩
      case round =>
        clear M O H D hlt M3' D3
        obtain ⟨i, hs, n, s, line, hi, hi80, rfl, B, Q, L⟩ := hrel
        rcases (show (i < rows.length ∧ i < 80) ∨ (i < rows.length ∧ decide ((i : Int) < 80) = false) ∨ ¬ i < rows.length by simp; omega) with ⟨h1, h2⟩ | ⟨h1, h2⟩ | h1
        · obtain ⟨g, off, rfl, hc⟩ := HCELL.out i _ (List.getElem?_eq_getElem h1)
          obtain ⟨z, fr, hz0, hz1, hrow⟩ := HR.out _ (List.getElem_mem h1)
          rw [hrow] at hc
          have f0 : wr.cell? ⟨g, off + i * 2, none⟩ = some (.int .u8 z) := by
            rw [World.cell?_of_block (w := w) (B.c.block g (World.block_lt_of_cell? w _ (hc 0 _ rfl)) (by simp)), ← hc 0 _ rfl]; rfl
          have f1 : wr.cell? ⟨g, off + i * 2 + 1, none⟩ = some (.bool fr) := by
            rw [World.cell?_of_block (w := w) (B.c.block g (World.block_lt_of_cell? w _ (hc 1 _ rfl)) (by simp)), ← hc 1 _ rfl]
          obtain ⟨k, hzk, hk6⟩ : ∃ k : Nat, z % 6 = (k : Int) ∧ k < 6 := ⟨(z % 6).toNat, by omega, by omega⟩
          obtain ⟨ao2, cap2, hva, _, hca⟩ := B.a.reads
          have hk : k < hb.length := by rw [B.n6]; exact hk6
          have hkp : ∀ (j : Nat) (hj : j < hb.length), (ptrs hb)[j]? = some (.pointer (some ⟨hb[j], 0, none⟩)) := fun j hj => by simp [ptrs, hj]
          obtain ⟨ga, offa, rfl, hgarb⟩ := hca k _ (hkp k hk)
          clear hgarb
          have hpl : (ptrs hb).length = 6 := by simp [ptrs, B.n6]
          rw [hpl] at hva
          subst hva
          have hks : k < hs.length := by rw [B.h.len]; exact hk
          obtain ⟨⟨st, mine⟩, hst⟩ : ∃ p, hs[k] = p := ⟨_, rfl⟩
          have hst2 : hs[k]? = some (st, mine) := by rw [List.getElem?_eq_getElem hks, hst]
          obtain ⟨hSt, hmi⟩ : St st ∧ mine < 18446744073709551616 := by have := B.h.wf _ (List.getElem_mem hks); rw [hst] at this; exact this
          have HK := B.h.isAt k hk hks
          rw [hst] at HK
          simp only at HK
          obtain ⟨hob1, hob2, hob3⟩ := B.h.out _ (List.getElem_mem hk)
          have cA := own_cell B.a (hkp k hk)
          have hset : hs.set k (st, mine) = hs := by rw [← hst]; exact List.set_getElem_self hks
          have HSET := Lib.hid hset
          have HST2 := Lib.hid hst2
          have HKP := Lib.hid hkp
          obtain ⟨bk, hbk⟩ : ∃ b, b = hb[k] := ⟨_, rfl⟩
          rw [← hbk] at HK hob1 hob2 cA
          have HBK := Lib.hid hbk
          clear hc hrow hca hset hst2 hst hbk hpl hkp hob3
          go_upto_if 62 with (first
            | (go_at_call 9; refine (waits_any bk 0 st mine _ HK).mono ?_; rintro e w5 ⟨rfl, rfl⟩)
            | (go_at_call 10; refine (holds_any bk 0 st mine _ HK).mono ?_; rintro e w5 ⟨rfl, rfl⟩))
          go_cut [8] (fun x8 wx => ∃ (hs' : List (Int × Nat)) (n' s' : Nat) (line' : List Nat), OneM w wx bm bw (.slice (some ⟨ga, offa, none⟩) 6 cap2) hb hs' n' s' ∧ QueN wx w.heap.size 3 x8 (nats line') ∧ Line hs' n' s' line')
          case first =>
            obtain ⟨u, M⟩ := B.m
            cases fr with
            | true =>
              rcases hSt with rfl | rfl | rfl
              · have HF := Lib.hid (free_any bk 0 0 mine wr HK hmi bm bw [n, s] u M hob1 hob2)
                go_wp2_with (go_at_call 11; refine HF.out.mono ?_; rintro e w5 ⟨rfl, A5, M5, C5⟩)
                go_meet
                rw [HBK.out] at A5 C5
                have B5 := B.next hk C5 A5 (by unfold St frS; simp) (by unfold frM; simpa using hmi) (n' := n) (s' := s) M5
                have e : hs.set k (frS 0, frM 0 mine) = hs := HSET.out
                rw [e] at B5
                exact ⟨hs, n, s, line, B5, B.kept hk C5 Q, L⟩
              · have HF := Lib.hid (free_any bk 0 1 mine wr HK hmi bm bw [n, s] u M hob1 hob2)
                go_wp2_with (go_at_call 11; refine HF.out.mono ?_; rintro e w5 ⟨rfl, A5, M5, C5⟩)
                go_meet
                rw [HBK.out] at A5 C5
                have B5 := B.next hk C5 A5 (by unfold St frS; simp) (by unfold frM; simpa using hmi) (n' := n) (s' := s) M5
                have e : hs.set k (frS 1, frM 1 mine) = hs := HSET.out
                rw [e] at B5
                exact ⟨hs, n, s, line, B5, B.kept hk C5 Q, L⟩
              · obtain ⟨r, hline, hms, hL⟩ := L.head HST2.out
                subst hline
                have HF := Lib.hid (free_any bk 0 2 mine wr HK hmi bm bw [n, s] u M hob1 hob2)
                obtain ⟨gl, ol, cl, hx8, hcl, hcl1, hcl2⟩ := que_head (x := .int .i64 (k : Nat)) (xs := nats r) (Q.que (by simp [nats]))
                have HQ := Lib.hid Q
                have HL := Lib.hid hL
                subst hx8
                rw [nats_len] at hcl1 ⊢
                have hrl : r.length ≤ 6 := by have := L.length; simp at this; omega
                have hne : some gl ≠ some hb[k] ∧ some gl ≠ some bm ∧ some gl ≠ some bw := ⟨QueN.ne_blk Q (B.h.isAt k hk hks) (by decide), QueN.ne_blk Q M.head (by decide), QueN.ne_blk Q M.row (by decide)⟩
                have HNE := Lib.hid hne
                have HMS := Lib.hid hms
                clear Q hL hne hms
                go_wp2_with (first
                  | (go_at_call 11
                     refine HF.out.mono ?_
                     rintro e w5 ⟨rfl, A5, M5, C5⟩
                     have c9 : w5.cell? ⟨gl, ol, none⟩ = some (.int .i64 (k : Nat)) := (by
                       have h1 := HNE.out
                       rw [← HBK.out] at h1
                       rw [World.cell?_of_block (C5.block gl (World.block_lt_of_cell? wr _ hcl) (by simp at h1 ⊢; omega))]
                       exact hcl))
                  | (refine wpList_que_tail rfl 30 (.tmp 82) (.const (.int .i64 1)) rfl w.heap.size 3 Try.underlying30 (by kernel_rfl) .i64 rfl _ rfl (.int .i64 (k : Nat)) (nats r) (by rw [HBK.out] at C5; have := (B.kept hk C5 HQ.out).que (by simp [nats]); rw [nats_len] at this; exact this) ?_
                     intro v' q1 q2))
                go_meet
                rw [HBK.out] at A5 C5
                have B5 := B.next hk C5 A5 (by unfold St frS; simp) (by unfold frM; simp) (n' := n) (s' := (mine + 1) % 18446744073709551616) M5
                exact ⟨_, n, _, r, B5, .inr q1, HL.out⟩
            | false =>
              rcases hSt with rfl | rfl | rfl
              · obtain ⟨hL, hni⟩ := L.take HST2.out
                have HF := Lib.hid (step_any bk 0 0 mine wr HK (by simp [St]) hmi bm bw [n, s] u M hob1 hob2)
                have HL := Lib.hid hL
                have hll : (nats line).length ≤ 6 := by rw [nats_len]; exact L.length
                have hnn : n < 18446744073709551616 := by rw [L.next]; exact Nat.mod_lt _ (by omega)
                obtain ⟨a0, hd⟩ : ∃ a0 : Nat, (nats line ++ [Value.int .i64 (k : Nat)])[0]? = some (.int .i64 (a0 : Nat)) := by
                  cases line with
                  | nil => exact ⟨k, rfl⟩
                  | cons x y => exact ⟨x, rfl⟩
                have HD := Lib.hid hd
                have HQ := Lib.hid Q
                have HNN := Lib.hid hnn
                have hbw2 : w.heap.size ≤ wr.heap.size := B.c.size
                clear hL hd Q hnn
                rcases (show ((a0 : Int) == (k : Int)) = true ∨ ((a0 : Int) == (k : Int)) = false by cases h : ((a0 : Int) == (k : Int)); exact .inr rfl; exact .inl rfl) with e0 | e0
                all_goals
                  go_wp2_with (first
                    | (go_at_call 12
                       refine HF.out.mono ?_
                       rw [show decide (stS 0 [n, s] 0 mine = 2) = false from rfl]
                       rintro e w5 ⟨rfl, A5, M5, C5⟩
                       rw [HBK.out] at A5 C5
                       have Q5 := B.kept hk C5 HQ.out
                       have z5 := C5.size)
                    | (refine wpList_quen_app rfl (.tmp 96) (.tmp 98) 30 rfl w.heap.size 3 (.int .i64 0) 8 Try.underlying30 infoInt rfl _ (nats line) rfl (Q5.keep ((Chg.refl _ w5).alloc (.cells #[.int .i64 (k : Nat)] 3))) w5.heap.size 1 (.int .i64 (k : Nat)) rfl (by rw [(Blk.new w5 #[.int .i64 (k : Nat)] 3).cell]; rfl) rfl (by unfold maxLen; omega) (by omega) (by simp; omega) ?_
                       intro v7 w7 Q7 C7 L7
                       obtain ⟨y, ys, hys⟩ : ∃ y ys, nats line ++ [Value.int .i64 (k : Nat)] = y :: ys := ⟨_, _, (List.cons_head_tail (by simp)).symm⟩
                       have hy : y = .int .i64 (a0 : Nat) := (by have := HD.out; rw [hys] at this; simpa using this)
                       have Q7' := Q7
                       rw [hys, hy] at Q7'
                       obtain ⟨gl, ol, cl, hv7, hcl, hcl1, hcl2⟩ := que_head Q7'
                       have hyl : ys.length ≤ 6 := (by have := congrArg List.length hys; simp at this; omega)
                       clear Q7' hy hys
                       subst hv7))
                  go_meet
                  have B5 := B.next hk C5 A5 (by unfold St stS; simp) (by unfold Bosun.stM; exact HNN.out) (n' := (n + 1) % 18446744073709551616) (s' := s) M5
                  have B7 := (B5.keep ((Chg.refl _ w5).alloc (.cells #[.int .i64 (k : Nat)] 3))).app (Q5.keep ((Chg.refl _ w5).alloc (.cells #[.int .i64 (k : Nat)] 3))) C7
                  exact ⟨_, _, s, line ++ [k], B7, .inr (by rw [nats_snoc]; exact Q7), HL.out⟩
              · obtain ⟨a, r, hline, hiff, hL⟩ := L.wait HST2.out
                subst hline
                have HF := Lib.hid (step_any bk 0 1 mine wr HK (by simp [St]) hmi bm bw [n, s] u M hob1 hob2)
                obtain ⟨gl, ol, cl, hx8, hcl, hcl1, hcl2⟩ := que_head (x := .int .i64 (a : Nat)) (xs := nats r) (Q.que (by simp [nats]))
                have HQ := Lib.hid Q
                have HL := Lib.hid hL
                subst hx8
                rw [nats_len] at hcl1 ⊢
                have hrl : r.length ≤ 6 := by have := L.length; simp at this; omega
                have hne : some gl ≠ some hb[k] ∧ some gl ≠ some bm ∧ some gl ≠ some bw := ⟨QueN.ne_blk Q (B.h.isAt k hk hks) (by decide), QueN.ne_blk Q M.head (by decide), QueN.ne_blk Q M.row (by decide)⟩
                have HNE := Lib.hid hne
                clear Q hL hne
                obtain ⟨q, hq, hqs⟩ : ∃ q : Bool, decide (stS 0 [n, s] 1 mine = 2) = q ∧ (((a : Int) == (k : Int)) = q) := by
                  by_cases h : s = mine
                  · exact ⟨true, by rw [show stS 0 [n, s] 1 mine = 2 from if_pos h]; rfl, by rw [hiff.1 h]; simp⟩
                  · refine ⟨false, by rw [show stS 0 [n, s] 1 mine = 1 from if_neg h]; rfl, ?_⟩
                    have : ¬ a = k := fun e => h (hiff.2 e)
                    simp only [beq_eq_false_iff_ne, ne_eq]
                    omega
                rw [hq] at HF
                clear hq hiff
                cases q
                all_goals
                  go_wp2_with (first
                    | (go_at_call 12
                       refine HF.out.mono ?_
                       rintro e w5 ⟨rfl, A5, M5, C5⟩
                       have c9 : w5.cell? ⟨gl, ol, none⟩ = some (.int .i64 (a : Nat)) := (by
                         have h1 := HNE.out
                         rw [← HBK.out] at h1
                         rw [World.cell?_of_block (C5.block gl (World.block_lt_of_cell? wr _ hcl) (by simp at h1 ⊢; omega))]
                         exact hcl)))
                  go_meet
                  rw [HBK.out] at A5 C5
                  have B5 := B.next hk C5 A5 (stS_St (.inr (.inl rfl))) (by unfold Bosun.stM; simpa using hmi) (n' := n) (s' := s) M5
                  have Q5 := B.kept hk C5 HQ.out
                  rw [nats_len] at Q5
                  exact ⟨_, n, s, a :: r, B5, Q5, HL.out⟩
              · obtain ⟨r, hline, hms, hL⟩ := L.head HST2.out
                subst hline
                have HF := Lib.hid (step_any bk 0 2 mine wr HK (by simp [St]) hmi bm bw [n, s] u M hob1 hob2)
                obtain ⟨gl, ol, cl, hx8, hcl, hcl1, hcl2⟩ := que_head (x := .int .i64 (k : Nat)) (xs := nats r) (Q.que (by simp [nats]))
                have HQ := Lib.hid Q
                have HLL := Lib.hid L
                subst hx8
                rw [nats_len] at hcl1 ⊢
                have hrl : r.length ≤ 6 := by have := L.length; simp at this; omega
                have hne : some gl ≠ some hb[k] ∧ some gl ≠ some bm ∧ some gl ≠ some bw := ⟨QueN.ne_blk Q (B.h.isAt k hk hks) (by decide), QueN.ne_blk Q M.head (by decide), QueN.ne_blk Q M.row (by decide)⟩
                have HNE := Lib.hid hne
                clear Q hL hne hms
                go_wp2_with (first
                  | (go_at_call 12
                     refine HF.out.mono ?_
                     rw [show decide (stS 0 [n, s] 2 mine = 2) = true from rfl]
                     rintro e w5 ⟨rfl, A5, M5, C5⟩
                     have c9 : w5.cell? ⟨gl, ol, none⟩ = some (.int .i64 (k : Nat)) := (by
                       have h1 := HNE.out
                       rw [← HBK.out] at h1
                       rw [World.cell?_of_block (C5.block gl (World.block_lt_of_cell? wr _ hcl) (by simp at h1 ⊢; omega))]
                       exact hcl)))
                go_meet
                rw [HBK.out] at A5 C5
                have B5 := B.next hk C5 A5 (by unfold St stS; simp) (by unfold Bosun.stM; simpa using hmi) (n' := n) (s' := s) M5
                have e : hs.set k (stS 0 [n, s] 2 mine, stM 0 [n, s] 2 mine) = hs := HSET.out
                rw [e] at B5
                have Q5 := B.kept hk C5 HQ.out
                rw [nats_len] at Q5
                exact ⟨hs, n, s, k :: r, B5, Q5, HLL.out⟩
          case rest =>
            obtain ⟨hs', n', s', line', B', Q', L'⟩ := hcut
            obtain ⟨wy, hwy⟩ : ∃ x : Nat, x = 0 := ⟨_, rfl⟩
            clear hwy
            have HH' := Lib.hid L'.holders
            have hl6 := L'.len
            have HB' := Lib.hid B'
            clear HK cA f0 f1 HSET HST2 HBK hks
            go_wp2_with fail
            go_loopw [14, 15] (fun x14 x15 wq => ∃ j : Nat, j ≤ 6 ∧ x15 = .int .i64 j ∧ x14 = .int .i64 (holders hs' j : Nat) ∧ OneM w wq bm bw (.slice (some ⟨ga, offa, none⟩) 6 cap2) hb hs' n' s' ∧ QueN wq w.heap.size 3 u8 (nats line'))
              (fun _ x15 _ => 6 - (intOf x15).toNat)
            case atStart => exact ⟨0, by omega, rfl, rfl, B', Q'⟩
            case round =>
              obtain ⟨j, hj, rfl, rfl, B2, Q2⟩ := hrel
              have hc1 := (HH'.out j).1
              by_cases hj6 : j < 6
              · have hjb : j < hb.length := by rw [B2.n6]; exact hj6
                have hjs : j < hs'.length := by rw [hl6]; exact hj6
                have cB := own_cell B2.a (HKP.out j hjb)
                have HJ := B2.h.isAt j hjb hjs
                have hnext : holders hs' (j + 1) = holders hs' j + (if hs'[j].1 = 2 then 1 else 0) := by
                  show holders hs' j + (if (hs'.getD j (0, 0)).1 = 2 then 1 else 0) = _
                  rw [List.getD_eq_getElem?_getD, List.getElem?_eq_getElem hjs]; rfl
                obtain ⟨⟨s2, m2⟩, hs2⟩ : ∃ p, hs'[j] = p := ⟨_, rfl⟩
                rw [hs2] at hnext HJ
                simp only at hnext HJ
                obtain ⟨bj, hbj⟩ : ∃ b, b = hb[j] := ⟨_, rfl⟩
                rw [← hbj] at HJ cB
                obtain ⟨c, hc⟩ : ∃ c, c = holders hs' j := ⟨_, rfl⟩
                rw [← hc] at hc1 hnext ⊢
                clear hbj hs2 hc
                by_cases he : s2 = 2
                · subst he
                  rw [if_pos rfl] at hnext
                  have HN := Lib.hid hnext
                  clear hnext
                  go_wp2_with (go_at_call 10; refine (holds_any bj 0 2 m2 _ HJ).mono ?_; rintro e w5 ⟨rfl, rfl⟩)
                  go_roundw
                  case rel => exact ⟨j + 1, by omega, by go_num, by rw [HN.out]; go_num, B2, Q2⟩
                  case measure => simp [intOf] <;> omega
                · rw [if_neg he] at hnext
                  have HN := Lib.hid hnext
                  have e2 : (s2 == 2) = false := by simpa using he
                  clear hnext he
                  go_wp2_with (go_at_call 10; refine (holds_any bj 0 s2 m2 _ HJ).mono ?_; rintro e w5 ⟨rfl, rfl⟩)
                  go_roundw
                  case rel => exact ⟨j + 1, by omega, by go_num, by rw [HN.out]; rfl, B2, Q2⟩
                  case measure => simp [intOf] <;> omega
              · obtain rfl : j = 6 := by omega
                obtain ⟨c, hc⟩ : ∃ c, c = holders hs' 6 := ⟨_, rfl⟩
                rw [← hc] at hc1 ⊢
                clear hc
                go_wp2_with fail
                go_roundw
                case rel => exact ⟨i + 1, hs', n', s', line', by omega, by omega, by go_num, B2, Q2, L'⟩
                case measure => simp [intOf] <;> omega
        all_goals
          go_wp2_with fail
          refine (awake_any _).mono ?_
          rintro e w7 ⟨rfl, C7⟩
          go_wp2_with fail
          go_ret
          exact ⟨rfl, B.c.then C7 (by simp)⟩
namespace ticketOne
open Go.ChangeShapes Go.WideShapes Go.ChangeAt
theorem own : ownKnob Try.prog.godebug = none := by kernel_rfl
theorem laidOut : laidOutB Try.prog = true := by kernel_rfl

set_option maxRecDepth 100000 in
theorem lifted (os : Os) (started : os.Started) (H : Type) (enc : TypeId × Value → H) :
    ReturnsInHanded {} Try.checked os 3 .any (Rows.ticketOneSpec.pre6 enc Try.prog Try.f3 Rows.ticketOneRow.domain false) (Rows.ticketOneSpec.post enc Try.prog Try.f3 false true false false) := by
  refine returnsInHanded_of_change (C := Try.checked) own started (by kernel_rfl) Try.func3
    (ChangeSpec.witness6 (enc := enc) (C := Try.checked) false ⟨#[], #[.int .u64 0, .slice none 0 0], []⟩ 8 (by kernel_rfl) (by kernel_rfl) (by kernel_rfl) (by kernel_rfl)) ?_
  intro W base args ds gs before hval0 hW hcnd _
  have hval : ∀ (j : Nat) t v, Try.f3.params[j]? = some t → args[j]? = some v → Value.okWide Try.prog W .any base t v := hval0
  have hW' := hW
  obtain ⟨p, q, hA0, hV, rfl, hfz, hnd⟩ := hW
  have hA : DataW.TrodAll enc Try.prog W 0 (fun _ => true) true Try.f3.params.toList args.toList ds p := hA0
  rw [Try.params3] at hA hval
  obtain ⟨v0, vs0, d0, ds0, p0, q0, hargs, rfl, rfl, h0, r0⟩ := trodAll_cons hA
  obtain ⟨v1, vs1, d1, ds1, p1, q1, rfl, rfl, rfl, h1, r1⟩ := trodAll_cons r0
  obtain ⟨rfl, rfl, rfl⟩ := trodAll_nil r1
  obtain rfl : args = #[v0, v1] := by cases args; simp_all
  obtain ⟨rfl, rfl⟩ := trodVars_none hV
  obtain ⟨a0, rfl, rfl, rfl, w0⟩ := open_int Try.underlying22 (hval 0 22 v0 rfl rfl) h0
  obtain ⟨n0, rfl, hn0⟩ := nat_u64 w0
  obtain ⟨a1, len1, cap1, rfl⟩ := okWide_slice Try.underlying23 (hval 1 23 v1 rfl rfl)
  have k1 := h1
  have lt1 : ∀ x ∈ p1, x.block < W.heap.size := by obtain ⟨m, hm⟩ := k1; exact DataW.trod_lt m _ _ _ hm
  obtain ⟨l1, hl1, hr1⟩ := open_elems (Q := ActRow) Try.underlying23 2 (by decide) (by kernel_rfl) (fun fuel cs y hy => ActRow_of fuel cs y hy) h1
  clear hA0 hval0
  simp only [List.append_nil] at hW'
  refine (ticketOne_walk W n0 hn0 _ l1 hl1 hr1).mono fun e W' ⟨he, hg⟩ => ?_
  subst he
  exact ⟨_, rfl, _, _, _, [], _, [], hW', trodAll_mk1 (shut_bool Try.underlying4 _), (trodAll_cons_mk (shut_int Try.underlying22 w0) (trodAll_cons_mk (Below.trod laidOut (by kernel_rfl) (of_decide_eq_true (by kernel_rfl)) k1 hg.below lt1) trodAll_mk0)), rfl, hg.below.frame _, fun h => by cases h⟩

theorem over : Rows.ticketOneRow.holds Try.pinned (OpenSpec.ofChange Rows.ticketOneSpec) :=
  OpenClaim.holds_of_wide 3 Try.f3 rfl rfl rfl rfl rfl rfl rfl ⟨rfl, rfl, rfl, rfl, rfl⟩ rfl rfl rfl rfl rfl (by kernel_rfl) Try.func3 (by kernel_rfl)
    (of_decide_eq_true (by kernel_rfl)) (by unfold Func.isWrapper; first | (rw [if_pos (by decide +kernel)]; kernel_rfl) | (rw [if_neg (by decide +kernel)]; exact ⟨rfl, rfl⟩))
    (fun os started H enc _ => lifted os started H enc)
end ticketOne

theorem ticketOne_holds : Rows.TicketOneSaid := ticketOne.over
#print axioms ticketOne_holds
end Go.Proofs.Ytifpfmoakgkdpaa
