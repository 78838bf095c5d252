/- sets: told: a range that may break. -/
import Derived.Test.YtlbgabbgfgcppaaDoorEach2
import Derived.Test.YtlbgabbgfgcppaaDoorLaw
import Derived.RangeFuncBox
import Derived.Maps.AppendAt
import Derived.RegionIn
namespace Go.Proofs.YtlbgabbgfgcppaaDoor
open Go.RowKit Go.Shelf Bosun
attribute [local go_sem] Oper.semAt_some
theorem each_not_nil (a : Option Addr) (w : World) : (binOp .eql 42 (.func (.func 40) #[] #[.pointer a]) .nilFunc).run Tryd.prog w = .ok (.bool false) w := by kernel_rfl
/-- What the box holds when those have come: at most so many of them. -/
def toldF (k : Nat) (l : List (Fin 64)) : List Value := nats ((l.map Fin.val).take k)
theorem toldF_len (k : Nat) (l : List (Fin 64)) (h : l.length ≤ k) : (toldF k l).length = l.length := by unfold toldF; rw [nats_len, List.length_take, List.length_map]; omega
theorem toldF_full (k : Nat) (l : List (Fin 64)) (h : k ≤ l.length) : (toldF k l).length = k := by unfold toldF; rw [nats_len, List.length_take, List.length_map]; omega
theorem toldF_snoc (k : Nat) (l : List (Fin 64)) (x : Fin 64) (h : l.length < k) : toldF k (l ++ [x]) = toldF k l ++ [.int .i64 ((x.val : Nat) : Int)] := by
  unfold toldF
  rw [List.take_of_length_le (by simp; omega), List.take_of_length_le (by simp; omega), List.map_append, List.map_cons, List.map_nil, nats_snoc]
theorem toldF_stop (k : Nat) (l : List (Fin 64)) (x : Fin 64) (h : k ≤ l.length) : toldF k (l ++ [x]) = toldF k l := by
  unfold toldF
  rw [List.map_append, List.take_append_of_le_length (by simpa using h)]
theorem infoInt' : (Tryd.prog.info? 3).map (fun i => (i.zero, i.size, i.bytes)) = some (some (.int .i64 0), 1, 8) := by kernel_rfl
set_option maxRecDepth 100000 in
set_option maxHeartbeats 4000000 in
theorem told_any (s : Nat) (hs : s < 18446744073709551616) (k : Nat) (hk : k ≤ 255) (w : World) (hT : TabW w) :
    Calls Tryd.prog 7 #[.int .u64 (s : Nat), .int .i64 (k : Nat)] w fun e w' => ∃ v, e = .returned (.tuple #[v, .bool true]) ∧ Reads w' v (nats ((members s).take k)) ∧ Chg [] w w' := by
  have HE := Lib.hid (fun w => callsIn_wide (n := 5) |>.2 (each_any s w))
  have hbp : 0 < w.heap.size := World.block_lt_of_cell? w _ (hT 0 (by decide))
  have hml := members_le s
  refine (callsIn_wide (n := 6)).1 ?_
  refine callsIn_of_wp_marks Tryd.func7 rfl trivial ?_ rfl
  simp only [Tryd.ntmps7, List.size_toArray, List.length_cons, List.length_nil, Nat.reduceAdd, Nat.reduceSub, Array.replicate_succ, Array.replicate_zero, List.push_toArray, List.append_toArray, List.nil_append, List.cons_append]
  have HEQ := each_not_nil (some ⟨w.heap.size + 1, 0, none⟩)
  gi_wp2_with (refine ⟨trivial, ?_⟩; gi_at_call 28; refine (HE.out _).mono ?_; rintro e w2 ⟨rfl, rfl⟩)
  clear HEQ
  obtain ⟨i0, hi, hz0, hz1, hz2⟩ := info_parts infoInt'
  obtain ⟨b, hbe⟩ : ∃ b, b = w.heap.size := ⟨_, rfl⟩
  generalize hW0 : (((w.alloc (.cells #[.int .i64 (k : Nat)] 3)).alloc (.cells #[.int .u64 (s : Nat)] 22)).alloc (.cells #[.slice none 0 0] 23)) = W0
  have z0 : W0.heap.size = b + 3 := by rw [← hW0, hbe]; simp
  have B0 : Below b w W0 := by
    rw [← hW0, hbe]
    exact (((Below.refl _ w).alloc (Nat.le_refl _) _).alloc (by simp) _).alloc (by simp; omega) _
  have q0 := Boxed.new w 3 (.int .i64 (k : Nat))
  have q1 := Boxed.new (w.alloc (.cells #[.int .i64 (k : Nat)] 3)) 22 (.int .u64 (s : Nat))
  have q2 := Boxed.new ((w.alloc (.cells #[.int .i64 (k : Nat)] 3)).alloc (.cells #[.int .u64 (s : Nat)] 22)) 23 (.slice none 0 0)
  simp only [World.size_alloc] at q1 q2
  have q0' := (q0.alloc (.cells #[.int .u64 (s : Nat)] 22)).alloc (.cells #[.slice none 0 0] 23)
  have q1' := q1.alloc (.cells #[.slice none 0 0] 23)
  rw [hW0, ← hbe] at q0' q1' q2
  have k0 : W0.cell? ⟨b, 0, none⟩ = some (.int .i64 (k : Nat)) := q0'.cell
  have k1 : W0.cell? ⟨b + 1, 0, none⟩ = some (.int .u64 (s : Nat)) := q1'.cell
  have T0 : TabW W0 := TabW.below (by omega) B0 hT
  rw [← hbe]
  have hbH := Lib.hid hbe
  have hbP : 0 < b := by omega
  have hbL : w.heap.size ≤ b := by omega
  have hbG : b ≤ w.heap.size := by omega
  clear hbe hW0 HE q0 q1 q0' q1'
  have HOwn : OwnFrom W0.heap.size (fun (pre : List (Fin 64)) W => (∃ v, Boxed W (b + 1 + 1) 23 v ∧ W.ownsRow (b + 1) 3 1 v (toldF k pre).length (toldF k pre) ∧ True) ∧ Below (b + 1) W0 W) :=
    OwnFrom.and (Own.from (holdsRow_own (b + 1) (b + 1 + 1) 23 3 1 (fun pre => (toldF k pre).length) (fun pre => toldF k pre) (fun _ _ => True)) _) (ownFrom_below (by omega) (by omega))
  refine wpIn_rangeFunc_ownF rfl (by omega) (gf := 40) (lb := #[.pointer (some ⟨b + 1, 0, none⟩)]) rfl trivial (enters_of Tryd.func40 (by kernel_rfl) rfl)
    (each2_stops 5 (by omega) (b + 1) (b + 1) (by omega) s hs W0 (by omega) (by omega) k1 T0) belowK_t (belowK_b (by omega)) (Below.refl _ _) (fun _ => rfl)
    (fun pre W => pre.length ≤ k ∧ (∃ v, Boxed W (b + 1 + 1) 23 v ∧ W.ownsRow (b + 1) 3 1 v (toldF k pre).length (toldF k pre) ∧ True) ∧ Below (b + 1) W0 W)
    (fun c pre W => c = .exit 0 ∧ pre.length = k + 1 ∧ (∃ v, Boxed W (b + 1 + 1) 23 v ∧ W.ownsRow (b + 1) 3 1 v (toldF k pre).length (toldF k pre) ∧ True) ∧ Below (b + 1) W0 W)
    (fun s W W' row hs hg hr => ⟨hs.1, HOwn s W W' row hs.2 hg hr⟩)
    (fun c s W W' row hs hg hr => ⟨hs.1, hs.2.1, HOwn s W W' row hs.2.2 hg hr⟩)
    ⟨Nat.zero_le _, ⟨_, q2, by rw [show toldF k [] = [] by simp [toldF, nats]]; exact World.ownsRow_nil _ _ _ _, trivial⟩, Below.refl _ _⟩
    (fun x => { tmps := #[.int .u64 (s : Nat), .int .i64 (k : Nat), undef, .pointer (some ⟨b, 0, none⟩), .slice none 0 0, .bool false, .func (.func 40) #[] #[.pointer (some ⟨b + 1, 0, none⟩)], .pointer (some ⟨b + 1 + 1, 0, none⟩), .int .i64 ((x.val : Nat) : Int), .int .u64 (s : Nat),
      .func (.func 40) #[] #[.pointer (some ⟨b + 1, 0, none⟩)], .func (.func 40) #[] #[.pointer (some ⟨b + 1, 0, none⟩)], .bool false, .func (.func 40) #[] #[.pointer (some ⟨b + 1, 0, none⟩)], .int .i64 ((x.val : Nat) : Int), undef, undef, undef, undef, undef, undef, undef, undef, undef], defers := [] }) ?assign ?body ?done ?stop
  case assign =>
    intro l x W K hK
    gi_wp2
    exact hK
  case body =>
    rintro lp pre x W ⟨hle, ⟨v, hv, hrow, _⟩, hB⟩ hlt
    have hn1 : 1 ≤ 6 - 1 - 1 := by decide
    have hk0 : W.cell? ⟨b, 0, none⟩ = some (.int .i64 (k : Nat)) := (hB.cell (p := ⟨b, 0, none⟩) (by simp)).trans k0
    have hc := hv.cell
    have hWs := hB.size
    have hfl := toldF_len k pre hle
    clear k0 k1 B0 T0 q2 HOwn
    by_cases hd : pre.length < k
    · have hsn := toldF_snoc k pre x hd
      have hsn2 := toldF_len k (pre ++ [x]) (by simp; omega)
      obtain ⟨ao, cp, rfl⟩ : ∃ ao cp, v = .slice ao pre.length cp := by
        rcases hrow.2 with ⟨hv0, h0⟩ | ⟨g, cap, cur, hv0, _⟩
        · exact ⟨none, 0, by rw [hv0]; rw [hfl] at h0; rw [h0]⟩
        · exact ⟨_, _, by rw [hv0, hfl]⟩
      have hd' : ((pre.length : Nat) : Int) < (k : Int) := by omega
      have HSN := Lib.hid hsn
      have HSN2 := Lib.hid hsn2
      have HFL := Lib.hid hfl
      clear hsn hsn2 hfl
      gi_wp2_with (gi_at_builtin; refine wpListIn_append_own _ rfl _ _ 23 rfl (b + 1) 3 i0 (.int .i64 0) 1 8 Tryd.underlying23 hi hz0 hz1 hz2 rfl (by decide) _ _ _ rfl (hrow.alloc _) ⟨W.heap.size, 0, none⟩ 1 1 [.int .i64 ((x.val : Nat) : Int)] rfl rfl (cell_one_new _ _ _) (by simp [Value.oneCell']) (by rw [HFL.out]; unfold maxLen; omega) (by rw [HFL.out]; omega) (by simp; omega) ?_; intro v' w1 hown' hgrow _; obtain ⟨g', cap', rfl⟩ := ownsRow_succ hown'; obtain ⟨hv1, hv2, hr2, hk2, hb2⟩ := hv.appended (by decide) hrow (by omega) (by omega) hown' hgrow; have hc1 := hv1.cell; have hf1 := hv1.frozen)
      exact ⟨hk2, hb2, by simp; omega, ⟨_, hv2, by rw [HSN.out, List.length_append]; exact hr2, trivial⟩, hB.trans hb2⟩
    · have hst := toldF_stop k pre x (by omega)
      obtain ⟨ao, cp, rfl⟩ : ∃ ao cp, v = .slice ao pre.length cp := by
        rcases hrow.2 with ⟨hv0, h0⟩ | ⟨g, cap, cur, hv0, _⟩
        · exact ⟨none, 0, by rw [hv0]; rw [hfl] at h0; rw [h0]⟩
        · exact ⟨_, _, by rw [hv0, hfl]⟩
      have hd' : (k : Int) ≤ ((pre.length : Nat) : Int) := by omega
      have HST := Lib.hid hst
      clear hst hfl
      gi_wp2_with fail
      exact ⟨KeepsOthers.refl _, rfl, by simp; omega, ⟨_, hv, by rw [HST.out]; exact hrow, trivial⟩, hB⟩
  case done =>
    rintro D ys W hD hys ⟨hle, ⟨v, hv, hrow, _⟩, hB⟩ hK
    have hc := hv.cell
    have HYS := Lib.hid hys
    clear k0 k1 hys
    gi_wp2_with fail
    refine ⟨by simp, .inl ⟨_, _, rfl, run_takeDeferred hK, ?_⟩⟩
    refine ⟨_, results_tmp2 rfl _ _ _, v, rfl, ?_, Chg.of_below (by rw [← hbH.out]; exact (B0.trans (hB.mono (by omega))).trans (belowK_b (w := W0) (by omega) W D _ _ hD hK rfl rfl))⟩
    have ho : Bosun.Own (W.putObj D (.deferred none)) (b + 1) 3 v (toldF k ys) := ownsRow_putObj hrow _ hK rfl
    have hr := ho.reads
    unfold toldF at hr
    rw [HYS.out] at hr
    exact hr
  case stop =>
    rintro D c pre W hD hSp ⟨rfl, hlen, ⟨v, hv, hrow, _⟩, hB⟩ hK
    have hc := hv.cell
    have hpre : (pre.map Fin.val).take k = (members s).take k := by
      obtain ⟨t, ht⟩ := hSp
      rw [← ht, List.take_append_of_le_length (by simp; omega)]
    have HPRE := Lib.hid hpre
    clear k0 k1 hpre hSp
    gi_wp2_with fail
    refine ⟨by simp, .inl ⟨_, _, rfl, run_takeDeferred hK, ?_⟩⟩
    refine ⟨_, results_tmp2 rfl _ _ _, v, rfl, ?_, Chg.of_below (by rw [← hbH.out]; exact (B0.trans (hB.mono (by omega))).trans (belowK_b (w := W0) (by omega) W D _ _ hD hK rfl rfl))⟩
    have ho : Bosun.Own (W.putObj D (.deferred none)) (b + 1) 3 v (toldF k pre) := ownsRow_putObj hrow _ hK rfl
    have hr := ho.reads
    unfold toldF at hr
    rw [HPRE.out] at hr
    exact hr
end Go.Proofs.YtlbgabbgfgcppaaDoor
