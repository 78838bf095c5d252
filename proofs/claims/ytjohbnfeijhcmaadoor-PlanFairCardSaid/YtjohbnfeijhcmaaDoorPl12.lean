/- plan: scripts that came in, opened; the walk of PlanBytes. -/
import Derived.Test.YtjohbnfeijhcmaaDoorPl11
import Derived.Test.YtjohbnfeijhcmaaDoorPl7
import Derived.ProofKit
import Derived.OpenShut
import Derived.Deep.RegionHeld3
namespace Go.Proofs.YtjohbnfeijhcmaaDoor
open Go.RowKit Bosun Go.ChangeShapes Go.WideShapes Go.ChangeAt
/-- The cells of a api.Entry. -/
def entRow (r : List Value) : Prop := ∃ (cpu : Int) (tick : Bool) (draw : Nat), -9223372036854775808 ≤ cpu ∧ cpu ≤ 9223372036854775807 ∧ draw < 18446744073709551616 ∧ r = [.int .i64 cpu, .bool tick, .int .u64 draw]
theorem entRow_of {H : Type} {enc : TypeId × Value → H} {W : World} (fuel : Nat) (cs : List Value) (y : DataW H × List MemPlace) (h : DataW.trod enc Tryd.prog W 0 (fun _ => true) true fuel 36 cs = some y) : entRow cs ∧ cs.length = 3 := by
  obtain ⟨ys, m, _, _, hl, hl2, hf⟩ := Go.DataW.trod_struct Tryd.underlying36 h
  have hc_int : Tryd.prog.cellsOf 3 = 1 := by kernel_rfl
  have hc_bool : Tryd.prog.cellsOf 4 = 1 := by kernel_rfl
  have hc_uint64 : Tryd.prog.cellsOf 34 = 1 := by kernel_rfl
  have hcl : cs.length = 3 := by rw [hl]; kernel_rfl
  refine ⟨?_, hcl⟩
  clear h hl
  match cs, hcl with
  | [c0, c1, c2], _ =>
    match ys, hl2 with
    | [y0, y1, y2], _ =>
      have h0 := hf 0 _ rfl
      have h1 := hf 1 _ rfl
      have h2 := hf 2 _ rfl
      clear hf
      simp [hc_int, hc_bool, hc_uint64] at h0 h1 h2
      obtain ⟨z0, e0, _, s0⟩ := Go.DataW.trod_int Tryd.underlying3 h0
      have b0 := bounds_i64 s0
      obtain rfl : c0 = .int .i64 z0 := by simpa using e0
      obtain ⟨m1, e1, _⟩ := Go.DataW.trod_bool Tryd.underlying4 h1
      obtain rfl : c1 = .bool m1 := by simpa using e1
      obtain ⟨z2, e2, _, s2⟩ := Go.DataW.trod_int Tryd.underlying34 h2
      obtain ⟨m2, rfl, b2⟩ := nat_u64 s2
      obtain rfl : c2 = .int .u64 (m2 : Nat) := by simpa using e2
      exact ⟨z0, m1, m2, b0.1, b0.2, b2, rfl⟩
theorem rows_ents (rows : List (List Value)) (h : ∀ r ∈ rows, entRow r) : ∃ l : List Ent, rows = l.map Ent.cells ∧ ∀ e ∈ l, e.small ∧ -9223372036854775808 ≤ e.cpu ∧ e.cpu ≤ 9223372036854775807 := by
  induction rows with
  | nil => exact ⟨[], rfl, by simp⟩
  | cons r rows ih =>
    obtain ⟨l, hl, hs⟩ := ih fun r hr => h r (by simp [hr])
    obtain ⟨c, t, d, h1, h2, h3, rfl⟩ := h r (by simp)
    refine ⟨⟨c, t, d⟩ :: l, by rw [hl]; rfl, fun e he => ?_⟩
    rcases List.mem_cons.1 he with rfl | he
    · exact ⟨h3, h1, h2⟩
    · exact hs e he
section
variable {P : Program} {H : Type} {enc : TypeId × Value → H} {W : World}
theorem open_cap_elems {T E : TypeId} (hT : P.underlying T = some (.slice E))
    {a : Option Addr} {len cap : Nat} {d : DataW H} {p : List MemPlace} (h : DataW.Trod enc P W 0 (fun _ => true) true T (.slice a len cap) d p) : len ≤ cap := by
  obtain ⟨fuel, hf⟩ := h
  rcases DataW.trod_slice hT hf with ⟨hcs, _⟩ | ⟨x, l, c, elems, rest, m, _, hcs, _, _, hl, hm, hlen, hel, _, _⟩
  · simp [Value.cells] at hcs
    omega
  · simp [Value.cells] at hcs
    omega
end
theorem ba_ne (T : ByteArray) : (T != T) = false := by
  cases T; rename_i a; show (!(a == a)) = false; simp
theorem rdE_of_open {w : World} {ao : Option Addr} {len cap : Nat} {rows : List (List Value)} (hr : ReadsS w (.slice ao len cap) 3 rows) (h : ∀ r ∈ rows, entRow r) (hc : len ≤ cap) :
    ∃ l : List Ent, RdE w (.slice ao len cap) l ∧ ∀ e ∈ l, e.small ∧ -9223372036854775808 ≤ e.cpu ∧ e.cpu ≤ 9223372036854775807 := by
  obtain ⟨l, rfl, hs⟩ := rows_ents rows h
  exact ⟨l, ⟨hr, fun _ _ _ he => by simp at he; omega⟩, hs⟩
set_option maxRecDepth 6000 in
set_option maxHeartbeats 8000000 in
theorem planBytes_walk (w : World) (v : Value) (l : List Ent) (hr : RdE w v l) (hs : ∀ e ∈ l, e.small) (n : Int) :
    Calls Tryd.prog 4 #[v, .int .i64 n] w fun e w' => e = .returned (.bool true) ∧ Chg [] w w' := by
  obtain ⟨L, hL⟩ : ∃ L, L = l.take 60 := ⟨_, rfl⟩
  have hLl : L.length ≤ 60 := by rw [hL, List.length_take]; omega
  have hLs : ∀ e ∈ L, e.small := fun e he => hs e (by rw [hL] at he; exact List.mem_of_mem_take he)
  have HF := Lib.hid (few_any v l w hr)
  rw [← hL] at HF
  have HE := Lib.hid (fun v w (h : ReadsE w v L) => encode_gen v L w h (by omega) hLs)
  have HR := Lib.hid (fun v w (h : ReadsE w v L) => rencode_any v L w h (by omega) hLs)
  have HC := Lib.hid (fun v w (h : ReadsE w v L) => clean_any v L n w h (by omega))
  have HK := Lib.hid (fun v w (h : ReadsE w v L) => rclean_any v L n w h (by omega))
  have HD : Hid (encC L = 0 → ∀ v w, RdC w v (bytesV (encA L)) → Calls Tryd.prog 7 #[v] w fun e w' => ∃ u, e = .returned u ∧ OwnE w' w.heap.size 36 u L ∧ Chg [] w w') := by
    refine Lib.hid fun h v w hv => ?_
    have hg : ∀ e ∈ L, e.good 64 := by
      unfold encC at h
      split at h
      · rename_i h'; exact all_good.1 h'
      · cases h
    rw [encA_good hg] at hv
    have := decode_any v (encE L) w hv (encE_byte L hg) (by have := encE_len L; omega)
    rw [dec_enc L fun e he => ⟨hg e he, hLs e he⟩] at this
    exact this
  have hcode : encC L = 0 ∨ encC L = 1 := by unfold encC; split <;> simp
  obtain ⟨K, hK⟩ : ∃ K, K = cln L n := ⟨_, rfl⟩
  rw [← hK] at HC HK
  obtain ⟨A, hA⟩ : ∃ A, A = encA L := ⟨_, rfl⟩
  rw [← hA] at HE HR HD
  obtain ⟨z, hz⟩ : ∃ z, z = encC L := ⟨_, rfl⟩
  rw [← hz] at HE HR HD hcode
  have HLL := Lib.hid hLl
  have HCO := Lib.hid hcode
  clear hL hLl hLs hK hA hz hs hr hcode
  go_enter Tryd.func4, Tryd.ntmps4
  go_wp2_with fail
  refine HF.out.mono ?_
  rintro e w1 ⟨u, rfl, R1, C1⟩
  have D1 := Lib.hid R1.1
  have CC1 := Lib.hid C1
  clear R1 C1
  go_wp2_with fail
  refine (HE.out _ _ D1.out).mono ?_
  rintro e w2 ⟨u2, rfl, O2, C2⟩
  have D2 := Lib.hid (D1.out.keep C2)
  have CC2 := Lib.hid (CC1.out.then C2 (by simp))
  have R2 := Lib.hid (RdC.of_own O2)
  clear O2 C2 D1 CC1
  go_wp2_with fail
  refine (HR.out _ _ D2.out).mono ?_
  rintro e w3 ⟨u3, rfl, O3, C3⟩
  have D3 := Lib.hid (D2.out.keep C3)
  have CC3 := Lib.hid (CC2.out.then C3 (by simp))
  have R3 := Lib.hid (R2.out.keep C3)
  have cv2 := run_str w3 u2 A R3.out
  have cv3 := run_str w3 u3 A (RdC.of_own O3)
  clear O3 C3 D2 CC2 R2
  obtain ⟨T, hT⟩ : ∃ T, T = strN A := ⟨_, rfl⟩
  rw [← hT] at cv2 cv3
  have tt := ba_ne T
  clear hT
  go_wp2_with fail
  refine (HC.out _ _ D3.out).mono ?_
  rintro e w4 ⟨u4, rfl, O4, C4⟩
  have D4 := Lib.hid (D3.out.keep C4)
  have CC4 := Lib.hid (CC3.out.then C4 (by simp))
  have R4 := Lib.hid (R3.out.keep C4)
  have K4 := Lib.hid O4.reads
  clear O4 C4 D3 CC3 R3 cv2 cv3
  go_wp2_with fail
  refine (HK.out _ _ D4.out).mono ?_
  rintro e w5 ⟨u5, rfl, O5, C5⟩
  have D5 := Lib.hid (D4.out.keep C5)
  have CC5 := Lib.hid (CC4.out.then C5 (by simp))
  have R5 := Lib.hid (R4.out.keep C5)
  have K5 := Lib.hid (K4.out.keep C5)
  have Q5 := Lib.hid O5.reads
  clear O5 C5 D4 CC4 R4 K4
  go_wp2_with fail
  refine (esame_refl _ _ K _ K5.out Q5.out).mono ?_
  rintro e w6 ⟨rfl, C6⟩
  have D6 := Lib.hid (D5.out.keep C6)
  have CC6 := Lib.hid (CC5.out.then C6 (by simp))
  have R6 := Lib.hid (R5.out.keep C6)
  clear C6 D5 CC5 R5 K5 Q5
  go_wp2_with fail
  refine (awake_any _).mono ?_
  rintro e w7 ⟨rfl, C7⟩
  have D7 := Lib.hid (D6.out.keep C7)
  have CC7 := Lib.hid (CC6.out.then C7 (by simp))
  have R7 := Lib.hid (R6.out.keep C7)
  clear C7 D6 CC6 R6
  have D70 := D7.out
  obtain ⟨ao, cap, rfl, hm, hcc⟩ := D70
  rw [List.length_map] at hm D7 ⊢
  unfold maxLen at hm
  have hc := Lib.hid hcc
  clear hcc
  go_wp2_with fail
  go_loopw [9] (fun x9 wr => ∃ i : Nat, i ≤ L.length ∧ x9 = .int .i64 i ∧ Chg [] w7 wr) (fun x9 _ => L.length - (intOf x9).toNat)
  case atStart => exact ⟨0, by omega, rfl, Chg.refl _ _⟩
  case round =>
    obtain ⟨i, hi, rfl, C⟩ := hrel
    by_cases hil : i < L.length
    · obtain ⟨g, off, rfl, cg⟩ := hc.out i L[i].cells (by simp [hil])
      have hil2 : (i : Int) < (L.length : Int) := by omega
      have hi0 : (0 : Int) ≤ (i : Int) := by omega
      obtain ⟨x, hx⟩ : ∃ x, x = L[i] := ⟨_, rfl⟩
      rw [← hx] at cg
      have HG := Lib.hid (fun w => good_any x n w)
      have HH := Lib.hid (fun w => rgood_any x n w)
      obtain ⟨b, hb⟩ : ∃ b, b = decide (x.good n) := ⟨_, rfl⟩
      rw [← hb] at HG HH
      obtain ⟨c, t, d⟩ := x
      have l1 : g < w7.heap.size := World.block_lt_of_cell? w7 _ (cg 0 _ rfl)
      have f0 : wr.cell? ⟨g, off + i * 3, none⟩ = some (.int .i64 c) := (World.cell?_of_block (w := w7) (C.block g l1 (by simp))).trans (cg 0 _ rfl)
      have f1 : wr.cell? ⟨g, off + i * 3 + 1, none⟩ = some (.bool t) := (World.cell?_of_block (w := w7) (C.block g l1 (by simp))).trans (cg 1 _ rfl)
      have f2 : wr.cell? ⟨g, off + i * 3 + 2, none⟩ = some (.int .u64 (d : Nat)) := (World.cell?_of_block (w := w7) (C.block g l1 (by simp))).trans (cg 2 _ rfl)
      have CG := Lib.hid cg
      have bb : (b != b) = false := by simp
      clear cg hx hb
      have CL := Lib.hid (fun (w' : World) (C : Chg [] w7 w') => show w'.cell? ⟨g, off + i * 3, none⟩ = some (.int .i64 c) ∧ w'.cell? ⟨g, off + i * 3 + 1, none⟩ = some (.bool t) ∧ w'.cell? ⟨g, off + i * 3 + 2, none⟩ = some (.int .u64 (d : Nat)) from
        ⟨(World.cell?_of_block (w := w7) (C.block g l1 (by simp))).trans (CG.out 0 _ rfl), (World.cell?_of_block (w := w7) (C.block g l1 (by simp))).trans (CG.out 1 _ rfl), (World.cell?_of_block (w := w7) (C.block g l1 (by simp))).trans (CG.out 2 _ rfl)⟩)
      go_upto_region 9 with (fail)
      go_region_held3 (fun w' => Chg [] w7 w' ∧ w'.cell? ⟨g, off + i * 3, none⟩ = some (.int .i64 c) ∧ w'.cell? ⟨g, off + i * 3 + 1, none⟩ = some (.bool t) ∧ w'.cell? ⟨g, off + i * 3 + 2, none⟩ = some (.int .u64 (d : Nat)))
        (first | assumption | exact ⟨C, CL.out _ C⟩ | exact ⟨C.drew, CL.out _ C.drew⟩ | exact ⟨k0, CL.out _ k0⟩ | exact ⟨m0, CL.out _ m0⟩ | fail)
        (first
          | (go_at_call 16; refine (HG.out _).mono ?_; rintro e w8 ⟨rfl, C8⟩; have k0 : Chg [] w7 w8 := C.drew.then C8 (by simp))
          | (go_at_call 17; refine (HH.out _).mono ?_; rintro e w9 ⟨rfl, C9⟩; have m0 : Chg [] w7 w9 := k0.then C9 (by simp))
          | fail)
      go_wp2_with fail
      exact ⟨⟨i + 1, by omega, by go_num, by first | exact m0 | exact m0.drew⟩, by simp only [intOf]; omega⟩
    · obtain rfl : i = L.length := by omega
      have CCr := Lib.hid (CC7.out.then C (by simp))
      rcases HCO.out with hz | hz
      · subst hz
        have RR := Lib.hid (R7.out.keep C)
        have DR := Lib.hid (D7.out.keep C)
        clear hil hi
        go_wp2_with fail
        refine (HD.out (by simp) _ _ RR.out).mono ?_
        rintro e w8 ⟨u8, rfl, O8, C8⟩
        have Q8 := Lib.hid O8.reads
        have D8 := Lib.hid (DR.out.keep C8)
        have CC8 := Lib.hid (CCr.out.then C8 (by simp))
        clear O8 C8
        go_wp2_with fail
        refine (esame_refl _ _ L _ Q8.out D8.out).mono ?_
        rintro e w9 ⟨rfl, C9⟩
        have CC9 := Lib.hid (CC8.out.then C9 (by simp))
        clear C9
        go_wp2_with fail
        go_ret
        exact ⟨rfl, CC9.out⟩
      · subst hz
        clear hil hi
        go_wp2_with fail
        go_ret
        exact ⟨rfl, CCr.out⟩
end Go.Proofs.YtjohbnfeijhcmaaDoor
