/- plan: the document's Encode. -/
import Derived.Test.YtjohbnfeijhcmaaDoorPl10
import Derived.Test.YtjohbnfeijhcmaaDoorPl8
namespace Go.Proofs.YtjohbnfeijhcmaaDoor
open Go.RowKit Bosun Go.ChangeShapes Go.WideShapes Go.ChangeAt
set_option maxHeartbeats 4000000 in
theorem rencode_any (v : Value) (l : List Ent) (w : World) (hv : ReadsE w v l) (hl : l.length ≤ 1000) (hg : ∀ e ∈ l, e.small) :
    Calls Tryd.prog 13 #[v] w fun e w' => ∃ u, e = .returned (.tuple #[u, .int .i64 (encC l)]) ∧ Own w' w.heap.size 5 u (bytesV (encA l)) ∧ Chg [] w w' := by
  obtain ⟨ao, cap, rfl, hm, hcc⟩ := hv
  rw [List.length_map] at hm ⊢
  unfold maxLen at hm
  have hc := Lib.hid hcc
  have HS := Lib.hid hg
  clear hcc hg
  go_enter Tryd.func13, Tryd.ntmps13
  have hbig : decide (1048576 < (l.length : Int)) = false := by simp; omega
  go_wp2_with fail
  clear hbig
  go_loopw [4, 5] (fun x4 x5 wr => ∃ i : Nat, i ≤ l.length ∧ x5 = .int .i64 i ∧ Own wr w.heap.size 5 x4 (bytesV (encE (l.take i))) ∧ Chg [] w wr ∧ Hid (∀ e ∈ l.take i, e.good 64)) (fun _ x5 _ => l.length - (intOf x5).toNat)
  case atStart => exact ⟨0, by omega, rfl, Own.nil _ _ _, Chg.refl _ _, Lib.hid (by simp)⟩
  case round =>
    obtain ⟨i, hi, rfl, hown, C, GA⟩ := hrel
    by_cases hil : i < l.length
    · obtain ⟨g, off, rfl, cg⟩ := hc.out i l[i].cells (by simp [hil])
      have G2 := HS.out _ (List.getElem_mem hil)
      have hil2 : (i : Int) < (l.length : Int) := by omega
      by_cases G1 : (l[i]).good 64
      · have GI := Lib.hid (allGood_step GA.out hil G1)
        have SN := Lib.hid (encE_snoc l hil)
        have hlen := encE_len (l.take i)
        rw [List.length_take] at hlen
        have hol := oneE_len l[i]
        obtain ⟨x, hx⟩ : ∃ x, x = l[i] := ⟨_, rfl⟩
        rw [← hx] at cg G1 G2 SN hol
        have HG := Lib.hid (fun w => rgood_any x 64 w)
        rw [decide_eq_true G1] at HG
        have HO := Lib.hid (fun w => one_any x w G1 G2)
        obtain ⟨O, hO⟩ : ∃ O, O = oneE x := ⟨_, rfl⟩
        rw [← hO] at HO SN hol
        obtain ⟨c, t, d⟩ := x
        have l1 : g < w.heap.size := World.block_lt_of_cell? w _ (cg 0 _ rfl)
        have f0 : wr.cell? ⟨g, off + i * 3, none⟩ = some (.int .i64 c) := (World.cell?_of_block (w := w) (C.block g l1 (by simp))).trans (cg 0 _ rfl)
        have f1 : wr.cell? ⟨g, off + i * 3 + 1, none⟩ = some (.bool t) := (World.cell?_of_block (w := w) (C.block g l1 (by simp))).trans (cg 1 _ rfl)
        have f2 : wr.cell? ⟨g, off + i * 3 + 2, none⟩ = some (.int .u64 (d : Nat)) := (World.cell?_of_block (w := w) (C.block g l1 (by simp))).trans (cg 2 _ rfl)
        have CG := Lib.hid cg
        have HL := Lib.hid (And.intro hl (And.intro hlen hol))
        clear cg hx hO G1 G2 hlen hol
        go_wp2_with fail
        refine (HG.out wr).mono ?_
        rintro e w2 ⟨rfl, C2⟩
        have O2 := hown.keep C2
        have CC := C.then C2 (by simp)
        have c0 : w2.cell? ⟨g, off + i * 3, none⟩ = some (.int .i64 c) := (World.cell?_of_block (w := w) (CC.block g l1 (by simp))).trans (CG.out 0 _ rfl)
        have c1 : w2.cell? ⟨g, off + i * 3 + 1, none⟩ = some (.bool t) := (World.cell?_of_block (w := w) (CC.block g l1 (by simp))).trans (CG.out 1 _ rfl)
        have c2 : w2.cell? ⟨g, off + i * 3 + 2, none⟩ = some (.int .u64 (d : Nat)) := (World.cell?_of_block (w := w) (CC.block g l1 (by simp))).trans (CG.out 2 _ rfl)
        clear C2 C hown f0 f1 f2
        go_wp2_with fail
        refine (HO.out w2).mono ?_
        rintro e w3 ⟨g3, cap3, rfl, O3, C3⟩
        have O4 := O2.keep C3
        have C4 := CC.then C3 (by simp)
        have hob := O4.block
        have hwz := Lib.hid C4.size
        obtain ⟨E, hE⟩ : ∃ E, E = encE (l.take i) := ⟨_, rfl⟩
        rw [← hE] at O4 HL SN
        have R3 := Lib.hid O3.reads
        clear hE O2 CC C3 O3 c0 c1 c2
        obtain ⟨i0, hi0, hz0, hz1, hz2⟩ := info_parts infoU8'
        have HI := Lib.hid (And.intro hi0 (And.intro hz0 (And.intro hz1 hz2)))
        clear hi0 hz0 hz1 hz2
        go_wp2_with (refine wpList_append_own_at _ rfl (.tmp 21) (.tmp 26) 22 rfl w.heap.size 5 i0 (.int .u8 0) 1 1 Tryd.underlying22 HI.out.1 HI.out.2.1 HI.out.2.2.1 HI.out.2.2.2 rfl (by decide) _ (bytesV E).length (bytesV E) rfl O4 ⟨g3, 0, none⟩ O.length cap3 (bytesV O) rfl (by rw [bytesV_len]; omega) (fun j u hj => by
            obtain ⟨_, _, hv, _, hcell⟩ := R3.out
            obtain ⟨g', off', he, hc'⟩ := hcell j u hj
            simp at hv
            obtain ⟨rfl, _⟩ := hv
            simp at he
            obtain ⟨rfl, rfl⟩ := he
            rw [add_plain]
            exact hc') (fun u hu => by obtain ⟨b, _, rfl⟩ := List.mem_map.1 hu; rfl) (by have := HL.out; rw [bytesV_len]; unfold maxLen; omega) (by have := HL.out; rw [bytesV_len]; omega) (by have := hwz.out; omega) ?_; intro v' w6 O6 C6 _ _)
        have C36 : Chg [] w w6 := C4.then (Chg.of_grown C6) (fun g hg => .inr ((hob g hg).1))
        exact ⟨⟨i + 1, by omega, by go_num, by rw [SN.out]; unfold Own; simpa [bytesV] using O6, C36, GI⟩, by simp [intOf] <;> omega⟩
      · have E1 := encC_bad hil G1
        have E2 := encA_bad hil G1
        obtain ⟨x, hx⟩ : ∃ x, x = l[i] := ⟨_, rfl⟩
        rw [← hx] at cg G1
        have HG := Lib.hid (fun w => rgood_any x 64 w)
        rw [decide_eq_false G1] at HG
        obtain ⟨c, t, d⟩ := x
        have l1 : g < w.heap.size := World.block_lt_of_cell? w _ (cg 0 _ rfl)
        have f0 : wr.cell? ⟨g, off + i * 3, none⟩ = some (.int .i64 c) := (World.cell?_of_block (w := w) (C.block g l1 (by simp))).trans (cg 0 _ rfl)
        have f1 : wr.cell? ⟨g, off + i * 3 + 1, none⟩ = some (.bool t) := (World.cell?_of_block (w := w) (C.block g l1 (by simp))).trans (cg 1 _ rfl)
        have f2 : wr.cell? ⟨g, off + i * 3 + 2, none⟩ = some (.int .u64 (d : Nat)) := (World.cell?_of_block (w := w) (C.block g l1 (by simp))).trans (cg 2 _ rfl)
        have HE := Lib.hid (And.intro E1 E2)
        clear cg hx E1 E2 G1 G2
        go_wp2_with fail
        refine (HG.out _).mono ?_
        rintro e w2 ⟨rfl, C2⟩
        go_wp2_with fail
        go_ret2
        rw [HE.out.1, HE.out.2]
        exact ⟨_, rfl, Own.nil _ _ _, C.then C2 (by simp)⟩
    · obtain rfl : i = l.length := by omega
      rw [List.take_length] at hown
      go_wp2_with fail
      go_ret2
      rw [encC_good (by simpa using GA.out), encA_good (by simpa using GA.out)]
      exact ⟨_, rfl, hown, C⟩
end Go.Proofs.YtjohbnfeijhcmaaDoor
