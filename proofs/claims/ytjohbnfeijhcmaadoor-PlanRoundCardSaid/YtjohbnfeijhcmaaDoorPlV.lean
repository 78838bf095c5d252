/- plan: the walk of PlanRound. -/
import Derived.Test.YtjohbnfeijhcmaaDoorPlT
import Derived.Test.YtjohbnfeijhcmaaDoorPlK
import Derived.Test.YtjohbnfeijhcmaaDoorPl7
namespace Bosun
open Go
theorem rnd_cln (n s : Nat) (q : Int) (h1 : 1 ≤ n) (h2 : n ≤ 64) : cln (rnd n s q) (n : Int) = rnd n s q := by
  unfold cln
  rw [List.filter_eq_self]
  intro e he
  obtain ⟨i, _, rfl⟩ := rnd_mem he
  have := Nat.mod_lt i (show 0 < n by omega)
  have hg : (rndE n q i).good n := by
    unfold Ent.good rndE
    simp only
    omega
  simpa using hg
end Bosun
namespace Go.Proofs.YtjohbnfeijhcmaaDoor
open Go.RowKit Bosun Go.ChangeShapes Go.WideShapes Go.ChangeAt
set_option maxRecDepth 8000 in
set_option maxHeartbeats 8000000 in
theorem planRound_walk (w : World) (c : Int) (st : Nat) (hst : st < 256) (q : Int) :
    Calls Tryd.prog 6 #[.int .i64 c, .int .u8 (st : Nat), .int .i64 q] w fun e w' => e = .returned (.bool true) ∧ Chg [] w w' := by
  obtain ⟨n, hn⟩ : ∃ n : Nat, min (max c 1) 64 = (n : Int) := ⟨(min (max c 1) 64).toNat, by omega⟩
  have hn1 : 1 ≤ n := by omega
  have hn2 : n ≤ 64 := by omega
  have HR := Lib.hid (fun w => round_any c st q n st w hn (by omega) (by omega))
  have HQ := Lib.hid (fun w => rround_any c st q n st w hn (by omega) (by omega))
  have HZ := Lib.hid (fun w => round_any c (-(st : Int)) q n 0 w hn (by omega) (by omega))
  have HN := Lib.hid hn
  have HC := rnd_cln n st q hn1 hn2
  have hL := rnd_len n st q
  have HGN := Lib.hid (fun (h : n ≤ st) => rnd_isGap q hn1 h)
  have HBN : Hid (∀ r : Int, 1 ≤ q → q ≤ (((st + n - 1) / n : Nat) : Int) → BeatSays (rnd n st q) n r → r = q) := Lib.hid fun r h1 h2 hb => by
    obtain ⟨Q, rfl⟩ : ∃ Q : Nat, q = Q := ⟨q.toNat, by omega⟩
    obtain ⟨k, rfl, hk⟩ := hb.2 ⟨by omega, by omega⟩
    rw [HC] at hk
    have := hk.uniq (by simpa using rnd_isBeat (s := st) hn1 (by omega : 1 ≤ Q) (by omega))
    rw [this]
  obtain ⟨L, hLe⟩ : ∃ L, L = rnd n st q := ⟨_, rfl⟩
  rw [← hLe] at HR HQ HC hL HGN HBN
  have HS := Lib.hid hst
  have HCL := Lib.hid HC
  have HLL := Lib.hid hL
  clear hn HC hLe hL
  go_enter Tryd.func6, Tryd.ntmps6
  have ws : IntKind.i64.wrap (st : Int) = st := IntWalk.i64_in _ (by omega)
  go_wp2_with fail
  refine (HR.out _).mono ?_
  rintro e w1 ⟨u1, rfl, O1, C1⟩
  have R1 := Lib.hid O1.reads
  have CC1 := Lib.hid C1
  clear O1 C1
  go_wp2_with fail
  refine (HQ.out _).mono ?_
  rintro e w2 ⟨u2, rfl, O2, C2⟩
  have Q2 := Lib.hid O2.reads
  have R2 := Lib.hid (R1.out.keep C2)
  have CC2 := Lib.hid (CC1.out.then C2 (by simp))
  clear O2 C2 R1 CC1
  go_wp2_with fail
  refine (esame_refl _ _ L _ R2.out Q2.out).mono ?_
  rintro e w3 ⟨rfl, C3⟩
  have R3 := Lib.hid (R2.out.keep C3)
  have CC3 := Lib.hid (CC2.out.then C3 (by simp))
  clear C3 R2 CC2 Q2
  go_wp2_with fail
  refine (HZ.out _).mono ?_
  rintro e w4 ⟨u4, rfl, O4, C4⟩
  rw [show rnd n 0 q = [] from rfl] at O4
  obtain ⟨gz, cz, rfl, _⟩ := O4.shape
  have R4 := Lib.hid (R3.out.keep C4)
  have CC4 := Lib.hid (CC3.out.then C4 (by simp))
  clear C4 O4 R3 CC3
  rw [List.length_nil]
  go_wp2_with fail
  refine (awake_any _).mono ?_
  rintro e w5 ⟨rfl, C5⟩
  have R5 := Lib.hid (R4.out.keep C5)
  have CC5 := Lib.hid (CC4.out.then C5 (by simp))
  clear C5 R4 CC4
  have HCn := Lib.hid (fun w (h : ReadsE w u1 L) => clean_any u1 L (n : Int) w h (by have := HLL.out; omega))
  rw [HCL.out] at HCn
  have HGn := Lib.hid (fun w (h : ReadsE w u1 L) => gap_says u1 L (n : Int) w h (by have := HLL.out; omega))
  have HBn := Lib.hid (fun w (h : ReadsE w u1 L) => beat_any u1 L (n : Int) w h (by have := HLL.out; omega))
  by_cases hsn : st < n
  · go_wp2_with (first
      | (refine wpList_max rfl _ _ _ _ rfl .i64 c 1 (max c 1) rfl rfl (by omega) ?_)
      | (refine wpList_min rfl _ _ _ _ rfl .i64 (max c 1) 64 (n : Int) rfl rfl (by have := HN.out; omega) ?_)
      | fail)
    refine (HCn.out _ R5.out).mono ?_
    rintro e w6 ⟨u6, rfl, O6, C6⟩
    obtain ⟨g6, c6, rfl, _⟩ := O6.shape
    have CC6 := Lib.hid (CC5.out.then C6 (by simp))
    have hL := HLL.out
    clear C6 O6
    go_wp2_with fail
    go_ret
    exact ⟨by first | rfl | simp [hL], CC6.out⟩
  · go_wp2_with (first
      | (refine wpList_max rfl _ _ _ _ rfl .i64 c 1 (max c 1) rfl rfl (by omega) ?_)
      | (refine wpList_min rfl _ _ _ _ rfl .i64 (max c 1) 64 (n : Int) rfl rfl (by have := HN.out; omega) ?_)
      | fail)
    refine (HGn.out _ R5.out).mono ?_
    rintro e w6 ⟨r, rfl, G6, C6⟩
    have hr : r = (n : Int) := by
      obtain ⟨k, rfl, hk⟩ := G6.2 ⟨by omega, by omega⟩
      rw [HCL.out] at hk
      rw [hk.uniq (by simpa using HGN.out (by omega))]
    subst hr
    have R6 := Lib.hid (R5.out.keep C6)
    have CC6 := Lib.hid (CC5.out.then C6 (by simp))
    clear C6 G6 R5 CC5
    have hn0 : ¬ (n : Int) = 0 := by omega
    have hn0n : ¬ n = 0 := by omega
    go_upto_region 10 with (fail)
    obtain ⟨o, ho⟩ : ∃ o : Nat, o = (st + n - 1) / n := ⟨_, rfl⟩
    rw [show ((st : Int) + (n : Int) - 1) / (n : Int) = (o : Int) by rw [show (st : Int) + (n : Int) - 1 = ((st + n - 1 : Nat) : Int) by omega, ho]; rfl]
    rw [← ho] at HBN
    clear ho
    by_cases h1 : q < 1
    · go_wp2_with fail
      go_ret
      exact ⟨rfl, CC6.out⟩
    · by_cases h2 : (o : Int) < q
      · go_wp2_with fail
        go_ret
        exact ⟨rfl, CC6.out⟩
      · go_wp2_with fail
        refine (HBn.out _ R6.out).mono ?_
        rintro e w7 ⟨r, rfl, G7, C7⟩
        obtain rfl : r = q := HBN.out r (by omega) (by omega) G7
        have CC7 := Lib.hid (CC6.out.then C7 (by simp))
        clear C7 G7
        go_wp2_with fail
        go_ret
        exact ⟨rfl, CC7.out⟩
end Go.Proofs.YtjohbnfeijhcmaaDoor
