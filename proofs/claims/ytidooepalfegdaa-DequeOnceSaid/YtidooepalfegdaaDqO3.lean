/- What a deque tells of its words, plainly: they are the list. -/
import Derived.Test.YtidooepalfegdaaDqO2
import Derived.Test.YtidooepalfegdaaDqL
namespace Bosun
open Go
theorem lenD_St {f cap : Nat} {W : List Nat} {A : Nat → Option DOp} {L : List Nat} {N : Nat} (h : St f cap W A L N false) (hN : N < 1000000) : lenD 0 cap W = L.length := by
  obtain ⟨t, b, l, t0, I, hL⟩ := h
  have tb := I.tb
  have bN := I.bN
  have room := I.room
  have hlt : l = t := by
    by_cases e : l = t
    · exact e
    · obtain ⟨o', a1, a2, a3, a4, _⟩ := I.won e
      have := I.clm.2 ⟨o', a1, a2, a3, by omega⟩
      cases this
  have hb := I.bot
  simp only [Bool.false_eq_true, if_false] at hb
  unfold lenD
  rw [show ((0 : Int) + 1) = ((1 : Nat) : Int) from rfl, hb, show (0 : Int) = ((0 : Nat) : Int) from rfl, I.top, ahd_num (by omega) (by omega), hL, listOf_len]
  omega
theorem allD_St {f cap : Nat} {W : List Nat} {A : Nat → Option DOp} {L : List Nat} {N : Nat} (h : St f cap W A L N false) (hN : N < 1000000) : allD 0 cap W = L := by
  have hn := lenD_St h hN
  obtain ⟨t, b, l, t0, I, hL⟩ := h
  have tb := I.tb
  have bN := I.bN
  have hlt : l = t := by
    by_cases e : l = t
    · exact e
    · obtain ⟨o', a1, a2, a3, a4, _⟩ := I.won e
      have := I.clm.2 ⟨o', a1, a2, a3, by omega⟩
      cases this
  have hb := I.bot
  simp only [Bool.false_eq_true, if_false] at hb
  unfold allD
  rw [hn, show ((0 : Int) + 1) = ((1 : Nat) : Int) from rfl, hb, hL, listOf_len]
  unfold listOf
  refine List.map_congr_left fun i hi => ?_
  simp only [List.mem_range] at hi
  have e : (num f b + (18446744073709551616 - (b - l)) + i) % 18446744073709551616 = num f (l + i) := by unfold num; omega
  rw [e, plc_num I.pw]; rfl
end Bosun
