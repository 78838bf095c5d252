/- How many bits a word has, plainly: by bytes. No program in sight. -/
import Derived.Test.YtjdbgohfedjifaaDoorSets0
namespace Bosun
/-- A word out of its bytes. -/
def valB : List Nat → Nat
  | [] => 0
  | b :: l => b + 256 * valB l
def Bytes (l : List Nat) : Prop := ∀ b ∈ l, b < 256
theorem valB_lt : ∀ l : List Nat, Bytes l → valB l < 256 ^ l.length
  | [], _ => by simp [valB]
  | b :: l, h => by
    have h1 := valB_lt l (fun x hx => h x (List.mem_cons_of_mem _ hx))
    have h2 := h b (List.mem_cons_self ..)
    rw [List.length_cons, Nat.pow_succ, valB]
    generalize 256 ^ l.length = p at *
    omega
theorem and_split (a c m M : Nat) (ha : a < 256) (hm : m < 256) : (a + 256 * c) &&& (m + 256 * M) = (a &&& m) + 256 * (c &&& M) := by
  have t : ∀ (b y j : Nat), b < 256 → (b + 256 * y).testBit j = if j < 8 then b.testBit j else y.testBit (j - 8) := fun b y j hb => by
    rw [Nat.add_comm, show (256 : Nat) = 2 ^ 8 from rfl]
    exact Nat.testBit_two_pow_mul_add y (by omega) j
  have hand : (a &&& m) < 256 := Nat.lt_of_le_of_lt Nat.and_le_left ha
  apply Nat.eq_of_testBit_eq
  intro j
  rw [Nat.testBit_and, t _ _ _ ha, t _ _ _ hm, t _ _ _ hand]
  split
  · rw [Nat.testBit_and]
  · rw [Nat.testBit_and]
theorem shift_and {k m : Nat} (hk : k = 1 ∧ m = 85 ∨ k = 2 ∧ m = 51) : ∀ l : List Nat, Bytes l → (valB l / 2 ^ k) &&& valB (l.map fun _ => m) = valB (l.map fun b => (b / 2 ^ k) &&& m)
  | [], _ => by simp [valB]
  | b :: l, h => by
    have ih := shift_and hk l (fun x hx => h x (List.mem_cons_of_mem _ hx))
    have hb := h b (List.mem_cons_self ..)
    simp only [List.map_cons, valB]
    have key1 : ∀ b, b < 256 → ∀ r, r < 2 → ((b / 2 ^ 1 + 128 * r) &&& 85) = ((b / 2 ^ 1) &&& 85) := by decide +kernel
    have key2 : ∀ b, b < 256 → ∀ r, r < 4 → ((b / 2 ^ 2 + 64 * r) &&& 51) = ((b / 2 ^ 2) &&& 51) := by decide +kernel
    rcases hk with ⟨rfl, rfl⟩ | ⟨rfl, rfl⟩
    · have e : (b + 256 * valB l) / 2 ^ 1 = (b / 2 ^ 1 + 128 * (valB l % 2)) + 256 * (valB l / 2 ^ 1) := by omega
      rw [e, and_split _ _ _ _ (by omega) (by omega), key1 b hb _ (Nat.mod_lt _ (by omega)), ih]
    · have e : (b + 256 * valB l) / 2 ^ 2 = (b / 2 ^ 2 + 64 * (valB l % 4)) + 256 * (valB l / 2 ^ 2) := by omega
      rw [e, and_split _ _ _ _ (by omega) (by omega), key2 b hb _ (Nat.mod_lt _ (by omega)), ih]
theorem and_mask (m : Nat) (hm : m < 256) : ∀ l : List Nat, Bytes l → valB l &&& valB (l.map fun _ => m) = valB (l.map fun b => b &&& m)
  | [], _ => by simp [valB]
  | b :: l, h => by
    simp only [List.map_cons, valB]
    rw [and_split _ _ _ _ (h b (List.mem_cons_self ..)) hm, and_mask m hm l (fun x hx => h x (List.mem_cons_of_mem _ hx))]
theorem valB_add (f g : Nat → Nat) : ∀ l : List Nat, valB (l.map f) + valB (l.map g) = valB (l.map fun b => f b + g b)
  | [] => rfl
  | b :: l => by
    have := valB_add f g l
    simp only [List.map_cons, valB]
    omega
def Nib (l : List Nat) : Prop := ∀ b ∈ l, b / 16 ≤ 4 ∧ b % 16 ≤ 4
theorem nib_and : ∀ l : List Nat, Nib l → (valB l / 16 + valB l) &&& valB (l.map fun _ => 15) = valB (l.map fun b => b / 16 + b % 16)
  | [], _ => by simp [valB]
  | b :: l, h => by
    have hl : Nib l := fun x hx => h x (List.mem_cons_of_mem _ hx)
    have ih := nib_and l hl
    obtain ⟨b1, b2⟩ := h b (List.mem_cons_self ..)
    have hv : valB l % 16 ≤ 4 := by
      cases l with
      | nil => simp [valB]
      | cons c l =>
        have := (hl c (List.mem_cons_self ..)).2
        rw [valB]; omega
    simp only [List.map_cons, valB]
    have e : (b + 256 * valB l) / 16 + (b + 256 * valB l) = (b / 16 + 16 * (valB l % 16) + b) + 256 * (valB l / 16 + valB l) := by omega
    have key : ∀ x, x < 256 → (x &&& 15) = x % 16 := by decide +kernel
    rw [e, and_split _ _ _ _ (by omega) (by omega), ih, key _ (by omega)]
    omega
/-- The bits of a byte. -/
def popB (b : Nat) : Nat := b % 2 + b / 2 % 2 + b / 4 % 2 + b / 8 % 2 + b / 16 % 2 + b / 32 % 2 + b / 64 % 2 + b / 128 % 2
def g1 (b : Nat) : Nat := ((b / 2 ^ 1) &&& 85) + (b &&& 85)
def g2 (b : Nat) : Nat := ((b / 2 ^ 2) &&& 51) + (b &&& 51)
def g3 (b : Nat) : Nat := b / 16 + b % 16
theorem g_all : ∀ b, b < 256 → g1 b < 256 ∧ g2 (g1 b) < 256 ∧ g2 (g1 b) / 16 ≤ 4 ∧ g2 (g1 b) % 16 ≤ 4 ∧ g3 (g2 (g1 b)) = popB b := by decide +kernel
theorem popB_le (b : Nat) : popB b ≤ 8 := by unfold popB; omega
/-- How many of the first n bits are there. -/
def cnt (n s : Nat) : Nat := ((List.range n).filter s.testBit).length
theorem cnt_split (n b y : Nat) (hb : b < 256) : cnt (8 + n) (b + 256 * y) = cnt 8 b + cnt n y := by
  have t : ∀ (j : Nat), (b + 256 * y).testBit j = if j < 8 then b.testBit j else y.testBit (j - 8) := fun j => by
    rw [Nat.add_comm, show (256 : Nat) = 2 ^ 8 from rfl]
    exact Nat.testBit_two_pow_mul_add y (by omega) j
  unfold cnt
  rw [List.range_add, List.filter_append, List.length_append]
  congr 1
  · congr 1
    refine List.filter_congr fun j hj => ?_
    rw [t, if_pos (by simpa using hj)]
  · rw [List.filter_map, List.length_map]
    congr 1
    refine List.filter_congr fun j hj => ?_
    simp only [Function.comp]
    rw [t, if_neg (by omega), Nat.add_sub_cancel_left]
theorem cnt8 : ∀ b, b < 256 → cnt 8 b = popB b := by decide +kernel
theorem cnt_bytes : ∀ l : List Nat, Bytes l → cnt (8 * l.length) (valB l) = (l.map popB).sum
  | [], _ => rfl
  | b :: l, h => by
    have hb := h b (List.mem_cons_self ..)
    rw [List.length_cons, show 8 * (l.length + 1) = 8 + 8 * l.length from by omega, valB, cnt_split _ _ _ hb, cnt8 b hb, cnt_bytes l (fun x hx => h x (List.mem_cons_of_mem _ hx))]
    simp
/-- The eight bytes of a word. -/
def bytes8 (x : Nat) : List Nat := [x % 256, x / 256 % 256, x / 65536 % 256, x / 16777216 % 256, x / 4294967296 % 256, x / 1099511627776 % 256, x / 281474976710656 % 256, x / 72057594037927936 % 256]
theorem bytes8_val {x : Nat} (h : x < 18446744073709551616) : valB (bytes8 x) = x := by unfold bytes8; simp only [valB]; omega
theorem bytes8_ok (x : Nat) : Bytes (bytes8 x) := by
  intro b hb
  simp only [bytes8, List.mem_cons, List.mem_nil_iff, or_false] at hb
  rcases hb with rfl | rfl | rfl | rfl | rfl | rfl | rfl | rfl <;> exact Nat.mod_lt _ (by omega)
/-- The words between, and the last one. -/
def pop1 (x : Nat) : Nat := ((x / 2) &&& 6148914691236517205) + (x &&& 6148914691236517205)
def pop2 (x : Nat) : Nat := ((x / 4) &&& 3689348814741910323) + (x &&& 3689348814741910323)
def pop3 (x : Nat) : Nat := (x / 16 + x) &&& 1085102592571150095
theorem map_bytes {f : Nat → Nat} {l : List Nat} (h : ∀ b ∈ l, f b < 256) : Bytes (l.map f) := by
  intro b hb
  obtain ⟨a, ha, rfl⟩ := List.mem_map.1 hb
  exact h a ha
theorem pop_steps {x : Nat} (h : x < 18446744073709551616) : pop1 x = valB ((bytes8 x).map g1) ∧ pop2 (pop1 x) = valB (((bytes8 x).map g1).map g2) ∧ pop3 (pop2 (pop1 x)) = valB ((((bytes8 x).map g1).map g2).map g3) := by
  have hb := bytes8_ok x
  have m1 : valB ((bytes8 x).map fun _ => 85) = 6148914691236517205 := by simp [bytes8, valB]
  have e1 : pop1 x = valB ((bytes8 x).map g1) := by
    have a := shift_and (k := 1) (m := 85) (.inl ⟨rfl, rfl⟩) _ hb
    have c := and_mask 85 (by omega) _ hb
    rw [m1, bytes8_val h] at a c
    unfold pop1
    rw [show x / 2 = x / 2 ^ 1 from rfl, a, c, valB_add]
    rfl
  have hb1 : Bytes ((bytes8 x).map g1) := map_bytes fun b hq => (g_all b (hb b hq)).1
  have e2 : pop2 (pop1 x) = valB (((bytes8 x).map g1).map g2) := by
    have a := shift_and (k := 2) (m := 51) (.inr ⟨rfl, rfl⟩) _ hb1
    have c := and_mask 51 (by omega) _ hb1
    have m2 : valB (((bytes8 x).map g1).map fun _ => 51) = 3689348814741910323 := by simp [bytes8, valB]
    rw [m2] at a c
    unfold pop2
    rw [e1, show ∀ y, y / 4 = y / 2 ^ 2 from fun y => rfl, a, c, valB_add]
    rfl
  refine ⟨e1, e2, ?_⟩
  have hn : Nib (((bytes8 x).map g1).map g2) := by
    intro b hq
    obtain ⟨c, hc, rfl⟩ := List.mem_map.1 hq
    obtain ⟨d, hd, rfl⟩ := List.mem_map.1 hc
    have := g_all d (hb d hd)
    exact ⟨this.2.2.1, this.2.2.2.1⟩
  have a := nib_and _ hn
  have m3 : valB ((((bytes8 x).map g1).map g2).map fun _ => 15) = 1085102592571150095 := by simp [bytes8, valB]
  rw [m3] at a
  unfold pop3
  rw [e2, a]
  rfl
theorem pop3_bytes {x : Nat} (h : x < 18446744073709551616) : pop3 (pop2 (pop1 x)) = valB ((bytes8 x).map popB) := by
  rw [(pop_steps h).2.2, List.map_map, List.map_map]
  congr 1
  refine List.map_congr_left fun b hb => ?_
  exact (g_all b (bytes8_ok x b hb)).2.2.2.2
theorem members_cnt (s : Nat) : (members s).length = cnt 64 s := rfl
theorem members_pop {x : Nat} (h : x < 18446744073709551616) : (members x).length = ((bytes8 x).map popB).sum := by
  rw [members_cnt]
  have := cnt_bytes _ (bytes8_ok x)
  rw [bytes8_val h] at this
  exact this
/-- The bytes added up. -/
theorem fold_y {p0 p1 p2 x y X1 X2 X3 : Nat} (hx : x = p0 + 256 * X1) (h1 : X1 = p1 + 256 * X2) (h2 : X2 = p2 + 256 * X3) (b0 : p0 ≤ 8) (hy : y = x + x / 256) : y = (p0 + p1) + 256 * (p1 + p2) + 65536 * (X2 + X3) := by
  have : x / 256 = X1 := by omega
  omega
theorem fold_z {a c X2 X3 y z : Nat} (hy : y = a + 256 * c + 65536 * (X2 + X3)) (ha : a ≤ 16) (hc : c ≤ 16) (hz : z = y + y / 65536) : z = y + (X2 + X3) := by
  have : y / 65536 = X2 + X3 := by omega
  omega
theorem fold_t {q0 q1 q2 q3 T z t : Nat} (hz : z = q0 + 256 * q1 + 65536 * q2 + 16777216 * q3 + 4294967296 * T) (h0 : q0 ≤ 32) (h1 : q1 ≤ 32) (h2 : q2 ≤ 32) (h3 : q3 ≤ 32) (ht : t = z + z / 4294967296) : t = z + T := by
  have : z / 4294967296 = T := by omega
  omega
theorem fold_sum (p0 p1 p2 p3 p4 p5 p6 p7 X1 X2 X3 X4 X5 X6 : Nat) (h0 : p0 ≤ 8) (h1 : p1 ≤ 8) (h2 : p2 ≤ 8) (h3 : p3 ≤ 8) (h4 : p4 ≤ 8) (h5 : p5 ≤ 8) (h6 : p6 ≤ 8) (h7 : p7 ≤ 8) (x y z t : Nat)
    (hx : x = p0 + 256 * X1) (e1 : X1 = p1 + 256 * X2) (e2 : X2 = p2 + 256 * X3) (e3 : X3 = p3 + 256 * X4) (e4 : X4 = p4 + 256 * X5) (e5 : X5 = p5 + 256 * X6) (e6 : X6 = p6 + 256 * p7) (hy : y = x + x / 256) (hz : z = y + y / 65536) (ht : t = z + z / 4294967296) :
    t % 128 = p0 + p1 + p2 + p3 + p4 + p5 + p6 + p7 ∧ t < 9223372036854775808 := by
  have ey := fold_y hx e1 e2 h0 hy
  have ez := fold_z ey (by omega) (by omega) hz
  have ez2 : z = (p0 + p1 + p2 + p3) + 256 * (p1 + p2 + p3 + p4) + 65536 * (p2 + p3 + p4 + p5) + 16777216 * (p3 + p4 + p5 + p6) + 4294967296 * (X4 + X5 + X6 + p7) := by omega
  have et := fold_t ez2 (by omega) (by omega) (by omega) (by omega) ht
  clear hx hy hz ht ey ez e1 e2 e3
  have ks : X4 + X5 + X6 + p7 = (p4 + p5 + p6 + p7) + 256 * (X5 + X6 + p7) := by omega
  have hb : X4 + X5 + X6 + p7 ≤ 4294967295 / 8 := by omega
  generalize X4 + X5 + X6 + p7 = T at *
  generalize X5 + X6 + p7 = U at *
  clear e4 e5 e6
  constructor
  · have : t = (p0 + p1 + p2 + p3 + p4 + p5 + p6 + p7) + 128 * (2 * (p1 + p2 + p3 + p4) + 512 * (p2 + p3 + p4 + p5) + 131072 * (p3 + p4 + p5 + p6) + 33554432 * T + 2 * U) := by omega
    rw [this, Nat.add_mul_mod_self_left]
    exact Nat.mod_eq_of_lt (by omega)
  · omega
theorem fold_fin {p0 p1 p2 p3 p4 p5 p6 p7 P : Nat} (h0 : p0 ≤ 8) (h1 : p1 ≤ 8) (h2 : p2 ≤ 8) (h3 : p3 ≤ 8) (h4 : p4 ≤ 8) (h5 : p5 ≤ 8) (h6 : p6 ≤ 8) (h7 : p7 ≤ 8)
    (hP : P = p0 + 256 * (p1 + 256 * (p2 + 256 * (p3 + 256 * (p4 + 256 * (p5 + 256 * (p6 + 256 * (p7 + 256 * 0)))))))) :
    ∃ y z t, y = P + P / 256 ∧ z = y + y / 65536 ∧ t = z + z / 4294967296 ∧ t % 128 = p0 + (p1 + (p2 + (p3 + (p4 + (p5 + (p6 + (p7 + 0))))))) ∧ t < 9223372036854775808 := by
  obtain ⟨X6, e6⟩ : ∃ X6, X6 = p6 + 256 * p7 := ⟨_, rfl⟩
  obtain ⟨X5, e5⟩ : ∃ X5, X5 = p5 + 256 * X6 := ⟨_, rfl⟩
  obtain ⟨X4, e4⟩ : ∃ X4, X4 = p4 + 256 * X5 := ⟨_, rfl⟩
  obtain ⟨X3, e3⟩ : ∃ X3, X3 = p3 + 256 * X4 := ⟨_, rfl⟩
  obtain ⟨X2, e2⟩ : ∃ X2, X2 = p2 + 256 * X3 := ⟨_, rfl⟩
  obtain ⟨X1, e1⟩ : ∃ X1, X1 = p1 + 256 * X2 := ⟨_, rfl⟩
  have hP2 : P = p0 + 256 * X1 := by rw [e1, e2, e3, e4, e5, e6, hP, Nat.mul_zero, Nat.add_zero]
  obtain ⟨y, hy⟩ : ∃ y, y = P + P / 256 := ⟨_, rfl⟩
  obtain ⟨z, hz⟩ : ∃ z, z = y + y / 65536 := ⟨_, rfl⟩
  obtain ⟨t, ht⟩ : ∃ t, t = z + z / 4294967296 := ⟨_, rfl⟩
  obtain ⟨c1, c2⟩ := fold_sum _ _ _ _ _ _ _ _ _ _ _ _ _ _ h0 h1 h2 h3 h4 h5 h6 h7 P y z t hP2 e1 e2 e3 e4 e5 e6 hy hz ht
  exact ⟨y, z, t, hy, hz, ht, by rw [c1]; omega, c2⟩
/-- How many members a set has, by the words between. -/
theorem pop_count {x : Nat} (h : x < 18446744073709551616) : ∃ y z t, y = pop3 (pop2 (pop1 x)) + pop3 (pop2 (pop1 x)) / 256 ∧ z = y + y / 65536 ∧ t = z + z / 4294967296 ∧ t % 128 = (members x).length ∧ t < 9223372036854775808 ∧
    pop1 x < 18446744073709551616 ∧ pop2 (pop1 x) < 18446744073709551616 ∧ pop2 (pop1 x) / 16 + pop2 (pop1 x) < 18446744073709551616 := by
  obtain ⟨s1, s2, _⟩ := pop_steps h
  have hb := bytes8_ok x
  have l1 := valB_lt ((bytes8 x).map g1) (map_bytes fun b hq => (g_all b (hb b hq)).1)
  have l2 : valB (((bytes8 x).map g1).map g2) ≤ 4919131752989213764 := by
    have hn : ∀ c ∈ ((bytes8 x).map g1).map g2, c ≤ 68 := fun c hc => by
      obtain ⟨d, hd, rfl⟩ := List.mem_map.1 hc
      obtain ⟨e, he, rfl⟩ := List.mem_map.1 hd
      have := g_all e (hb e he)
      omega
    have : ∀ l : List Nat, l.length = 8 → (∀ c ∈ l, c ≤ 68) → valB l ≤ 4919131752989213764 := by
      intro l hl hc
      match l, hl with
      | [a, b, c, d, e, f, g, i], _ =>
        simp only [List.mem_cons, List.mem_nil_iff, or_false, forall_eq_or_imp, forall_eq] at hc
        simp only [valB]
        omega
    exact this _ (by simp [bytes8]) hn
  have p := fun b => popB_le b
  have hs := pop3_bytes h
  have hm := members_pop h
  unfold bytes8 at hs hm
  simp only [List.map_cons, List.map_nil, valB, List.sum_cons, List.sum_nil] at hs hm
  obtain ⟨y, z, t, q1, q2, q3, q4, q5⟩ := fold_fin (p _) (p _) (p _) (p _) (p _) (p _) (p _) (p _) hs
  refine ⟨y, z, t, q1, q2, q3, q4.trans hm.symm, q5, ?_, ?_, ?_⟩
  · rw [s1]
    have : (256 : Nat) ^ ((bytes8 x).map g1).length = 18446744073709551616 := by simp [bytes8]
    omega
  · rw [s2]; omega
  · rw [s2]; omega
end Bosun
