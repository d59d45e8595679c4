/- How many bits a number of 64 bits has: the sums of bytes in parallel come to it. No program is named here; no statement is proved here. -/
import Derived.WalkKit
namespace Go.Proofs.YticmfflnenoplabDoor
namespace Pop
/-- Bit k of m. -/
def bit (m k : Nat) : Nat := m / 2 ^ k % 2
/-- How many bits below k. -/
def cnt (m : Nat) : Nat → Nat
  | 0 => 0
  | k + 1 => cnt m k + bit m k
def val : List Nat → Nat
  | [] => 0
  | b :: l => b + 256 * val l
def bytes : Nat → Nat → List Nat
  | _, 0 => []
  | x, n + 1 => (x % 256) :: bytes (x / 256) n
theorem bytes_len (x n : Nat) : (bytes x n).length = n := by
  induction n generalizing x with
  | zero => rfl
  | succ n ih => simp [bytes, ih]
theorem bytes_lt (x n : Nat) : ∀ b ∈ bytes x n, b < 256 := by
  induction n generalizing x with
  | zero => simp [bytes]
  | succ n ih =>
    intro b hb
    simp only [bytes, List.mem_cons] at hb
    rcases hb with rfl | hb
    · omega
    · exact ih _ b hb
theorem val_bytes (x n : Nat) (h : x < 256 ^ n) : val (bytes x n) = x := by
  induction n generalizing x with
  | zero => simp at h; simp [bytes, val, h]
  | succ n ih =>
    simp only [bytes, val]
    rw [ih (x / 256) (by rw [Nat.pow_succ] at h; omega)]
    omega
theorem bit_split (b y k : Nat) (hb : b < 256) : bit (b + 256 * y) k = if k < 8 then bit b k else bit y (k - 8) := by
  unfold bit
  split
  · rename_i h
    have : ∀ j : Fin 8, ∀ c : Fin 256, (c.val + 256 * y) / 2 ^ j.val % 2 = c.val / 2 ^ j.val % 2 := by
      intro j c
      obtain ⟨j, hj⟩ := j
      obtain ⟨c, hc⟩ := c
      rcases (show j = 0 ∨ j = 1 ∨ j = 2 ∨ j = 3 ∨ j = 4 ∨ j = 5 ∨ j = 6 ∨ j = 7 by omega) with rfl | rfl | rfl | rfl | rfl | rfl | rfl | rfl <;> (simp only [Nat.reducePow]; omega)
    exact this ⟨k, h⟩ ⟨b, hb⟩
  · rename_i h
    obtain ⟨j, rfl⟩ : ∃ j, k = 8 + j := ⟨k - 8, by omega⟩
    have e1 : (b + 256 * y) / 2 ^ 8 = y := by rw [show (2 : Nat) ^ 8 = 256 from rfl]; omega
    rw [Nat.pow_add, ← Nat.div_div_eq_div_mul, e1, show 8 + j - 8 = j by omega]
theorem cnt_split (b y k : Nat) (hb : b < 256) : cnt (b + 256 * y) (8 + k) = cnt b 8 + cnt y k := by
  induction k with
  | zero =>
    have h := fun k (hk : k < 8) => (bit_split b y k hb).trans (if_pos hk)
    simp only [Nat.add_zero, cnt]
    rw [h 0 (by omega), h 1 (by omega), h 2 (by omega), h 3 (by omega), h 4 (by omega), h 5 (by omega), h 6 (by omega), h 7 (by omega)]
  | succ k ih =>
    rw [← Nat.add_assoc]
    show cnt (b + 256 * y) (8 + k) + bit (b + 256 * y) (8 + k) = _
    rw [ih, bit_split b y _ hb, if_neg (by omega)]
    simp only [cnt]
    rw [show 8 + k - 8 = k by omega]
    omega
theorem cnt_val (l : List Nat) (h : ∀ b ∈ l, b < 256) : cnt (val l) (8 * l.length) = (l.map fun b => cnt b 8).sum := by
  induction l with
  | nil => rfl
  | cons b l ih =>
    simp only [List.length_cons, val, List.map_cons, List.sum_cons]
    rw [show 8 * (l.length + 1) = 8 + 8 * l.length by omega, cnt_split _ _ _ (h b (by simp)), ih fun c hc => h c (by simp [hc])]
theorem and_split (b y c z : Nat) (hb : b < 256) (hc : c < 256) : (b + 256 * y) &&& (c + 256 * z) = (b &&& c) + 256 * (y &&& z) := by
  have h1 : ∀ b y : Nat, b < 256 → b + 256 * y = (y <<< 8) ||| b := by
    intro b y hb
    rw [← Nat.shiftLeft_add_eq_or_of_lt (by simpa using hb), Nat.shiftLeft_eq]
    omega
  have h2 : b &&& c < 256 := Nat.lt_of_le_of_lt Nat.and_le_left hb
  rw [h1 b y hb, h1 c z hc, h1 _ _ h2]
  apply Nat.eq_of_testBit_eq
  intro i
  simp only [Nat.testBit_and, Nat.testBit_or, Nat.testBit_shiftLeft]
  by_cases hi : 8 ≤ i
  · have e1 : b.testBit i = false := Nat.testBit_lt_two_pow (Nat.lt_of_lt_of_le hb (by have := Nat.pow_le_pow_right (n := 2) (by omega) hi; simpa using this))
    have e2 : c.testBit i = false := Nat.testBit_lt_two_pow (Nat.lt_of_lt_of_le hc (by have := Nat.pow_le_pow_right (n := 2) (by omega) hi; simpa using this))
    simp [hi, e1, e2]
  · simp [hi]
theorem and_val (l : List Nat) (c : Nat) (hc : c < 256) (h : ∀ b ∈ l, b < 256) : val l &&& val (List.replicate l.length c) = val (l.map (· &&& c)) := by
  induction l with
  | nil => simp [val]
  | cons b l ih =>
    simp only [List.length_cons, List.replicate_succ, val, List.map_cons]
    rw [and_split _ _ _ _ (h b (by simp)) hc, ih fun d hd => h d (by simp [hd])]
theorem t1 : ∀ d : Fin 256, ∀ e : Fin 2, (d.val / 2 + 128 * e.val) &&& 85 = d.val / 2 &&& 85 := by decide +kernel
theorem t2 : ∀ d : Fin 256, ∀ e : Fin 4, (d.val / 4 + 64 * e.val) &&& 51 = d.val / 4 &&& 51 := by decide +kernel
theorem shr1 (l : List Nat) (h : ∀ b ∈ l, b < 256) : val l / 2 &&& val (List.replicate l.length 85) = val (l.map fun b => b / 2 &&& 85) := by
  induction l with
  | nil => rfl
  | cons b l ih =>
    have hb := h b (by simp)
    simp only [List.length_cons, List.replicate_succ, val, List.map_cons]
    rw [show (b + 256 * val l) / 2 = (b / 2 + 128 * (val l % 2)) + 256 * (val l / 2) by omega, and_split _ _ _ _ (by omega) (by omega), ih fun d hd => h d (by simp [hd])]
    rw [t1 ⟨b, hb⟩ ⟨val l % 2, by omega⟩]
theorem shr2 (l : List Nat) (h : ∀ b ∈ l, b < 256) : val l / 4 &&& val (List.replicate l.length 51) = val (l.map fun b => b / 4 &&& 51) := by
  induction l with
  | nil => rfl
  | cons b l ih =>
    have hb := h b (by simp)
    simp only [List.length_cons, List.replicate_succ, val, List.map_cons]
    rw [show (b + 256 * val l) / 4 = (b / 4 + 64 * (val l % 4)) + 256 * (val l / 4) by omega, and_split _ _ _ _ (by omega) (by omega), ih fun d hd => h d (by simp [hd])]
    rw [t2 ⟨b, hb⟩ ⟨val l % 4, by omega⟩]
theorem val_add (l : List Nat) (f g : Nat → Nat) : val (l.map f) + val (l.map g) = val (l.map fun b => f b + g b) := by
  induction l with
  | nil => rfl
  | cons b l ih =>
    simp only [List.map_cons, val]
    rw [← ih]
    omega
def s1 (b : Nat) : Nat := (b / 2 &&& 85) + (b &&& 85)
def s2 (b : Nat) : Nat := (b / 4 &&& 51) + (b &&& 51)
theorem f3 : ∀ b : Fin 256, s1 b.val < 256 ∧ s2 (s1 b.val) < 256 ∧ s2 (s1 b.val) / 16 ≤ 4 ∧ s2 (s1 b.val) % 16 ≤ 4 ∧ s2 (s1 b.val) / 16 + s2 (s1 b.val) % 16 = cnt b.val 8 := by decide +kernel
theorem shr4 (l : List Nat) (h : ∀ b ∈ l, b < 256 ∧ b / 16 ≤ 4 ∧ b % 16 ≤ 4) : (val l / 16 + val l) &&& val (List.replicate l.length 15) = val (l.map fun b => b / 16 + b % 16) := by
  induction l with
  | nil => rfl
  | cons b l ih =>
    obtain ⟨hb, hb1, hb2⟩ := h b (by simp)
    have hn : val l % 16 ≤ 4 := by
      match l with
      | [] => simp [val]
      | c :: r =>
        have := (h c (by simp)).2.2
        simp only [val]
        omega
    simp only [List.length_cons, List.replicate_succ, val, List.map_cons]
    rw [show (b + 256 * val l) / 16 + (b + 256 * val l) = (b / 16 + b + 16 * (val l % 16)) + 256 * (val l / 16 + val l) by omega, and_split _ _ _ _ (by omega) (by omega), ih fun d hd => h d (by simp [hd])]
    have : (b / 16 + b + 16 * (val l % 16)) &&& 15 = b / 16 + b % 16 := by
      rw [show (15 : Nat) = 2 ^ 4 - 1 from rfl, Nat.and_two_pow_sub_one_eq_mod]
      omega
    rw [this]
def x1 (x : Nat) : Nat := (x / 2 &&& 6148914691236517205) + (x &&& 6148914691236517205)
def x2 (x : Nat) : Nat := (x / 4 &&& 3689348814741910323) + (x &&& 3689348814741910323)
def x3 (x : Nat) : Nat := (x / 16 + x) &&& 1085102592571150095
theorem x3_val (l : List Nat) (hl : l.length = 8) (h : ∀ b ∈ l, b < 256) :
    x1 (val l) = val (l.map s1) ∧ x2 (val (l.map s1)) = val (l.map fun b => s2 (s1 b)) ∧ x3 (val (l.map fun b => s2 (s1 b))) = val (l.map fun b => cnt b 8) := by
  have m1 : val (List.replicate l.length 85) = 6148914691236517205 := by rw [hl]; decide
  have m2 : val (List.replicate l.length 51) = 3689348814741910323 := by rw [hl]; decide
  have m3 : val (List.replicate l.length 15) = 1085102592571150095 := by rw [hl]; decide
  have hs1 : ∀ b ∈ l.map s1, b < 256 := by
    intro b hb
    obtain ⟨c, hc, rfl⟩ := List.mem_map.1 hb
    exact (f3 ⟨c, h c hc⟩).1
  have hs2 : ∀ b ∈ l.map (fun b => s2 (s1 b)), b < 256 ∧ b / 16 ≤ 4 ∧ b % 16 ≤ 4 := by
    intro b hb
    obtain ⟨c, hc, rfl⟩ := List.mem_map.1 hb
    obtain ⟨_, a1, a2, a3, _⟩ := f3 ⟨c, h c hc⟩
    exact ⟨a1, a2, a3⟩
  refine ⟨?_, ?_, ?_⟩
  · unfold x1
    rw [← m1, shr1 l h, and_val l 85 (by omega) h, val_add]
    rfl
  · unfold x2
    have e1 := shr2 (l.map s1) hs1
    have e2 := and_val (l.map s1) 51 (by omega) hs1
    rw [List.length_map] at e1 e2
    rw [← m2, e1, e2, val_add, List.map_map]
    rfl
  · unfold x3
    have e1 := shr4 (l.map fun b => s2 (s1 b)) hs2
    rw [List.length_map] at e1
    rw [← m3, e1, List.map_map]
    congr 1
    refine List.map_congr_left fun b hb => ?_
    exact (f3 ⟨b, h b hb⟩).2.2.2.2
theorem cnt_le (m k : Nat) : cnt m k ≤ k := by
  induction k with
  | zero => simp [cnt]
  | succ k ih =>
    have : bit m k < 2 := Nat.mod_lt _ (by omega)
    simp only [cnt]
    omega
theorem final (a0 a1 a2 a3 a4 a5 a6 a7 : Nat) (h0 : a0 ≤ 8) (h1 : a1 ≤ 8) (h2 : a2 ≤ 8) (h3 : a3 ≤ 8) (h4 : a4 ≤ 8) (h5 : a5 ≤ 8) (h6 : a6 ≤ 8) (h7 : a7 ≤ 8) (x y z u : Nat)
    (hx : x = a0 + 256 * (a1 + 256 * (a2 + 256 * (a3 + 256 * (a4 + 256 * (a5 + 256 * (a6 + 256 * (a7 + 256 * 0)))))))) (hy : y = x + x / 256) (hz : z = y + y / 65536) (hu : u = z + z / 4294967296) :
    x < 1000000000000000000 ∧ y < 2000000000000000000 ∧ z < 3000000000000000000 ∧ u < 4000000000000000000 ∧ u % 128 = a0 + (a1 + (a2 + (a3 + (a4 + (a5 + (a6 + (a7 + 0))))))) := by
  obtain ⟨b, hb⟩ : ∃ b, b = (a0 + a1) + 256 * (a1 + a2) := ⟨_, rfl⟩
  have e1 : y = (a0 + a1) + 256 * ((a1 + a2) + 256 * ((a2 + a3) + 256 * ((a3 + a4) + 256 * ((a4 + a5) + 256 * ((a5 + a6) + 256 * ((a6 + a7) + 256 * a7)))))) := by omega
  have e2 : z = (a0 + a1 + a2 + a3) + 256 * ((a1 + a2 + a3 + a4) + 256 * ((a2 + a3 + a4 + a5) + 256 * ((a3 + a4 + a5 + a6) + 256 * ((a4 + a5 + a6 + a7) + 256 * ((a5 + a6 + a7) + 256 * ((a6 + a7) + 256 * a7)))))) := by omega
  have e3 : z / 4294967296 = (a4 + a5 + a6 + a7) + 256 * ((a5 + a6 + a7) + 256 * ((a6 + a7) + 256 * a7)) := by omega
  refine ⟨by omega, by omega, by omega, by omega, ?_⟩
  rw [hu, e3, e2]
  omega
/-- The whole of the count in parallel. -/
structure Fits (x : Nat) (y3 y4 y5 y6 : Nat) : Prop where
  b1 : x1 x < 18446744073709551616
  b2 : x2 (x1 x) < 18446744073709551616
  b3 : y3 < 1000000000000000000
  b4 : y4 < 2000000000000000000
  b5 : y5 < 3000000000000000000
  b6 : y6 < 4000000000000000000
  c : x2 (x1 x) / 16 + x2 (x1 x) < 18446744073709551616
  e : y6 % 128 = cnt x 64
theorem val_lt (l : List Nat) (h : ∀ b ∈ l, b < 256) : val l < 256 ^ l.length := by
  induction l with
  | nil => simp [val]
  | cons b l ih =>
    have := ih fun c hc => h c (by simp [hc])
    have := h b (by simp)
    simp only [val, List.length_cons, Nat.pow_succ]
    omega
theorem fits (x : Nat) (hx : x < 18446744073709551616) : ∀ y3 y4 y5 y6, y3 = x3 (x2 (x1 x)) → y4 = y3 + y3 / 256 → y5 = y4 + y4 / 65536 → y6 = y5 + y5 / 4294967296 → Fits x y3 y4 y5 y6 := by
  intro y3 y4 y5 y6 h3 h4 h5 h6
  have hl := bytes_len x 8
  have hb := bytes_lt x 8
  have hv := val_bytes x 8 (by simpa using hx)
  obtain ⟨e1, e2, e3⟩ := x3_val (bytes x 8) hl hb
  have hc := cnt_val (bytes x 8) hb
  rw [hv] at e1 hc
  rw [hl] at hc
  rw [← e1] at e2
  rw [← e2] at e3
  rw [e3] at h3
  have q1 : x1 x < 18446744073709551616 := by
    rw [e1]
    have := val_lt ((bytes x 8).map s1) (by intro b hb'; obtain ⟨c, hc', rfl⟩ := List.mem_map.1 hb'; exact (f3 ⟨c, hb c hc'⟩).1)
    rw [List.length_map, hl] at this
    simpa using this
  have q2 : x2 (x1 x) < 18446744073709551616 / 2 := by
    rw [e2]
    have : ∀ l : List Nat, l.length = 8 → (∀ b ∈ l, b < 256 ∧ b / 16 ≤ 4) → val l < 18446744073709551616 / 2 := by
      intro l hl h
      have hn : ∃ a0 a1 a2 a3 a4 a5 a6 a7, l = [a0, a1, a2, a3, a4, a5, a6, a7] := by
        match l, hl with
        | [a0, a1, a2, a3, a4, a5, a6, a7], _ => exact ⟨_, _, _, _, _, _, _, _, rfl⟩
      obtain ⟨a0, a1, a2, a3, a4, a5, a6, a7, rfl⟩ := hn
      have g0 := h a0 (by simp); have g1 := h a1 (by simp); have g2 := h a2 (by simp); have g3 := h a3 (by simp); have g4 := h a4 (by simp); have g5 := h a5 (by simp); have g6 := h a6 (by simp); have g7 := h a7 (by simp)
      simp only [val]
      omega
    refine this _ (by rw [List.length_map, hl]) fun b hb' => ?_
    obtain ⟨c, hc', rfl⟩ := List.mem_map.1 hb'
    have := f3 ⟨c, hb c hc'⟩
    exact ⟨this.2.1, this.2.2.1⟩
  have hn : ∃ a0 a1 a2 a3 a4 a5 a6 a7, bytes x 8 = [a0, a1, a2, a3, a4, a5, a6, a7] := by
    match bytes x 8, hl with
    | [a0, a1, a2, a3, a4, a5, a6, a7], _ => exact ⟨_, _, _, _, _, _, _, _, rfl⟩
  obtain ⟨a0, a1, a2, a3, a4, a5, a6, a7, hbe⟩ := hn
  rw [hbe] at h3 hc
  simp only [List.map_cons, List.map_nil, List.sum_cons, List.sum_nil, val] at h3 hc
  have := final (cnt a0 8) (cnt a1 8) (cnt a2 8) (cnt a3 8) (cnt a4 8) (cnt a5 8) (cnt a6 8) (cnt a7 8) (cnt_le _ _) (cnt_le _ _) (cnt_le _ _) (cnt_le _ _) (cnt_le _ _) (cnt_le _ _) (cnt_le _ _) (cnt_le _ _) y3 y4 y5 y6 h3 h4 h5 h6
  obtain ⟨f3', f4, f5, f6, f7⟩ := this
  exact ⟨q1, by omega, f3', f4, f5, f6, by omega, by rw [f7]; exact hc.symm⟩
end Pop
end Go.Proofs.YticmfflnenoplabDoor
