/- Amounts: the document's way of reading them comes to the program's. Plain. No statement is proved here. -/
import Derived.Test.YticmfflnenoplabDoorAmA
namespace Go.Proofs.YticmfflnenoplabDoor
namespace Am
open Go
/-- A number that stops to grow above a bound. -/
def clip (s : List UInt8) (most : Nat) : Nat → Nat
  | 0 => 0
  | k + 1 => if clip s most k ≤ most then 10 * clip s most k + ((s[k]?.getD 48).toNat - 48) else clip s most k
theorem clip_next (s : List UInt8) (most k : Nat) (h : k < s.length) : clip s most (k + 1) = if clip s most k ≤ most then 10 * clip s most k + (s[k].toNat - 48) else clip s most k := by
  simp [clip, List.getElem?_eq_getElem h]
theorem clip_num (s : List UInt8) (most : Nat) (k : Nat) (hk : k ≤ s.length) : (clip s most k ≤ most ∧ clip s most k = num (s.take k)) ∨ (most < clip s most k ∧ most < num (s.take k)) := by
  induction k with
  | zero => exact .inl ⟨Nat.zero_le _, by simp [clip, num, valD]⟩
  | succ k ih =>
    rw [clip_next s most k (by omega), num_take s k (by omega)]
    rcases ih (by omega) with ⟨h1, h2⟩ | ⟨h1, h2⟩
    · rw [if_pos h1, h2]
      by_cases hc : 10 * num (s.take k) + (s[k].toNat - 48) ≤ most
      · exact .inl ⟨hc, rfl⟩
      · exact .inr ⟨by omega, by omega⟩
    · rw [if_neg (by omega)]
      exact .inr ⟨h1, by omega⟩
theorem clip_le (s : List UInt8) (most : Nat) (hall : s.all isD = true) (k : Nat) (hk : k ≤ s.length) : clip s most k ≤ 10 * most + 9 := by
  induction k with
  | zero => simp [clip]
  | succ k ih =>
    have hd := isD_le (List.all_eq_true.1 hall s[k] (List.getElem_mem (by omega)))
    rw [clip_next s most k (by omega)]
    split
    · omega
    · exact ih (by omega)
theorem clip_full (s : List UInt8) (most : Nat) : min (clip s most s.length) (most + 1) = min (num s) (most + 1) := by
  have h := clip_num s most s.length (Nat.le_refl _)
  rw [List.take_length] at h
  rcases h with ⟨h1, h2⟩ | ⟨h1, h2⟩
  · rw [h2]
  · omega
/-- What the document's digits tell. -/
def digR (s : List UInt8) (most : Nat) : Nat × Bool := if okD s then (min (num s) (most + 1), true) else (0, false)
/-! ### Processors -/
theorem cut_dot (s : List UInt8) : Lib.cut s [46] = (s.take (dot s), s.drop (dot s + 1), decide (dot s < s.length)) := by
  have key : ∀ l : List UInt8, (dot l < l.length ∧ Lib.index l [46] = (dot l : Int)) ∨ (dot l = l.length ∧ Lib.index l [46] = -1) := by
    intro l
    induction l with
    | nil => exact .inr ⟨rfl, rfl⟩
    | cons b l ih =>
      rw [Lib.index_one] at ih ⊢
      unfold dot at ih ⊢
      rw [List.findIdx_cons, Lib.indexByte]
      cases hb : (b == 46)
      · rcases ih with ⟨h1, h2⟩ | ⟨h1, h2⟩
        · refine .inl ⟨by simp only [cond_false, List.length_cons]; omega, ?_⟩
          simp [h2]
        · refine .inr ⟨by simp only [cond_false, List.length_cons]; omega, ?_⟩
          simp [h2]
      · exact .inl ⟨by simp, by simp⟩
  unfold Lib.cut
  rcases key s with ⟨h1, h2⟩ | ⟨h1, h2⟩
  · rw [h2, if_pos (by omega), decide_eq_true h1]
    simp
  · rw [h2, if_neg (by omega), h1, List.take_length, List.drop_of_length_le (by omega)]
    simp
theorem num_one (b : List UInt8) : num (49 :: b) = 10 ^ b.length + num b := by
  have key : ∀ (b : List UInt8) (n : Nat), valD b n = n * 10 ^ b.length + valD b 0 := by
    intro b
    induction b with
    | nil => intro n; simp [valD]
    | cons c b ih =>
      intro n
      show valD b (10 * n + (c.toNat - 48)) = n * 10 ^ (b.length + 1) + valD b (10 * 0 + (c.toNat - 48))
      simp only [Nat.mul_zero, Nat.zero_add]
      rw [ih (10 * n + (c.toNat - 48)), ih (c.toNat - 48), Nat.pow_succ, Nat.add_mul]
      have : n * (10 ^ b.length * 10) = 10 * n * 10 ^ b.length := by rw [Nat.mul_comm 10 n, Nat.mul_assoc, Nat.mul_comm 10]
      omega
  show valD b (10 * 0 + (49 - 48)) = _
  rw [key b]
  simp [num]
theorem okD_one (b : List UInt8) : okD (49 :: b) = b.all isD := by
  have : isD 49 = true := by decide
  simp [okD, lead, this]
/-- The prt behind the point, of three places. -/
def prt (b : List UInt8) : Nat → Nat
  | 0 => 0
  | i + 1 => 10 * prt b i + (match b[i]? with | some c => c.toNat - 48 | none => 0)
theorem prt_in (b : List UInt8) (i : Nat) (h : i < b.length) : prt b (i + 1) = 10 * prt b i + (b[i].toNat - 48) := by
  simp [prt, List.getElem?_eq_getElem h]
theorem prt_out (b : List UInt8) (i : Nat) (h : b.length ≤ i) : prt b (i + 1) = 10 * prt b i := by
  simp [prt, List.getElem?_eq_none h]
theorem prt_take (b : List UInt8) (i : Nat) (h : i ≤ b.length) : prt b i = num (b.take i) := by
  induction i with
  | zero => simp [prt, num, valD]
  | succ i ih => rw [prt_in b i (by omega), num_take b i (by omega), ih (by omega)]
theorem prt_more (b : List UInt8) (d : Nat) : prt b (b.length + d) = num b * 10 ^ d := by
  induction d with
  | zero =>
    rw [Nat.add_zero, prt_take b b.length (Nat.le_refl _), List.take_length]
    simp
  | succ d ih => rw [← Nat.add_assoc, prt_out b _ (by omega), ih, Nat.pow_succ, ← Nat.mul_assoc (num b), Nat.mul_comm 10]
theorem prt_three (b : List UInt8) (h : b.length ≤ 3) : prt b 3 = num b * 10 ^ (3 - b.length) := by
  have := prt_more b (3 - b.length)
  rwa [show b.length + (3 - b.length) = 3 by omega] at this
/-- The document's way, by its cases. -/
theorem milli_m {s : List UInt8} (t : List UInt8) (h : s = t ++ [109]) : milliP s = if okD t && decide (t.length ≤ 9) then fin (num t) true else (0, 4) := by
  subst h
  have ⟨h1, h2⟩ := suf_app t [109]
  unfold milliP
  rw [if_pos h1, h2]
  rcases digP_or t 9 with ⟨a, b, c⟩ | ⟨a, c⟩
  · rw [c, a, decide_eq_true b]; rfl
  · rw [c]
    have : (okD t && decide (t.length ≤ 9)) = false := by
      rcases a with a | a
      · rw [a]; rfl
      · rw [decide_eq_false (by omega)]; simp
    rw [this]; rfl
theorem milli_no {s : List UInt8} (h : s.getLast? ≠ some 109) : milliP s = if dot s < s.length then fin (pointP (s.take (dot s)) (s.drop (dot s + 1))).1 (pointP (s.take (dot s)) (s.drop (dot s + 1))).2 else fin (1000 * (digP (s.take (dot s)) 6).1) (digP (s.take (dot s)) 6).2 := by
  unfold milliP
  rw [suf_no (p := [109]) (c := 109) rfl h, cut_dot]
  simp only [Bool.false_eq_true, if_false, decide_eq_true_eq]
theorem milli_plain {s : List UInt8} (h : s.getLast? ≠ some 109) (hd : ¬ dot s < s.length) : milliP s = if okD (s.take (dot s)) && decide ((s.take (dot s)).length ≤ 6) then fin (1000 * (num (s.take (dot s)) : Int)) true else (0, 4) := by
  rw [milli_no h, if_neg hd]
  generalize s.take (dot s) = t
  rcases digP_or t 6 with ⟨a, b, c⟩ | ⟨a, c⟩
  · rw [c, a, decide_eq_true b]; rfl
  · rw [c]
    have : (okD t && decide (t.length ≤ 6)) = false := by
      rcases a with a | a
      · rw [a]; rfl
      · rw [decide_eq_false (by omega)]; simp
    rw [this]; rfl
theorem milli_point {s : List UInt8} (h : s.getLast? ≠ some 109) (hd : dot s < s.length) :
    milliP s = if okD (s.take (dot s)) && decide ((s.take (dot s)).length ≤ 6) && (decide (1 ≤ (s.drop (dot s + 1)).length) && decide ((s.drop (dot s + 1)).length ≤ 3)) && (s.drop (dot s + 1)).all isD then fin (1000 * (num (s.take (dot s)) : Int) + (prt (s.drop (dot s + 1)) 3 : Nat)) true else (0, 4) := by
  rw [milli_no h, if_pos hd]
  generalize s.take (dot s) = t
  generalize s.drop (dot s + 1) = b
  unfold pointP
  rcases digP_or t 6 with ⟨a, b6, c⟩ | ⟨a, c⟩
  · rw [c, a, decide_eq_true b6]
    dsimp only
    rcases digP_or (49 :: b) 4 with ⟨a2, b2, c2⟩ | ⟨a2, c2⟩
    · rw [c2]
      dsimp only
      rw [okD_one] at a2
      simp only [List.length_cons] at b2
      rw [a2, decide_eq_true (show b.length ≤ 3 by omega)]
      cases b with
      | nil => simp [fin_no]
      | cons x b =>
        simp only [List.length_cons] at b2
        have h3 := prt_three (x :: b) (by simp; omega)
        rw [h3, num_one]
        simp only [List.length_cons, List.isEmpty_cons, Bool.not_false, Bool.and_self, decide_eq_true (show 1 ≤ b.length + 1 by omega), if_true]
        congr 1
        rw [show min (b.length + 1) 3 = b.length + 1 by omega]
        have hp : (10 : Int) ^ (b.length + 1) * 10 ^ (3 - (b.length + 1)) = 1000 := by
          have : b.length = 0 ∨ b.length = 1 ∨ b.length = 2 := by omega
          rcases this with e | e | e <;> rw [e] <;> rfl
        rw [Int.natCast_add, Int.natCast_mul, Int.add_mul]
        simp only [Int.natCast_pow, Int.cast_ofNat_Int]
        rw [hp]
        omega
    · rw [c2]
      dsimp only
      rw [okD_one] at a2
      have : (decide (1 ≤ b.length) && decide (b.length ≤ 3) && b.all isD) = false := by
        rcases a2 with a2 | a2
        · rw [a2]; simp
        · rw [decide_eq_false (show ¬ b.length ≤ 3 by simp at a2; omega)]; simp
      simp only [Bool.true_and, this, Bool.and_false, Bool.false_and, Bool.false_eq_true, if_false]
      rfl
  · rw [c]
    have : (okD t && decide (t.length ≤ 6)) = false := by
      rcases a with a | a
      · rw [a]; rfl
      · rw [decide_eq_false (by omega)]; simp
    rw [this]
    simp [fin_no]
/-! ### Bytes -/
def sizeR (s : List UInt8) : Nat × Nat :=
  if Lib.hasSuffix s [75, 105] then (1024, s.length - 2) else if Lib.hasSuffix s [77, 105] then (1048576, s.length - 2) else if Lib.hasSuffix s [71, 105] then (1073741824, s.length - 2)
  else if Lib.hasSuffix s [84, 105] then (1099511627776, s.length - 2) else (1, s.length)
theorem suf_iff (s : List UInt8) (c : UInt8) : Lib.hasSuffix s [c, 105] = (decide (1 < s.length) && (s[s.length - 1]? == some 105) && (s[s.length - 2]? == some c)) := by
  rw [Bool.eq_iff_iff]
  simp only [Bool.and_eq_true, decide_eq_true_eq, beq_iff_eq]
  unfold Lib.hasSuffix
  rw [List.isSuffixOf_iff_suffix]
  constructor
  · rintro ⟨t, rfl⟩
    refine ⟨⟨by simp, ?_⟩, ?_⟩
    · rw [List.getElem?_append_right (by simp)]
      simp
    · rw [List.getElem?_append_right (by simp)]
      simp
  · rintro ⟨⟨h1, h2⟩, h3⟩
    refine ⟨s.take (s.length - 2), ?_⟩
    obtain ⟨i1, e1⟩ := List.getElem?_eq_some_iff.1 h2
    obtain ⟨i2, e2⟩ := List.getElem?_eq_some_iff.1 h3
    conv => rhs; rw [← List.take_append_drop (s.length - 2) s]
    congr 1
    rw [List.drop_eq_getElem_cons i2, e2]
    congr 1
    rw [show s.length - 2 + 1 = s.length - 1 by omega, List.drop_eq_getElem_cons i1, e1, show s.length - 1 + 1 = s.length by omega, List.drop_length]
theorem suf_ne {s : List UInt8} {a b : UInt8} (h : Lib.hasSuffix s [a, 105] = true) (hab : a ≠ b) : Lib.hasSuffix s [b, 105] = false := by
  rw [suf_iff] at h ⊢
  simp only [Bool.and_eq_true, decide_eq_true_eq, beq_iff_eq] at h
  rw [h.2]
  simp [hab]
theorem bytes_way (s : List UInt8) : bytesP s = byteP (s.take (sizeR s).2) (sizeR s).1 := by
  unfold bytesP units sizeR
  simp only [bytesU]
  have ht : ∀ p : List UInt8, p.length = 2 → Lib.hasSuffix s p = true → Lib.trimSuffix s p = s.take (s.length - 2) := by
    intro p hp h
    unfold Lib.trimSuffix
    rw [if_pos h, hp]
  cases hK : Lib.hasSuffix s [75, 105]
  · cases hM : Lib.hasSuffix s [77, 105]
    · cases hG : Lib.hasSuffix s [71, 105]
      · cases hT : Lib.hasSuffix s [84, 105]
        · have : Lib.hasSuffix s [] = true ∧ Lib.trimSuffix s [] = s := by
            have := suf_app s []
            simpa using this
          simp [this]
        · simp [ht _ rfl hT]
      · simp [suf_ne hG (show (71 : UInt8) ≠ 84 by decide), ht _ rfl hG]
    · simp [suf_ne hM (show (77 : UInt8) ≠ 84 by decide), suf_ne hM (show (77 : UInt8) ≠ 71 by decide), ht _ rfl hM]
  · simp [suf_ne hK (show (75 : UInt8) ≠ 84 by decide), suf_ne hK (show (75 : UInt8) ≠ 71 by decide), suf_ne hK (show (75 : UInt8) ≠ 77 by decide), ht _ rfl hK]
end Am
end Go.Proofs.YticmfflnenoplabDoor
