/- Sets of processors as plain numbers: bits, lists, spans. No program is named here; no statement is proved here. -/
import Derived.Test.YticmfflnenoplabDoorPop
import Derived.Lib.TrailingZeros
import Derived.Lib.ItoaNum
import Derived.Lib.Join
namespace Go.Proofs.YticmfflnenoplabDoor
open Pop
namespace Bi
/-- Is n in the set? -/
def inS (x n : Nat) : Bool := bit x n == 1
theorem bit_01 (x n : Nat) : bit x n = 0 ∨ bit x n = 1 := by unfold bit; omega
theorem inS_iff {x n : Nat} : inS x n = true ↔ bit x n = 1 := by unfold inS; exact beq_iff_eq
theorem inS_no {x n : Nat} : inS x n = false ↔ bit x n = 0 := by
  have := bit_01 x n
  unfold inS
  rw [beq_eq_false_iff_ne]
  omega
theorem bit_test (x n : Nat) : inS x n = x.testBit n := by
  rw [Bool.eq_iff_iff, inS_iff, Nat.testBit_eq_decide_div_mod_eq, decide_eq_true_eq]
  rfl
theorem bit_high {x n : Nat} (hx : x < 18446744073709551616) (hn : 64 ≤ n) : inS x n = false := by
  rw [bit_test]
  have h : 2 ^ 64 ≤ 2 ^ n := Nat.pow_le_pow_right (by omega) hn
  exact Nat.testBit_lt_two_pow (Nat.lt_of_lt_of_le (by simpa using hx) h)
/-- Its numbers below k, rising. -/
def listF (x k : Nat) : List Nat := (List.range k).filter (inS x)
theorem listF_zero (x : Nat) : listF x 0 = [] := rfl
theorem listF_yes {x k : Nat} (h : inS x k = true) : listF x (k + 1) = listF x k ++ [k] := by simp [listF, List.range_succ, h]
theorem listF_no {x k : Nat} (h : inS x k = false) : listF x (k + 1) = listF x k := by simp [listF, List.range_succ, h]
theorem listF_len (x k : Nat) : (listF x k).length ≤ k := by
  unfold listF
  have := List.length_filter_le (inS x) (List.range k)
  simpa using this
theorem listF_gap {x k : Nat} : ∀ {c : Nat}, k ≤ c → (∀ i, k ≤ i → i < c → inS x i = false) → listF x c = listF x k
  | 0, h, _ => by
    obtain rfl : k = 0 := by omega
    rfl
  | c + 1, h, hn => by
    rcases (show k ≤ c ∨ k = c + 1 by omega) with hc | rfl
    · rw [listF_no (hn c hc (by omega)), listF_gap hc (fun i h1 h2 => hn i h1 (by omega))]
    · rfl
theorem listF_cnt (x k : Nat) : (listF x k).length = cnt x k := by
  induction k with
  | zero => rfl
  | succ k ih =>
    show _ = cnt x k + bit x k
    cases h : inS x k
    · rw [listF_no h, ih, inS_no.1 h]; rfl
    · rw [listF_yes h, List.length_append, ih, inS_iff.1 h]; rfl
/-- What is left of a set from k on. -/
def hiS (x k : Nat) : Nat := x / 2 ^ k * 2 ^ k
theorem hiS_zero (x : Nat) : hiS x 0 = x := by simp [hiS]
theorem hiS_le (x k : Nat) : hiS x k ≤ x := Nat.div_mul_le_self _ _
theorem hiS_none {x k : Nat} (h : hiS x k = 0) : ∀ i, k ≤ i → inS x i = false := by
  intro i hi
  have hp : 0 < 2 ^ k := Nat.two_pow_pos k
  have : x / 2 ^ k = 0 := by
    rcases Nat.mul_eq_zero.1 h with h | h
    · exact h
    · omega
  have hlt : x < 2 ^ k := by rwa [Nat.div_eq_zero_iff_lt hp] at this
  rw [bit_test]
  exact Nat.testBit_lt_two_pow (Nat.lt_of_lt_of_le hlt (Nat.pow_le_pow_right (by omega) hi))
theorem and_pred (c m : Nat) : (2 ^ c * (2 * m + 1)) &&& (2 ^ c * (2 * m + 1) - 1) = 2 ^ c * (2 * m) := by
  have hp : 0 < 2 ^ c := Nat.two_pow_pos c
  have e1 : 2 ^ c * (2 * m + 1) - 1 = 2 ^ c * (2 * m) + (2 ^ c - 1) := by rw [Nat.mul_add]; omega
  rw [e1]
  apply Nat.eq_of_testBit_eq
  intro j
  rw [Nat.testBit_and, Nat.testBit_two_pow_mul_add _ (by omega)]
  have h2 : (2 ^ c * (2 * m + 1)).testBit j = (decide (c ≤ j) && (2 * m + 1).testBit (j - c)) := Nat.testBit_two_pow_mul
  have h3 : (2 ^ c * (2 * m)).testBit j = (decide (c ≤ j) && (2 * m).testBit (j - c)) := Nat.testBit_two_pow_mul
  rw [h2, h3]
  by_cases hj : j < c
  · simp [hj, show ¬ c ≤ j by omega]
  · simp only [hj, if_false, show c ≤ j by omega, decide_true, Bool.true_and]
    generalize j - c = i
    cases i with
    | zero => simp [Nat.testBit_zero]
    | succ i =>
      rw [Nat.testBit_succ, Nat.testBit_succ, show (2 * m + 1) / 2 = m by omega, show 2 * m / 2 = m by omega, Bool.and_self]
/-- The lowest one goes. -/
theorem hiS_step {x k : Nat} (hx : x < 18446744073709551616) (h : hiS x k ≠ 0) : ∃ c, Lib.ctz 64 (hiS x k) = c ∧ k ≤ c ∧ c < 64 ∧ inS x c = true ∧ (∀ i, k ≤ i → i < c → inS x i = false) ∧ (hiS x k &&& (hiS x k - 1)) = hiS x (c + 1) := by
  have hlt : hiS x k < 2 ^ 64 := Nat.lt_of_le_of_lt (hiS_le x k) (by simpa using hx)
  obtain ⟨m, hm, hc⟩ := Lib.ctzFrom_spec 64 (hiS x k) (by omega) hlt
  have he : Lib.ctz 64 (hiS x k) = Lib.ctzFrom 64 (hiS x k) := by unfold Lib.ctz; rw [if_neg h]
  obtain ⟨c, hcc⟩ : ∃ c, c = Lib.ctzFrom 64 (hiS x k) := ⟨_, rfl⟩
  rw [← hcc] at hm hc he
  have hp : 0 < 2 ^ k := Nat.two_pow_pos k
  have tb : ∀ i, (hiS x k).testBit i = (decide (k ≤ i) && x.testBit i) := by
    intro i
    unfold hiS
    rw [Nat.mul_comm, Nat.testBit_two_pow_mul]
    by_cases hki : k ≤ i
    · simp only [hki, decide_true, Bool.true_and]
      rw [Nat.testBit_div_two_pow]
      congr 1
      omega
    · simp [hki]
  have tb2 : ∀ i, (hiS x k).testBit i = (decide (c ≤ i) && (2 * m + 1).testBit (i - c)) := by
    intro i
    rw [hm, Nat.testBit_two_pow_mul]
  have h1 : (hiS x k).testBit c = true := by rw [tb2]; simp [Nat.testBit_zero]
  have hkc : k ≤ c := by
    rw [tb] at h1
    simp only [Bool.and_eq_true, decide_eq_true_eq] at h1
    exact h1.1
  have hxc : x.testBit c = true := by
    rw [tb] at h1
    simp only [Bool.and_eq_true, decide_eq_true_eq] at h1
    exact h1.2
  have hgap : ∀ i, k ≤ i → i < c → x.testBit i = false := by
    intro i h2 h3
    have := tb2 i
    rw [tb] at this
    simpa [h2, show ¬ c ≤ i by omega] using this
  refine ⟨c, he, hkc, hc, by rw [bit_test]; exact hxc, fun i h2 h3 => by rw [bit_test]; exact hgap i h2 h3, ?_⟩
  have hand : (hiS x k &&& (hiS x k - 1)) = 2 ^ c * (2 * m) := by rw [hm]; exact and_pred c m
  rw [hand]
  apply Nat.eq_of_testBit_eq
  intro i
  have t1 : (2 ^ c * (2 * m)).testBit i = (decide (c ≤ i) && (2 * m).testBit (i - c)) := Nat.testBit_two_pow_mul
  have t2 : (hiS x (c + 1)).testBit i = (decide (c + 1 ≤ i) && x.testBit i) := by
    unfold hiS
    rw [Nat.mul_comm, Nat.testBit_two_pow_mul]
    by_cases hki : c + 1 ≤ i
    · simp only [hki, decide_true, Bool.true_and]
      rw [Nat.testBit_div_two_pow]
      congr 1
      omega
    · simp [hki]
  rw [t1, t2]
  by_cases hi : c + 1 ≤ i
  · have h3 := tb2 i
    rw [tb] at h3
    simp only [show c ≤ i by omega, show k ≤ i by omega, decide_true, Bool.true_and, hi] at h3 ⊢
    rw [h3]
    obtain ⟨j, hj⟩ : ∃ j, i - c = j + 1 := ⟨i - c - 1, by omega⟩
    rw [hj, Nat.testBit_succ, Nat.testBit_succ, show (2 * m + 1) / 2 = m by omega, show 2 * m / 2 = m by omega]
  · simp only [hi, decide_false, Bool.false_and]
    by_cases hci : c ≤ i
    · obtain rfl : i = c := by omega
      simp [Nat.testBit_zero]
    · simp [hci]
/-- A set of numbers, or what is wrong. -/
def ofA (s : Nat) : List Int → Nat × Int
  | [] => (s, 0)
  | n :: l => if n < 0 ∨ 63 < n then (0, 1) else ofA (s ||| 2 ^ n.toNat) l
def ofP (l : List Int) : Nat × Int := ofA 0 l
theorem pow_lt {n : Nat} (h : n < 64) : 2 ^ n < 18446744073709551616 := by
  have := Nat.pow_lt_pow_right (a := 2) (by omega) h
  simpa using this
theorem or_lt {a b : Nat} (ha : a < 18446744073709551616) (hb : b < 18446744073709551616) : a ||| b < 18446744073709551616 := by
  have : a ||| b < 2 ^ 64 := Nat.or_lt_two_pow (by simpa using ha) (by simpa using hb)
  simpa using this
/-! ### Spans -/
/-- Where the run that n stands in ends. -/
def runE (x : Nat) : Nat → Nat → Nat
  | 0, n => n
  | f + 1, n => if inS x (n + 1) then runE x f (n + 1) else n
def endR (x n : Nat) : Nat := runE x (64 - n) n
theorem runE_more {x : Nat} (hx : x < 18446744073709551616) : ∀ (f n : Nat), 64 ≤ n + f → ∀ g, 64 ≤ n + g → runE x f n = runE x g n
  | 0, n, h, g, hg => by
    have : ∀ g m, 64 ≤ m → runE x g m = m := by
      intro g
      induction g with
      | zero => intro m _; rfl
      | succ g ih => intro m hm; rw [runE, if_neg (by rw [bit_high hx (by omega)]; simp)]
    rw [this g n (by omega)]; rfl
  | f + 1, n, h, g, hg => by
    cases g with
    | zero =>
      show (if inS x (n + 1) then runE x f (n + 1) else n) = n
      rw [if_neg (by rw [bit_high hx (by omega)]; simp)]
    | succ g =>
      rw [runE, runE]
      split
      · exact runE_more hx f (n + 1) (by omega) g (by omega)
      · rfl
theorem endR_yes {x n : Nat} (hx : x < 18446744073709551616) (h : inS x (n + 1) = true) : endR x n = endR x (n + 1) := by
  have hn : n + 1 < 64 := by
    rcases Nat.lt_or_ge (n + 1) 64 with h1 | h1
    · exact h1
    · rw [bit_high hx h1] at h; cases h
  unfold endR
  obtain ⟨f, hf⟩ : ∃ f, 64 - n = f + 1 := ⟨63 - n, by omega⟩
  rw [hf, runE, if_pos h]
  exact runE_more hx f (n + 1) (by omega) _ (by omega)
theorem endR_no {x n : Nat} (h : inS x (n + 1) = false) : endR x n = n := by
  unfold endR
  cases 64 - n with
  | zero => rfl
  | succ f => rw [runE, if_neg (by rw [h]; simp)]
theorem endR_ge (x n : Nat) : n ≤ endR x n := by
  unfold endR
  generalize 64 - n = f
  induction f generalizing n with
  | zero => exact Nat.le_refl _
  | succ f ih =>
    rw [runE]
    split
    · have := ih (n + 1); omega
    · exact Nat.le_refl _
theorem endR_lt {x n : Nat} (hx : x < 18446744073709551616) (hn : n < 64) : endR x n < 64 := by
  have key : ∀ f n, n < 64 → runE x f n < 64 := by
    intro f
    induction f with
    | zero => intro n h; exact h
    | succ f ih =>
      intro n h
      rw [runE]
      split
      · rename_i h1
        rcases Nat.lt_or_ge (n + 1) 64 with h2 | h2
        · exact ih _ h2
        · rw [bit_high hx h2] at h1; cases h1
      · exact h
  exact key _ _ hn
/-- The spans from n on. -/
def spansF (x : Nat) : Nat → Nat → List (Nat × Nat)
  | 0, _ => []
  | f + 1, n => if 64 ≤ n then [] else if inS x n then (n, endR x n) :: spansF x f (endR x n + 1) else spansF x f (n + 1)
theorem spansF_more (x : Nat) : ∀ (f n : Nat), 64 ≤ n + f → ∀ g, 64 ≤ n + g → spansF x f n = spansF x g n
  | 0, n, h, g, hg => by
    cases g with
    | zero => rfl
    | succ g => rw [spansF, spansF, if_pos (by omega)]
  | f + 1, n, h, g, hg => by
    cases g with
    | zero => rw [spansF, spansF, if_pos (by omega)]
    | succ g =>
      rw [spansF, spansF]
      split
      · rfl
      · have hge := endR_ge x n
        split
        · rw [spansF_more x f (endR x n + 1) (by omega) g (by omega)]
        · rw [spansF_more x f (n + 1) (by omega) g (by omega)]
def spans (x n : Nat) : List (Nat × Nat) := spansF x (64 - n) n
theorem spans_end {x n : Nat} (h : 64 ≤ n) : spans x n = [] := by
  unfold spans
  rw [show 64 - n = 0 by omega]
  rfl
theorem spans_no {x n : Nat} (hn : n < 64) (h : inS x n = false) : spans x n = spans x (n + 1) := by
  unfold spans
  obtain ⟨f, hf⟩ : ∃ f, 64 - n = f + 1 := ⟨63 - n, by omega⟩
  rw [hf, spansF, if_neg (by omega), h]
  simp only [Bool.false_eq_true, if_false]
  exact spansF_more x f (n + 1) (by omega) _ (by omega)
theorem spans_yes {x n : Nat} (hn : n < 64) (h : inS x n = true) : spans x n = (n, endR x n) :: spans x (endR x n + 1) := by
  unfold spans
  have hge := endR_ge x n
  obtain ⟨f, hf⟩ : ∃ f, 64 - n = f + 1 := ⟨63 - n, by omega⟩
  rw [hf, spansF, if_neg (by omega), h]
  simp only [if_true]
  rw [spansF_more x f (endR x n + 1) (by omega) (64 - (endR x n + 1)) (by omega)]
/-- A span's text. -/
def spanT (p : Nat × Nat) : List UInt8 := Lib.itoa p.1 ++ (if p.1 < p.2 then 45 :: Lib.itoa p.2 else [])
theorem spanT_one {p : Nat × Nat} (h : p.2 ≤ p.1) : spanT p = Lib.itoa p.1 := by
  unfold spanT
  rw [if_neg (by omega), List.append_nil]
theorem spanT_two {p : Nat × Nat} (h : p.1 < p.2) : spanT p = Lib.itoa p.1 ++ 45 :: Lib.itoa p.2 := by
  unfold spanT
  rw [if_pos h]
/-- A set's text. -/
def textP (x : Nat) : List UInt8 := Lib.join ((spans x 0).map spanT) [44]
theorem join_snoc (l : List (List UInt8)) (a : List UInt8) : Lib.join (l ++ [a]) [44] = if l = [] then a else Lib.join l [44] ++ 44 :: a := by
  induction l with
  | nil => simp [Lib.join, List.intercalate]
  | cons x l ih =>
    cases l with
    | nil => simp [Lib.join, List.intercalate]
    | cons y l =>
      have e : ∀ z : List (List UInt8), Lib.join (x :: y :: z) [44] = x ++ 44 :: Lib.join (y :: z) [44] := by intro z; simp [Lib.join, List.intercalate]
      rw [show x :: y :: l ++ [a] = x :: y :: (l ++ [a]) from rfl, e, e]
      rw [show y :: l ++ [a] = y :: (l ++ [a]) from rfl] at ih
      rw [ih]
      simp
end Bi
end Go.Proofs.YticmfflnenoplabDoor
