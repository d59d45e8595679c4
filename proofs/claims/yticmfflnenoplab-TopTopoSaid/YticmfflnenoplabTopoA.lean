/- Where processors lie, as plain data: the sets of those that are so; what is wrong with a list; how many of a set lie on each node. No program is named here; no statement is proved here. -/
import Derived.Test.YticmfflnenoplabPop
namespace Go.Proofs.Yticmfflnenoplab
namespace Tp
open Pop
structure Cpu where
  core : Int
  socket : Int
  node : Int
deriving DecidableEq
/-- The set of the first k that are so. -/
def wh (p : Cpu → Bool) (l : List Cpu) : Nat → Nat
  | 0 => 0
  | k + 1 => if (l[k]?).any p then wh p l k ||| 2 ^ k else wh p l k
theorem wh_lt (p : Cpu → Bool) (l : List Cpu) (k : Nat) : wh p l k < 2 ^ k := by
  induction k with
  | zero => simp [wh]
  | succ k ih =>
    have h2 : (2 : Nat) ^ k < 2 ^ (k + 1) := Nat.pow_lt_pow_right (by omega) (by omega)
    simp only [wh]
    split
    · exact Nat.or_lt_two_pow (Nat.lt_trans ih h2) h2
    · exact Nat.lt_trans ih h2
theorem wh_lt64 (p : Cpu → Bool) (l : List Cpu) (k : Nat) (hk : k ≤ 64) : wh p l k < 18446744073709551616 :=
  Nat.lt_of_lt_of_le (wh_lt p l k) (by have := Nat.pow_le_pow_right (n := 2) (by omega) hk; simpa using this)
theorem wh_next (p : Cpu → Bool) (l : List Cpu) (k : Nat) (h : k < l.length) : wh p l (k + 1) = if p l[k] then wh p l k ||| 2 ^ k else wh p l k := by
  simp [wh, List.getElem?_eq_getElem h]
theorem bit_of (m k : Nat) : bit m k = (m.testBit k).toNat := by
  unfold bit
  rw [Nat.toNat_testBit]
theorem wh_bit (p : Cpu → Bool) (l : List Cpu) (k i : Nat) : (wh p l k).testBit i = (decide (i < k) && (l[i]?).any p) := by
  induction k with
  | zero => simp [wh]
  | succ k ih =>
    simp only [wh]
    split
    · rename_i h
      rw [Nat.testBit_or, ih, Nat.testBit_two_pow]
      by_cases he : k = i
      · subst he; simp [h]
      · have : (decide (i < k + 1)) = decide (i < k) := by simp; omega
        simp [he, this]
    · rename_i h
      rw [ih]
      by_cases he : i = k
      · subst he
        have : (l[i]?).any p = false := by simpa using h
        simp [this]
      · have : (decide (i < k + 1)) = decide (i < k) := by simp; omega
        simp [this]
/-! ### What is wrong with a list -/
def badB (c : Cpu) : Bool := decide (c.core < 0) || decide (63 < c.core) || decide (c.socket < 0) || decide (63 < c.socket) || decide (c.node < 0) || decide (3 < c.node)
def clash (l : List Cpu) (k : Nat) (c : Cpu) : Bool := (l.take k).any fun d => d.core == c.core && d != c
/-- The first fault of the first k. -/
def fault (l : List Cpu) : Nat → Int
  | 0 => 0
  | k + 1 => if fault l k ≠ 0 then fault l k else match l[k]? with
    | none => 0
    | some c => if badB c then 1 else if clash l k c then 3 else 0
def Fault (l : List Cpu) : Int := if l.length < 1 ∨ 64 < l.length then 2 else fault l l.length
theorem fault_mono (l : List Cpu) (k n : Nat) (h : k ≤ n) (hf : fault l k ≠ 0) : fault l n = fault l k := by
  induction n with
  | zero => obtain rfl : k = 0 := by omega
            rfl
  | succ n ih =>
    by_cases he : k = n + 1
    · rw [he]
    · have := ih (by omega)
      simp only [fault]
      rw [this, if_pos hf]
theorem fault_next (l : List Cpu) (k : Nat) (h : k < l.length) (hf : fault l k = 0) : fault l (k + 1) = if badB l[k] then 1 else if clash l k l[k] then 3 else 0 := by
  simp [fault, hf, List.getElem?_eq_getElem h]
theorem fault_pos (l : List Cpu) (k : Nat) : fault l k = 0 ∨ fault l k = 1 ∨ fault l k = 3 := by
  induction k with
  | zero => simp [fault]
  | succ k ih =>
    simp only [fault]
    split
    · exact ih
    · split
      · simp
      · split
        · simp
        · split <;> simp
theorem fault_ok (l : List Cpu) (k : Nat) (hf : fault l k = 0) (i : Nat) (hi : i < k) (h : i < l.length) : badB l[i] = false ∧ clash l i l[i] = false := by
  have h1 : fault l i = 0 := by
    by_cases hz : fault l i = 0
    · exact hz
    · have := fault_mono l i k (by omega) hz
      omega
  have h2 : fault l (i + 1) = 0 := by
    by_cases hz : fault l (i + 1) = 0
    · exact hz
    · have := fault_mono l (i + 1) k (by omega) hz
      omega
  rw [fault_next l i h h1] at h2
  cases hb : badB l[i]
  · cases hc : clash l i l[i]
    · exact ⟨rfl, rfl⟩
    · simp [hb, hc] at h2
  · simp [hb] at h2
/-- The last of the first k that has a core. -/
def lastOf (l : List Cpu) : Nat → Int → Option Cpu
  | 0, _ => none
  | k + 1, q => match l[k]? with
    | none => lastOf l k q
    | some c => if c.core = q then some c else lastOf l k q
theorem lastOf_next (l : List Cpu) (k : Nat) (h : k < l.length) (q : Int) : lastOf l (k + 1) q = if l[k].core = q then some l[k] else lastOf l k q := by
  simp [lastOf, List.getElem?_eq_getElem h]
theorem lastOf_mem (l : List Cpu) (k : Nat) (q : Int) (c : Cpu) (h : lastOf l k q = some c) : c.core = q ∧ ∃ i, i < k ∧ l[i]? = some c := by
  induction k with
  | zero => simp [lastOf] at h
  | succ k ih =>
    simp only [lastOf] at h
    split at h
    · obtain ⟨h1, i, h2, h3⟩ := ih h
      exact ⟨h1, i, by omega, h3⟩
    · rename_i d hd
      split at h
      · rename_i hq
        simp only [Option.some.injEq] at h
        subst h
        exact ⟨hq, k, by omega, hd⟩
      · obtain ⟨h1, i, h2, h3⟩ := ih h
        exact ⟨h1, i, by omega, h3⟩
theorem lastOf_none (l : List Cpu) (k : Nat) (q : Int) (h : lastOf l k q = none) (i : Nat) (hi : i < k) (hl : i < l.length) : l[i].core ≠ q := by
  induction k with
  | zero => omega
  | succ k ih =>
    simp only [lastOf] at h
    by_cases he : i = k
    · subst he
      rw [List.getElem?_eq_getElem hl] at h
      simp only at h
      split at h
      · cases h
      · assumption
    · split at h
      · exact ih h (by omega)
      · split at h
        · cases h
        · exact ih h (by omega)
theorem clash_iff (l : List Cpu) (k : Nat) (c : Cpu) : clash l k c = true ↔ ∃ i, ∃ h : i < l.length, i < k ∧ l[i].core = c.core ∧ l[i] ≠ c := by
  unfold clash
  rw [List.any_eq_true]
  constructor
  · rintro ⟨d, hd, h⟩
    obtain ⟨i, hi, rfl⟩ := List.mem_iff_getElem.1 hd
    simp only [List.length_take] at hi
    simp only [List.getElem_take, Bool.and_eq_true, beq_iff_eq, bne_iff_ne] at h
    exact ⟨i, by omega, by omega, h.1, h.2⟩
  · rintro ⟨i, h, h1, h2, h3⟩
    refine ⟨l[i], List.mem_iff_getElem.2 ⟨i, by simp; omega, by simp⟩, by simp [h2, h3]⟩
/-- What the program asks of its map is what the document asks of the list. -/
theorem clash_last (l : List Cpu) (k : Nat) (hf : fault l k = 0) (c : Cpu) : clash l k c = match lastOf l k c.core with | none => false | some d => decide (d ≠ c) := by
  cases hl : lastOf l k c.core with
  | none =>
    simp only
    cases hc : clash l k c
    · rfl
    · obtain ⟨i, h, h1, h2, h3⟩ := (clash_iff l k c).1 hc
      exact absurd h2 (lastOf_none l k _ hl i h1 h)
  | some d =>
    obtain ⟨h1, i, hi, hd⟩ := lastOf_mem l k _ d hl
    obtain ⟨hil, hd⟩ := List.getElem?_eq_some_iff.1 hd
    simp only
    by_cases he : d = c
    · simp only [he, ne_eq, not_true_eq_false, decide_false]
      cases hc : clash l k c
      · rfl
      · obtain ⟨j, h, h2, h3, h4⟩ := (clash_iff l k c).1 hc
        exfalso
        subst he
        rcases Nat.lt_trichotomy i j with hij | hij | hij
        · have := (fault_ok l k hf j h2 h).2
          have h5 := (clash_iff l j l[j]).2 ⟨i, hil, hij, by rw [hd, h3], by rw [hd]; exact fun e => h4 e.symm⟩
          rw [this] at h5
          cases h5
        · subst hij
          exact h4 hd
        · have := (fault_ok l k hf i hi hil).2
          have h5 := (clash_iff l i l[i]).2 ⟨j, h, hij, by rw [hd, h3], by rw [hd]; exact h4⟩
          rw [this] at h5
          cases h5
    · have : clash l k c = true := (clash_iff l k c).2 ⟨i, hil, hi, by rw [hd, h1], by rw [hd]; exact he⟩
      rw [this]
      simp [he]
/-! ### How many of a set on each node -/
def cntOn (l : List Cpu) (s : Nat) (q : Nat) : Nat → Nat
  | 0 => 0
  | k + 1 => cntOn l s q k + (if s.testBit k && (l[k]?).any (fun c => c.node == (q : Int)) then 1 else 0)
theorem cnt_and (l : List Cpu) (s q k n : Nat) : cnt (s &&& wh (fun c => c.node == (q : Int)) l n) k = cntOn l s q (min k n) := by
  induction k with
  | zero => simp [cnt, cntOn]
  | succ k ih =>
    simp only [cnt]
    rw [ih, bit_of, Nat.testBit_and, wh_bit]
    by_cases hk : k < n
    · rw [show min (k + 1) n = min k n + 1 by omega, show min k n = k by omega]
      simp only [cntOn, hk, decide_true, Bool.true_and]
      cases s.testBit k && (l[k]?).any (fun c => c.node == (q : Int)) <;> rfl
    · rw [show min (k + 1) n = min k n by omega]
      simp [hk]
theorem cntOn_next (l : List Cpu) (s q k : Nat) (h : k < l.length) : cntOn l s q (k + 1) = cntOn l s q k + (if s.testBit k && (l[k].node == (q : Int)) then 1 else 0) := by
  simp [cntOn, List.getElem?_eq_getElem h]
theorem cntOn_le (l : List Cpu) (s q k : Nat) : cntOn l s q k ≤ k := by
  induction k with
  | zero => simp [cntOn]
  | succ k ih =>
    simp only [cntOn]
    split <;> omega
end Tp
end Go.Proofs.Yticmfflnenoplab
