/- hints.For: what it tells, as plain data. -/
import Derived.Test.YticmfflnenoplabHintsA
namespace Go.Proofs.Yticmfflnenoplab
open Go.RowKit Mk

namespace Mk
def sub (k n : Nat) : Bool := k &&& n == k
def condA (all : A4) (n : Nat) (many : Int) (k : Nat) : Bool := sub k n && decide (many ≤ over k all)
def narrow (all : A4) (n : Nat) (many : Int) : Nat → Nat
  | 0 => 5
  | k + 1 => if condA all n many k then min (narrow all n many k) (nodes k) else narrow all n many k
def masks (free : A4) (n : Nat) (many : Int) : Nat → List Nat
  | 0 => []
  | k + 1 => masks free n many k ++ (if condA free n many k then [k] else [])
def gscan (all : A4) (n : Nat) (many : Int) (k : Nat) : Nat → Bool
  | 0 => true
  | j + 1 => gscan all n many k j && !(condA all n many j && decide (nodes j < nodes k))
def goodR (all : A4) (n : Nat) (many : Int) (k : Nat) : Bool := gscan all n many k 256 && decide (many ≤ over k all)
def goodP (all : A4) (n : Nat) (many : Int) (k : Nat) : Bool := decide (nodes k = narrow all n many (n + 1)) && decide (many ≤ over k all)
structure Hint where
  mask : Nat
  good : Bool
def Hint.cells (h : Hint) : List Value := [.int .u8 h.mask, .bool h.good]
def flatH (l : List Hint) : List Value := l.flatMap Hint.cells
/-- The hints for so many (above 0). -/
def hintsOf (free all : A4) (n : Nat) (many : Int) : List Hint := (masks free n many 256).map fun k => ⟨k, goodR all n many k⟩

theorem sub_le : ∀ n : Fin 16, ∀ k : Fin 256, sub k.val n.val = true → k.val ≤ n.val ∧ nodes k.val ≤ 4 := by decide +kernel
theorem sub_p : ∀ n : Fin 16, ∀ k : Fin 256, (k.val &&& (255 - n.val) == 0) = sub k.val n.val := by decide +kernel
theorem masks_stop (free : A4) (n : Nat) (hn : n < 16) (many : Int) (k : Nat) (h1 : n + 1 ≤ k) (h2 : k ≤ 256) : masks free n many k = masks free n many (n + 1) := by
  induction k with
  | zero => omega
  | succ k ih =>
    by_cases he : n + 1 = k + 1
    · rw [he]
    · have hs : sub k n = false := by
        cases h : sub k n
        · rfl
        · have := (sub_le ⟨n, hn⟩ ⟨k, by omega⟩ h).1
          simp only at this
          omega
      rw [← ih (by omega) (by omega)]
      simp [masks, condA, hs]
theorem masks_lt (free : A4) (n : Nat) (many : Int) (k : Nat) : ∀ x ∈ masks free n many k, x < k ∧ condA free n many x = true := by
  induction k with
  | zero => simp [masks]
  | succ k ih =>
    intro x hx
    simp only [masks, List.mem_append] at hx
    rcases hx with hx | hx
    · exact ⟨Nat.lt_succ_of_lt (ih x hx).1, (ih x hx).2⟩
    · split at hx
      · simp only [List.mem_singleton] at hx
        subst hx
        exact ⟨by omega, by assumption⟩
      · simp at hx
theorem narrow_le (all : A4) (n : Nat) (many : Int) (k j : Nat) (hj : j < k) (hc : condA all n many j = true) : narrow all n many k ≤ nodes j := by
  induction k with
  | zero => omega
  | succ k ih =>
    simp only [narrow]
    by_cases he : j = k
    · subst he
      rw [if_pos hc]
      omega
    · have := ih (by omega)
      split <;> omega
theorem narrow_is (all : A4) (n : Nat) (many : Int) (k : Nat) : narrow all n many k = 5 ∨ ∃ j, j < k ∧ condA all n many j = true ∧ nodes j = narrow all n many k := by
  induction k with
  | zero => exact .inl rfl
  | succ k ih =>
    simp only [narrow]
    split
    · rename_i hc
      rcases Nat.le_total (narrow all n many k) (nodes k) with h | h
      · rw [Nat.min_eq_left h]
        rcases ih with ih | ⟨j, h1, h2, h3⟩
        · exact .inl ih
        · exact .inr ⟨j, by omega, h2, h3⟩
      · rw [Nat.min_eq_right h]
        exact .inr ⟨k, by omega, hc, rfl⟩
    · rcases ih with ih | ⟨j, h1, h2, h3⟩
      · exact .inl ih
      · exact .inr ⟨j, by omega, h2, h3⟩
theorem gscan_iff (all : A4) (n : Nat) (many : Int) (k m : Nat) : gscan all n many k m = true ↔ ∀ j, j < m → condA all n many j = true → nodes k ≤ nodes j := by
  induction m with
  | zero => simp [gscan]
  | succ m ih =>
    simp only [gscan, Bool.and_eq_true, ih, Bool.not_eq_true', Bool.and_eq_false_iff, decide_eq_false_iff_not]
    constructor
    · rintro ⟨h1, h2⟩ j hj hc
      rcases Nat.lt_or_ge j m with h | h
      · exact h1 j h hc
      · obtain rfl : j = m := by omega
        rcases h2 with h2 | h2
        · rw [h2] at hc; cases hc
        · omega
    · intro h
      refine ⟨fun j hj hc => h j (by omega) hc, ?_⟩
      cases hc : condA all n many m
      · exact .inl rfl
      · exact .inr (by have := h m (by omega) hc; omega)
theorem good_eq (all : A4) (n : Nat) (hn : n < 16) (many : Int) (k : Nat) (hk : k < 256) (hs : sub k n = true) : goodP all n many k = goodR all n many k := by
  unfold goodP goodR
  by_cases hm : many ≤ over k all
  · have hc : condA all n many k = true := by simp [condA, hs, hm]
    simp only [hm, decide_true, Bool.and_true]
    rw [Bool.eq_iff_iff, decide_eq_true_iff, gscan_iff]
    obtain ⟨h1, h2⟩ := sub_le ⟨n, hn⟩ ⟨k, hk⟩ hs
    simp only at h1 h2
    constructor
    · intro he j hj hcj
      have hjs : sub j n = true := by
        simp only [condA, Bool.and_eq_true] at hcj
        exact hcj.1
      have := (sub_le ⟨n, hn⟩ ⟨j, hj⟩ hjs).1
      rw [he]
      exact narrow_le all n many (n + 1) j (by simp only at this; omega) hcj
    · intro h
      have hle := narrow_le all n many (n + 1) k (by omega) hc
      rcases narrow_is all n many (n + 1) with h5 | ⟨j, hj, hcj, he⟩
      · omega
      · have := h j (by omega) hcj
        omega
  · simp [hm]
theorem hints_p (free all : A4) (n : Nat) (hn : n < 16) (many : Int) : (masks free n many (n + 1)).map (fun k => (⟨k, goodP all n many k⟩ : Hint)) = hintsOf free all n many := by
  unfold hintsOf
  rw [masks_stop free n hn many 256 (by omega) (by omega)]
  refine List.map_congr_left fun k hk => ?_
  obtain ⟨h1, h2⟩ := masks_lt free n many (n + 1) k hk
  simp only [condA, Bool.and_eq_true] at h2
  rw [good_eq all n hn many k (by omega) h2.1]
end Mk
end Go.Proofs.Yticmfflnenoplab
