/- The reference's For: the walk: it returns the hints of the plain law. -/
import Derived.Test.YticmfflnenoplabHintsC
namespace Go.Proofs.Yticmfflnenoplab
open Go.RowKit Mk

/-- The hints told up to k. -/
def rowR (free all : A4) (n : Nat) (many : Int) (k : Nat) : List Value := flatH ((masks free n many k).map fun x => ⟨x, goodR all n many x⟩)
theorem rowR_one (free all : A4) (n : Nat) (many : Int) (hm : 0 < many) : rowR free all n many 1 = [] := by simp [rowR, masks_one free n many hm, flatH]
theorem rowR_keep (free all : A4) (n : Nat) (many : Int) (k : Nat) (h : condA free n many k = false) : rowR free all n many (k + 1) = rowR free all n many k ∧ masks free n many (k + 1) = masks free n many k := by simp [rowR, masks, h]
theorem rowR_more (free all : A4) (n : Nat) (many : Int) (k : Nat) (h : condA free n many k = true) : rowR free all n many (k + 1) = rowR free all n many k ++ [.int .u8 k, .bool (goodR all n many k)] ∧ (masks free n many (k + 1)).length = (masks free n many k).length + 1 := by
  simp [rowR, masks, h, flatH, Hint.cells]
theorem rowR_full (free all : A4) (n : Nat) (many : Int) : rowR free all n many 256 = flatH (hintsOf free all n many) ∧ (masks free n many 256).length = (hintsOf free all n many).length := by simp [rowR, hintsOf]
theorem gscan_one (all : A4) (n : Nat) (many : Int) (hm : 0 < many) (k : Nat) : gscan all n many k 1 = true := by
  have : over 0 all = 0 := by simp [over, psum, bt]
  have h : ¬ many ≤ 0 := by omega
  simp [gscan, condA, this, h]
theorem gscan_next (all : A4) (n : Nat) (many : Int) (k j : Nat) : gscan all n many k (j + 1) = (gscan all n many k j && !((sub j n && decide (many ≤ over j all)) && decide (nodes j < nodes k))) := rfl
theorem condA_def (l : A4) (n : Nat) (many : Int) (k : Nat) : condA l n many k = (sub k n && decide (many ≤ over k l)) := rfl
theorem goodR_def (all : A4) (n : Nat) (many : Int) (k : Nat) : goodR all n many k = (gscan all n many k 256 && decide (many ≤ over k all)) := rfl
theorem sub_and : ∀ n : Fin 16, ∀ k : Fin 256, (k.val &&& n.val == k.val) = sub k.val n.val := by decide +kernel

section
attribute [local irreducible] masks over nodes goodR hintsOf flatH sub rowR gscan condA
end
end Go.Proofs.Yticmfflnenoplab
