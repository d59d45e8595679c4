/- hints.Merge as a whole; the closed fact on wishes. -/
import Derived.Test.YticmfflnenoplabMergeE
import Derived.Test.YticmfflnenoplabHintsE
namespace Go.Proofs.Yticmfflnenoplab
open Go.RowKit Mk

theorem Merge_all (policy : Int) (n : Nat) (l : List Wi) (A : Option Addr) (c : Nat) (S : Nat → Prop) (w : World) (hS : ∀ b, S b → b < w.heap.size) (hR : RS w S 2 (RWish w S) [.slice A l.length c] l) (hl16 : ∀ x, x ∈ l → x.hints.length ≤ 16) :
    Calls Try.prog 8 #[.int .i64 policy, .int .u8 n, .slice A l.length c] w (RetPlace (MergeP policy n l) w) := by
  by_cases h : policy < 0 ∨ 3 < policy ∨ n = 0 ∨ 16 ≤ n
  · exact Merge_bound policy n l A l.length c w h
  · by_cases hl : 4 < l.length
    · exact Merge_many policy n l A c w h hl
    · by_cases hp : policy = 0
      · subst hp
        exact Merge_any0 n l A c w h hl
      · exact Merge_rest policy n l A c S w hS hR hl16 h hl hp

def w0 : List Hint := [⟨2, true⟩, ⟨3, false⟩]
theorem hints0 : hintsOf ⟨1, 2, 0, 0⟩ ⟨2, 2, 0, 0⟩ 3 2 = w0 := by kernel_rfl
theorem merge0 : MergeP 3 3 [⟨false, w0⟩] = (⟨2, true⟩, true, 0) := by kernel_rfl
theorem w0_len : w0.length = 2 := rfl
theorem w0_lt : ∀ x, x ∈ w0 → x.mask < 256 := by
  intro x hx
  simp only [w0, List.mem_cons, List.not_mem_nil, or_false] at hx
  rcases hx with rfl | rfl <;> decide
section
attribute [local irreducible] w0 flatH hintsOf
end
end Go.Proofs.Yticmfflnenoplab
