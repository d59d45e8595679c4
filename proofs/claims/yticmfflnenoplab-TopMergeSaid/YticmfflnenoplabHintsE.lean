/- The law's own small functions: SameWish at two wishes of the same hints, small. -/
import Derived.Test.YticmfflnenoplabHintsD
namespace Go.Proofs.Yticmfflnenoplab
open Go.RowKit Mk

theorem flatH_at (l : List Hint) (i : Nat) (hi : i < l.length) : (flatH l)[i * 2]? = some (.int .u8 (l[i].mask : Int)) ∧ (flatH l)[i * 2 + 1]? = some (.bool l[i].good) := by
  induction l generalizing i with
  | nil => simp at hi
  | cons h l ih =>
    cases i with
    | zero => simp [flatH, Hint.cells]
    | succ i =>
      have := ih i (by simpa using hi)
      simp only [flatH, List.flatMap_cons, Hint.cells, List.cons_append, List.nil_append, List.getElem_cons_succ] at this ⊢
      rw [show (i + 1) * 2 = i * 2 + 1 + 1 by omega]
      simpa using this

section
attribute [local irreducible] flatH
end

end Go.Proofs.Yticmfflnenoplab
