/- ostleryref.Merge: its walk where the wishes are merged. -/
import Derived.Test.YticmfflnenoplabMergeI
namespace Go.Proofs.Yticmfflnenoplab
open Go.RowKit Mk

theorem soAt_full (ls : List (List Hint)) (n : Nat) (hn : n < 256) (hz : n ≠ 0) (k : Nat) (hk : k = ls.length) : bestR (soAt ls n k) ⟨n, false⟩ = mergeP ls ⟨n, true⟩ ⟨n, false⟩ := by
  subst hk; exact both_ways ls n hn hz
theorem soAt_nx (ls : List (List Hint)) (n k : Nat) (x : List Hint) (h : ls[k]? = some x) : soAt ls n (k + 1) = stepR (soAt ls n k) x := by
  obtain ⟨hk, rfl⟩ := List.getElem?_eq_some_iff.1 h
  exact soAt_next ls n k hk
theorem outR_le (P : List Hint) (k : Nat) (h : k ≤ 256) : (outR P k).length ≤ 512 := Nat.le_trans (outR_len P k) (by omega)

section
attribute [local irreducible] mergeP listP MergeP soAt outR prs bArr bestR bestAt has flatH better Hid
end
end Go.Proofs.Yticmfflnenoplab
