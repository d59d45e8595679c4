/- ostleryref.Merge: its walk where it answers at once; the loops' words. -/
import Derived.Test.YticmfflnenoplabMergeH
import Derived.Test.YticmfflnenoplabHintsE
namespace Go.Proofs.Yticmfflnenoplab
open Go.RowKit Mk

def RetRef (r : Hint × Bool × Int) (w : World) (e : Ending) (w' : World) : Prop := e = .returned (.tuple #[.agg #[.int .u8 r.1.mask, .bool r.1.good], .bool r.2.1, .int .i64 r.2.2]) ∧ Below w.heap.size w w'
section
attribute [local irreducible] mergeP listP MergeP
end
theorem flatH_at2 (l : List Hint) (k : Nat) (h : k < l.length) : (flatH l)[k * 2]? = some (.int .u8 l[k].mask) ∧ (flatH l)[k * 2 + 1]? = some (.bool l[k].good) := flatH_at l k h
theorem bArr_nil : bArr (has [] true) = Array.replicate 256 (.bool false) ∧ bArr (has [] false) = Array.replicate 256 (.bool false) := by
  constructor <;> (apply Array.ext (by simp [bArr]); intro i h1 h2; simp [bArr, has_nil])
end Go.Proofs.Yticmfflnenoplab
