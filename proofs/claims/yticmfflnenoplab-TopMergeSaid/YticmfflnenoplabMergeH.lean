/- ostleryref.better, choices: their walks. -/
import Derived.Test.YticmfflnenoplabMergeD
import Derived.Test.YticmfflnenoplabMergeG
namespace Go.Proofs.Yticmfflnenoplab
open Go.RowKit Mk

section
attribute [local irreducible] nodes
end
section
attribute [local irreducible] nodes lets fil flatH
end
end Go.Proofs.Yticmfflnenoplab
