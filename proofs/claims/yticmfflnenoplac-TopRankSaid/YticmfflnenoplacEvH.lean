/- Who goes first: the reference's Rank: its walk. No statement is proved here. -/
import Derived.Test.YticmfflnenoplacEvF
import Derived.Test.YticmfflnenoplacEvG
import Derived.Laws.MakeOwn
namespace Go.Proofs.Yticmfflnenoplac
open Go.RowKit Go.Deep Da Qo Ev
theorem own_drewN {w : World} {base : Nat} {e : TypeId} {size n : Nat} {v : Value} {xs : List Value} (h : w.ownsRow base e size v n xs) (k : Nat) : (w.drewN k).ownsRow base e size v n xs := h
section
attribute [local irreducible] usedF rowOf rowsV rankL namesV askedB askedM sortR RPod RCont ltB doneB doneL boolsV Best
end
end Go.Proofs.Yticmfflnenoplac
