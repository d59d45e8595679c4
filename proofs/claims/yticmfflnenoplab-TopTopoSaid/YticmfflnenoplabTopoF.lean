/- ostleryref.TopoFault: its walk. -/
import Derived.Test.YticmfflnenoplabTopoE
import Derived.Test.YticmfflnenoplabTopoC
namespace Go.Proofs.Yticmfflnenoplab
open Go.RowKit Tp
theorem clash_zero (l : List Cpu) (c : Cpu) : clash l 0 c = false := by simp [clash]
theorem clash_next (l : List Cpu) (k : Nat) (h : k < l.length) (c : Cpu) : clash l (k + 1) c = (clash l k c || (l[k].core == c.core && l[k] != c)) := by
  unfold clash
  rw [List.take_succ_eq_append_getElem h, List.any_append]
  simp
theorem clash_mono (l : List Cpu) (k n : Nat) (h : k ≤ n) (c : Cpu) (hc : clash l k c = true) : clash l n c = true := by
  obtain ⟨i, h1, h2, h3⟩ := (clash_iff l k c).1 hc
  exact (clash_iff l n c).2 ⟨i, h1, by omega, h3⟩
def FaultPost (n : Int) (w : World) (e : Ending) (w' : World) : Prop := e = .returned (.int .i64 n) ∧ Below w.heap.size w w'
theorem below_drewN {B : Nat} {a w : World} (h : Below B a w) (n : Nat) : Below B a (w.drewN n) := ⟨h.os, h.tape, h.output, h.size, h.block⟩
theorem FaultPost.mk' {n m : Int} {w w' : World} (h : n = m) (hb : Below w.heap.size w w') : FaultPost n w (.returned (.int .i64 m)) w' := ⟨by rw [h], hb⟩
section
attribute [local irreducible] fault clash badB Fault
end
end Go.Proofs.Yticmfflnenoplab
