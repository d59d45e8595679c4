/- topos, TopoSays: their walks. -/
import Derived.Test.YticmfflnenoplabTopoF
namespace Go.Proofs.Yticmfflnenoplab
open Go.RowKit Tp
theorem RS.keep {α : Type} {w w' : World} {B C : Nat} {R : List Value → α → Prop} {cs : List Value} {l : List α} (h : RS w (· < B) C R cs l) (hb : Below B w w') : RS w' (· < B) C R cs l :=
  h.move (fun b hb' => hb.block b hb') (fun _ h => h) (fun _ _ _ h => h)
def l0 : List Cpu := [⟨0, 0, 0⟩, ⟨1, 0, 1⟩]
theorem fault0 : Fault l0 = 0 := by decide +kernel
theorem all0 : wh (fun _ => true) l0 l0.length = 3 := by decide +kernel
theorem on0 : wh (fun c => onB 2 c) l0 l0.length = 2 := by decide +kernel
theorem node0 : ∀ c, c ∈ l0 → 0 ≤ c.node ∧ c.node ≤ 3 := by
  intro c hc
  simp [l0] at hc
  rcases hc with rfl | rfl <;> simp
section
attribute [local irreducible] Fault wh TopoAt
end
end Go.Proofs.Yticmfflnenoplab
