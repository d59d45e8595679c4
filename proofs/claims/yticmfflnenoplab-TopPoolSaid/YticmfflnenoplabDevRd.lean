/- Devices that come in, read. No statement is proved here. -/
import Derived.Test.YticmfflnenoplabDvA
import Derived.Test.YticmfflnenoplabRead
namespace Go.Proofs.Yticmfflnenoplab
open Go.RowKit Go.Deep Dv
section
variable {H : Type} {enc : TypeId × Value → H} {w : World} {spare : Nat → Bool} {held : Bool}
theorem cells_dev : Try.prog.cellsOf 76 = 3 := by kernel_rfl
theorem cells_boolD : Try.prog.cellsOf 4 = 1 := by kernel_rfl
theorem list3D {cs : List Value} (h : cs.length = 3) : ∃ a b c, cs = [a, b, c] := by
  match cs, h with
  | [a, b, c], _ => exact ⟨a, b, c, rfl⟩
theorem dev_of (fuel : Nat) (cs : List Value) (x : DataW H × List MemPlace) (h : DataW.trod enc Try.prog w 0 spare held fuel 76 cs = some x) : ∃ y, RDev cs y := by
  obtain ⟨xs, n, _, _, hcl, hxl, hf⟩ := DataW.trod_struct Try.underlying76 h
  rw [cells_dev] at hcl
  obtain ⟨c0, c1, c2, rfl⟩ := list3D hcl
  obtain ⟨y0, e0⟩ := some_of (i := 0) hxl (by decide)
  obtain ⟨y1, e1⟩ := some_of (i := 1) hxl (by decide)
  obtain ⟨y2, e2⟩ := some_of (i := 2) hxl (by decide)
  have h0 := field_of hf (i := 0) rfl rfl rfl cells_str e0
  have h1 := field_of hf (i := 1) rfl rfl rfl cells_int e1
  have h2 := field_of hf (i := 2) rfl rfl rfl cells_boolD e2
  obtain ⟨s, hs, _, hl⟩ := DataW.trod_string Try.underlying9 h0
  obtain ⟨k, hk, _, hw⟩ := DataW.trod_int Try.underlying3 h1
  obtain ⟨b, hb, _⟩ := DataW.trod_bool Try.underlying4 h2
  simp at hs hk hb
  subst hs hk hb
  exact ⟨⟨s, k, b⟩, rfl, hl, i64_bounds hw⟩
end
end Go.Proofs.Yticmfflnenoplab
