/- Processors that come in. No statement is proved here. -/
import Derived.Test.YticmfflnenoplabRd
import Derived.Test.YticmfflnenoplabTopoB
namespace Go.Proofs.Yticmfflnenoplab
open Go.RowKit Go.Deep Tp
section
variable {H : Type} {enc : TypeId × Value → H} {w : World} {spare : Nat → Bool} {held : Bool}
theorem rcells_cpu : Try.prog.cellsOf 41 = 3 := by kernel_rfl
theorem rcells_int : Try.prog.cellsOf 3 = 1 := by kernel_rfl
theorem cpu_of (fuel : Nat) (cs : List Value) (x : DataW H × List MemPlace) (h : DataW.trod enc Try.prog w 0 spare held fuel 41 cs = some x) : ∃ y, RCpu cs y := by
  obtain ⟨xs, n, _, _, hcl, hxl, hf⟩ := DataW.trod_struct Try.underlying41 h
  rw [rcells_cpu] at hcl
  obtain ⟨c0, c1, c2, rfl⟩ := Rd.three hcl
  obtain ⟨y0, e0⟩ := Rd.sm (i := 0) hxl (by decide)
  obtain ⟨y1, e1⟩ := Rd.sm (i := 1) hxl (by decide)
  obtain ⟨y2, e2⟩ := Rd.sm (i := 2) hxl (by decide)
  have h0 := Rd.fld hf (i := 0) rfl rfl rfl rcells_int e0
  have h1 := Rd.fld hf (i := 1) rfl rfl rfl rcells_int e1
  have h2 := Rd.fld hf (i := 2) rfl rfl rfl rcells_int e2
  obtain ⟨k0, hk0, _, hw0⟩ := DataW.trod_int Try.underlying3 h0
  obtain ⟨k1, hk1, _, hw1⟩ := DataW.trod_int Try.underlying3 h1
  obtain ⟨k2, hk2, _, hw2⟩ := DataW.trod_int Try.underlying3 h2
  simp at hk0 hk1 hk2
  subst hk0 hk1 hk2
  exact ⟨⟨k0, k1, k2⟩, rfl, i64_bounds hw0, i64_bounds hw1, i64_bounds hw2⟩
theorem cpus_of {fuel : Nat} {a0 : Option Addr} {len0 cap0 : Nat} {x : DataW H × List MemPlace} (h : DataW.trod enc Try.prog w 0 spare held fuel 36 [.slice a0 len0 cap0] = some x) : ∃ l : List Cpu, RS w (· < w.heap.size) 3 RCpu [.slice a0 len0 cap0] l := by
  obtain ⟨l, hl⟩ := rslice_of Try.underlying36 rcells_cpu (by omega) cpu_of h
  exact ⟨l, RS.of hl⟩
end
end Go.Proofs.Yticmfflnenoplab
