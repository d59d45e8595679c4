/- Wishes that come in. No statement is proved here. -/
import Derived.Test.YticmfflnenoplabRd
import Derived.Test.YticmfflnenoplabMergeD
namespace Go.Proofs.Yticmfflnenoplab
open Go.RowKit Go.Deep Mk
section
variable {H : Type} {enc : TypeId × Value → H} {w : World} {spare : Nat → Bool} {held : Bool}
theorem rcells_mask : Try.prog.cellsOf 22 = 1 := by kernel_rfl
theorem rcells_bool : Try.prog.cellsOf 4 = 1 := by kernel_rfl
theorem rcells_hint : Try.prog.cellsOf 25 = 2 := by kernel_rfl
theorem rcells_hints : Try.prog.cellsOf 30 = 1 := by kernel_rfl
theorem rcells_wish : Try.prog.cellsOf 32 = 2 := by kernel_rfl
theorem hint_of (fuel : Nat) (cs : List Value) (x : DataW H × List MemPlace) (h : DataW.trod enc Try.prog w 0 spare held fuel 25 cs = some x) : ∃ y, RHint cs y := by
  obtain ⟨xs, n, _, _, hcl, hxl, hf⟩ := DataW.trod_struct Try.underlying25 h
  rw [rcells_hint] at hcl
  obtain ⟨c0, c1, rfl⟩ := Rd.two hcl
  obtain ⟨y0, e0⟩ := Rd.sm (i := 0) hxl (by decide)
  obtain ⟨y1, e1⟩ := Rd.sm (i := 1) hxl (by decide)
  have h0 := Rd.fld hf (i := 0) rfl rfl rfl rcells_mask e0
  have h1 := Rd.fld hf (i := 1) rfl rfl rfl rcells_bool e1
  obtain ⟨k, hk, _, hw⟩ := DataW.trod_int Try.underlying22 h0
  obtain ⟨b, hb, _⟩ := DataW.trod_bool Try.underlying4 h1
  simp at hk hb
  subst hk hb
  have hb := bounds_u8 hw
  obtain ⟨m, rfl⟩ : ∃ m : Nat, k = (m : Int) := ⟨k.toNat, by omega⟩
  exact ⟨⟨m, b⟩, rfl, by dsimp only; omega⟩
theorem wish_of (fuel : Nat) (cs : List Value) (x : DataW H × List MemPlace) (h : DataW.trod enc Try.prog w 0 spare held fuel 32 cs = some x) : ∃ y, RWish w (· < w.heap.size) cs y := by
  obtain ⟨xs, n, _, _, hcl, hxl, hf⟩ := DataW.trod_struct Try.underlying32 h
  rw [rcells_wish] at hcl
  obtain ⟨c0, c1, rfl⟩ := Rd.two hcl
  obtain ⟨y0, e0⟩ := Rd.sm (i := 0) hxl (by decide)
  obtain ⟨y1, e1⟩ := Rd.sm (i := 1) hxl (by decide)
  have h0 := Rd.fld hf (i := 0) rfl rfl rfl rcells_bool e0
  have h1 := Rd.fld hf (i := 1) rfl rfl rfl rcells_hints e1
  obtain ⟨b, hb, _⟩ := DataW.trod_bool Try.underlying4 h0
  obtain ⟨l, hl⟩ := rslice_of Try.underlying30 rcells_hint (by omega) hint_of h1
  simp at hb
  subst hb
  exact ⟨⟨b, l⟩, c1, rfl, RS.of (by simpa using hl)⟩
theorem wishes_of {fuel : Nat} {a0 : Option Addr} {len0 cap0 : Nat} {x : DataW H × List MemPlace} (h : DataW.trod enc Try.prog w 0 spare held fuel 23 [.slice a0 len0 cap0] = some x) : ∃ l, len0 = l.length ∧ RS w (· < w.heap.size) 2 (RWish w (· < w.heap.size)) [.slice a0 l.length cap0] l := by
  obtain ⟨l, hl⟩ := rslice_of Try.underlying23 rcells_wish (by omega) wish_of h
  have hl2 := hl
  obtain ⟨A, cap, e, _⟩ := hl2
  simp only [List.cons.injEq, Value.slice.injEq, and_true] at e
  obtain ⟨_, rfl, _⟩ := e
  exact ⟨l, rfl, RS.of hl⟩
end
end Go.Proofs.Yticmfflnenoplab
