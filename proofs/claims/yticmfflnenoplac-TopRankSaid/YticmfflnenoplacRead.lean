/- The form's own reading of the data that come in, turned into the structures of Data. -/
import Derived.Test.YticmfflnenoplacData
namespace Go.Proofs.Yticmfflnenoplac
open Go.RowKit Go.Deep Da

section
variable {H : Type} {enc : TypeId × Value → H} {w : World} {spare : Nat → Bool} {held : Bool}
theorem list2 {β : Type} {l : List β} (h : l.length = 2) : ∃ c0 c1, l = [c0, c1] := by
  match l, h with
  | [c0, c1], _ => exact ⟨c0, c1, rfl⟩
theorem list3 {β : Type} {l : List β} (h : l.length = 3) : ∃ c0 c1 c2, l = [c0, c1, c2] := by
  match l, h with
  | [c0, c1, c2], _ => exact ⟨c0, c1, c2, rfl⟩
theorem list4 {β : Type} {l : List β} (h : l.length = 4) : ∃ c0 c1 c2 c3, l = [c0, c1, c2, c3] := by
  match l, h with
  | [c0, c1, c2, c3], _ => exact ⟨c0, c1, c2, c3, rfl⟩
theorem list6 {β : Type} {l : List β} (h : l.length = 6) : ∃ c0 c1 c2 c3 c4 c5, l = [c0, c1, c2, c3, c4, c5] := by
  match l, h with
  | [c0, c1, c2, c3, c4, c5], _ => exact ⟨c0, c1, c2, c3, c4, c5, rfl⟩
theorem list10 {β : Type} {l : List β} (h : l.length = 10) : ∃ c0 c1 c2 c3 c4 c5 c6 c7 c8 c9, l = [c0, c1, c2, c3, c4, c5, c6, c7, c8, c9] := by
  match l, h with
  | [c0, c1, c2, c3, c4, c5, c6, c7, c8, c9], _ => exact ⟨c0, c1, c2, c3, c4, c5, c6, c7, c8, c9, rfl⟩
theorem some_of {β : Type} {xs : List β} {n i : Nat} (h : xs.length = n) (hi : i < n) : ∃ y, xs[i]? = some y := ⟨xs[i], List.getElem?_eq_getElem (by omega)⟩
theorem field_of {P : Program} {fs : Array Field} {n i off sz : Nat} {f : Field} {t : TypeId} {cs : List Value} {xs : List (DataW H × List MemPlace)} {y : DataW H × List MemPlace}
    (hf : ∀ (i : Nat) (f : Field), fs[i]? = some f → DataW.trod enc P w 0 spare held n f.type ((cs.drop f.offset).take (P.cellsOf f.type)) = xs[i]?) (hi : fs[i]? = some f) (ht : f.type = t) (ho : f.offset = off) (hs : P.cellsOf t = sz) (e : xs[i]? = some y) :
    DataW.trod enc P w 0 spare held n t ((cs.drop off).take sz) = some y := by
  have := hf i f hi
  rw [ht, ho, hs, e] at this
  exact this
theorem cells_int : Try.prog.cellsOf 3 = 1 := by kernel_rfl
theorem cells_str : Try.prog.cellsOf 9 = 1 := by kernel_rfl
theorem cells_need : Try.prog.cellsOf 64 = 2 := by kernel_rfl
theorem cells_needs : Try.prog.cellsOf 54 = 1 := by kernel_rfl
theorem cells_amount : Try.prog.cellsOf 42 = 2 := by kernel_rfl
theorem cells_cont : Try.prog.cellsOf 56 = 6 := by kernel_rfl
theorem cells_conts : Try.prog.cellsOf 26 = 1 := by kernel_rfl
theorem cells_pod : Try.prog.cellsOf 28 = 3 := by kernel_rfl
theorem cells_use : Try.prog.cellsOf 38 = 2 := by kernel_rfl
theorem cells_uses : Try.prog.cellsOf 23 = 1 := by kernel_rfl
theorem cells_ints : Try.prog.cellsOf 61 = 1 := by kernel_rfl
theorem need_of (fuel : Nat) (cs : List Value) (x : DataW H × List MemPlace) (h : DataW.trod enc Try.prog w 0 spare held fuel 64 cs = some x) : ∃ y, RNeed cs y := by
  obtain ⟨xs, n, _, _, hcl, hxl, hf⟩ := DataW.trod_struct Try.underlying64 h
  rw [cells_need] at hcl
  obtain ⟨c0, c1, rfl⟩ := list2 hcl
  obtain ⟨y0, e0⟩ := some_of (i := 0) hxl (by decide)
  obtain ⟨y1, e1⟩ := some_of (i := 1) hxl (by decide)
  have h0 := field_of hf (i := 0) rfl rfl rfl cells_str e0
  have h1 := field_of hf (i := 1) rfl rfl rfl cells_int e1
  obtain ⟨s, hs, _, hl⟩ := DataW.trod_string Try.underlying9 h0
  obtain ⟨k, hk, _, hw⟩ := DataW.trod_int Try.underlying3 h1
  simp at hs hk
  subst hs hk
  exact ⟨⟨s, k⟩, rfl, hl, i64_bounds hw⟩

theorem use_of (fuel : Nat) (cs : List Value) (x : DataW H × List MemPlace) (h : DataW.trod enc Try.prog w 0 spare held fuel 38 cs = some x) : ∃ y, RUse cs y := by
  obtain ⟨xs, n, _, _, hcl, hxl, hf⟩ := DataW.trod_struct Try.underlying38 h
  rw [cells_use] at hcl
  obtain ⟨c0, c1, rfl⟩ := list2 hcl
  obtain ⟨y0, e0⟩ := some_of (i := 0) hxl (by decide)
  obtain ⟨y1, e1⟩ := some_of (i := 1) hxl (by decide)
  have h0 := field_of hf (i := 0) rfl rfl rfl cells_str e0
  have h1 := field_of hf (i := 1) rfl rfl rfl cells_int e1
  obtain ⟨s, hs, _, hl⟩ := DataW.trod_string Try.underlying9 h0
  obtain ⟨k, hk, _, hw⟩ := DataW.trod_int Try.underlying3 h1
  simp at hs hk
  subst hs hk
  exact ⟨⟨s, k⟩, rfl, hl, i64_bounds hw⟩

theorem int_of (fuel : Nat) (cs : List Value) (x : DataW H × List MemPlace) (h : DataW.trod enc Try.prog w 0 spare held fuel 3 cs = some x) : ∃ y, RInt cs y := by
  obtain ⟨k, hk, _, hw⟩ := DataW.trod_int Try.underlying3 h
  exact ⟨k, hk, i64_bounds hw⟩

theorem amount_of (fuel : Nat) (cs : List Value) (x : DataW H × List MemPlace) (h : DataW.trod enc Try.prog w 0 spare held fuel 42 cs = some x) : ∃ a b : Int, cs = [.int .i64 a, .int .i64 b] ∧ (-9223372036854775808 ≤ a ∧ a ≤ 9223372036854775807) ∧ (-9223372036854775808 ≤ b ∧ b ≤ 9223372036854775807) := by
  obtain ⟨xs, n, _, _, hcl, hxl, hf⟩ := DataW.trod_struct Try.underlying42 h
  rw [cells_amount] at hcl
  obtain ⟨c0, c1, rfl⟩ := list2 hcl
  obtain ⟨y0, e0⟩ := some_of (i := 0) hxl (by decide)
  obtain ⟨y1, e1⟩ := some_of (i := 1) hxl (by decide)
  have h0 := field_of hf (i := 0) rfl rfl rfl cells_int e0
  have h1 := field_of hf (i := 1) rfl rfl rfl cells_int e1
  obtain ⟨s, hs, _, hl⟩ := DataW.trod_int Try.underlying3 h0
  obtain ⟨k, hk, _, hw⟩ := DataW.trod_int Try.underlying3 h1
  simp at hs hk
  subst hs hk
  exact ⟨s, k, rfl, i64_bounds hl, i64_bounds hw⟩

theorem cont_of (fuel : Nat) (cs : List Value) (x : DataW H × List MemPlace) (h : DataW.trod enc Try.prog w 0 spare held fuel 56 cs = some x) : ∃ y, RCont w w.heap.size cs y := by
  obtain ⟨xs, n, _, _, hcl, hxl, hf⟩ := DataW.trod_struct Try.underlying56 h
  rw [cells_cont] at hcl
  obtain ⟨c0, c1, c2, c3, c4, c5, rfl⟩ := list6 hcl
  obtain ⟨y0, e0⟩ := some_of (i := 0) hxl (by decide)
  obtain ⟨y1, e1⟩ := some_of (i := 1) hxl (by decide)
  obtain ⟨y2, e2⟩ := some_of (i := 2) hxl (by decide)
  obtain ⟨y3, e3⟩ := some_of (i := 3) hxl (by decide)
  have h0 := field_of hf (i := 0) rfl rfl rfl cells_str e0
  have h1 := field_of hf (i := 1) rfl rfl rfl cells_amount e1
  have h2 := field_of hf (i := 2) rfl rfl rfl cells_amount e2
  have h3 := field_of hf (i := 3) rfl rfl rfl cells_needs e3
  obtain ⟨s, hs, _, hl⟩ := DataW.trod_string Try.underlying9 h0
  obtain ⟨a, b, hab, ha, hb⟩ := amount_of _ _ _ h1
  obtain ⟨c, d, hcd, hc, hd⟩ := amount_of _ _ _ h2
  obtain ⟨l, hdv⟩ := rslice_of Try.underlying54 cells_need (by omega) need_of h3
  simp at hs hab hcd
  obtain ⟨rfl, rfl⟩ := hab
  obtain ⟨rfl, rfl⟩ := hcd
  subst hs
  exact ⟨⟨s, a, b, c, d, l⟩, c5, rfl, hl, ha, hb, hc, hd, by simpa using hdv⟩

theorem pod_of (fuel : Nat) (cs : List Value) (x : DataW H × List MemPlace) (h : DataW.trod enc Try.prog w 0 spare held fuel 28 cs = some x) : ∃ y, RPod w w.heap.size cs y := by
  obtain ⟨xs, n, _, _, hcl, hxl, hf⟩ := DataW.trod_struct Try.underlying28 h
  rw [cells_pod] at hcl
  obtain ⟨c0, c1, c2, rfl⟩ := list3 hcl
  obtain ⟨y0, e0⟩ := some_of (i := 0) hxl (by decide)
  obtain ⟨y1, e1⟩ := some_of (i := 1) hxl (by decide)
  obtain ⟨y2, e2⟩ := some_of (i := 2) hxl (by decide)
  have h0 := field_of hf (i := 0) rfl rfl rfl cells_str e0
  have h1 := field_of hf (i := 1) rfl rfl rfl cells_int e1
  have h2 := field_of hf (i := 2) rfl rfl rfl cells_conts e2
  obtain ⟨s, hs, _, hl⟩ := DataW.trod_string Try.underlying9 h0
  obtain ⟨k, hk, _, hw⟩ := DataW.trod_int Try.underlying3 h1
  obtain ⟨l, hcv⟩ := rslice_of Try.underlying26 cells_cont (by omega) cont_of h2
  simp at hs hk
  subst hs hk
  exact ⟨⟨s, k, l⟩, c2, rfl, hl, i64_bounds hw, by simpa using hcv⟩

end
end Go.Proofs.Yticmfflnenoplac
