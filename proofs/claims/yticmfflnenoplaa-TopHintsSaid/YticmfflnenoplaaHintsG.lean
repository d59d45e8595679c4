/- An array of four numbers that comes in. -/
import Derived.Test.YticmfflnenoplaaHintsF
import Derived.Test.YticmfflnenoplaaOpen
namespace Go.Proofs.Yticmfflnenoplaa
theorem cells_a4 : Try.prog.cellsOf 75 = 4 := by kernel_rfl
theorem cells_i : Try.prog.cellsOf 3 = 1 := by kernel_rfl
open Go.RowKit Go.WideShapes Mk

section
variable {H : Type} {enc : TypeId × Value → H} {w : World} {base b0 : Nat} {sp : Nat → Bool} {held : Bool} {r : Reach} {d : DataW H} {ps : List MemPlace} {v : Value}
theorem open_a4g {P : Program} {t e : TypeId} (ht : P.underlying t = some (.array 4 e)) (he : P.underlying e = some (.int .i64)) (hct : P.cellsOf t = 4) (hce : P.cellsOf e = 1) (hval : Value.okWide P w r b0 t v) (hd : DataW.Trod enc P w base sp held t v d ps) : ∃ l : A4, v = l.val ∧ A4.Wf l := by
  obtain ⟨cs, hv, hcs⟩ := okWide_array ht hval
  subst hv
  rw [hct] at hcs
  obtain ⟨fuel, hf⟩ := hd
  obtain ⟨xs, m, _, _, hl, hxl, hi⟩ := DataW.trod_array ht hf
  rw [hce] at hi
  have key : ∀ i, i < 4 → ∃ k : Int, cs[i]? = some (.int .i64 k) ∧ -9223372036854775808 ≤ k ∧ k ≤ 9223372036854775807 := by
    intro i hlt
    have h1 := hi i hlt
    rw [List.getElem?_eq_getElem (by omega)] at h1
    obtain ⟨k, hk, _, hw⟩ := DataW.trod_int he h1
    refine ⟨k, ?_, bounds_i64 hw⟩
    have h2 : ((Value.agg cs).cells.toList.drop (i * 1)).take 1 = [.int .i64 k] := hk
    have h3 := congrArg (fun l : List Value => l[0]?) h2
    simpa [Value.cells, List.getElem?_take, List.getElem?_drop] using h3
  obtain ⟨k0, e0, f0⟩ := key 0 (by omega)
  obtain ⟨k1, e1, f1⟩ := key 1 (by omega)
  obtain ⟨k2, e2, f2⟩ := key 2 (by omega)
  obtain ⟨k3, e3, f3⟩ := key 3 (by omega)
  refine ⟨⟨k0, k1, k2, k3⟩, ?_, ?_⟩
  · unfold A4.val
    congr 1
    apply Array.ext (by simp [hcs])
    intro i h1 h2
    have h4 : i < 4 := by omega
    rcases (show i = 0 ∨ i = 1 ∨ i = 2 ∨ i = 3 by omega) with rfl | rfl | rfl | rfl
    · rw [Array.getElem?_eq_getElem h1] at e0; simpa using e0
    · rw [Array.getElem?_eq_getElem h1] at e1; simpa using e1
    · rw [Array.getElem?_eq_getElem h1] at e2; simpa using e2
    · rw [Array.getElem?_eq_getElem h1] at e3; simpa using e3
  · intro k hk
    rcases (show k = 0 ∨ k = 1 ∨ k = 2 ∨ k = 3 by omega) with rfl | rfl | rfl | rfl
    · exact f0
    · exact f1
    · exact f2
    · exact f3
end
end Go.Proofs.Yticmfflnenoplaa
