/- classes: its walk; the pods that are good, as a slice. -/
import Derived.Test.YticmfflnenoplabQosM
import Derived.Test.YticmfflnenoplabQosK
namespace Go.Proofs.Yticmfflnenoplab
open Go.RowKit Qo Da
def c0 : Cont := ⟨⟨#[120]⟩, 2000, 5, 2000, 5, []⟩
def p0 : Pod := ⟨⟨#[97]⟩, 0, [c0]⟩
theorem pf0 : podFault p0 = 0 := by decide +kernel
theorem cls0 : cls p0 = 3 := by decide +kernel
theorem own0 : ownN p0 c0 = 2 := by decide +kernel
theorem RPod.mono {w : World} {B B' : Nat} {cs : List Value} {p : Pod} (h : RPod w B cs p) (hb : B ≤ B') : RPod w B' cs p := by
  obtain ⟨cv, h1, h2, h3, A, cap, e1, e2, e3, h4⟩ := h
  refine ⟨cv, h1, h2, h3, A, cap, e1, e2, e3, ?_⟩
  rcases h4 with h4 | ⟨b, off, hA, hlt, h4⟩
  · exact .inl h4
  · refine .inr ⟨b, off, hA, by omega, fun i hi => ?_⟩
    obtain ⟨cs', hl, hc, dv, q1, q2, q3, q4, q5, q6, A2, cap2, f1, f2, f3, h5⟩ := h4 i hi
    refine ⟨cs', hl, hc, dv, q1, q2, q3, q4, q5, q6, A2, cap2, f1, f2, f3, ?_⟩
    rcases h5 with h5 | ⟨b2, off2, hA2, hlt2, h5⟩
    · exact .inl h5
    · exact .inr ⟨b2, off2, hA2, by omega, h5⟩
def C0 : Array Value := #[.string ⟨#[120]⟩, .int .i64 2000, .int .i64 5, .int .i64 2000, .int .i64 5, .slice none 0 0]
theorem rc0 (W : World) (B : Nat) : RCont W B C0.toList c0 :=
  ⟨_, rfl, by decide, by decide, by decide, by decide, by decide, none, 0, rfl, by simp [c0], by simp [maxLen], .inl rfl⟩
theorem rp0 (w : World) : RPod ((w.alloc (.cells C0 58)).alloc (.cells #[.string ⟨#[97]⟩, .int .i64 0, .slice (some ⟨w.heap.size, 0, none⟩) 1 1] 53)) (w.heap.size + 1) [.string ⟨#[97]⟩, .int .i64 0, .slice (some ⟨w.heap.size, 0, none⟩) 1 1] p0 := by
  have b := (Blk.new w 58 C0).alloc (.cells #[.string ⟨#[97]⟩, .int .i64 0, .slice (some ⟨w.heap.size, 0, none⟩) 1 1] 53)
  refine ⟨_, rfl, by decide, by decide, ?_⟩
  exact RS.blk (l := [c0]) (f := fun _ => C0.toList) (S := (· < w.heap.size + 1)) b (by simp) (by simp [maxLen]) (fun x _ => rfl) (fun x hx => by
    obtain rfl : x = c0 := by simpa using hx
    exact rc0 _ _) (by show w.heap.size < w.heap.size + 1; omega)
section
attribute [local irreducible] podFault cls ownN RPod RCont RSlice
end
end Go.Proofs.Yticmfflnenoplab
