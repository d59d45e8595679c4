/- classes: its walk; the pods that are good, as a slice. -/
import Derived.Test.YticmfflnenoplaaQosM
import Derived.Test.YticmfflnenoplaaQosK
namespace Go.Proofs.Yticmfflnenoplaa
open Go.RowKit Qo Da
def c0 : Cont := ⟨⟨#[120]⟩, 2000, 5, 2000, 5, []⟩
def p0 : Pod := ⟨⟨#[97]⟩, 0, [c0]⟩
theorem pf0 : podFault p0 = 0 := by decide +kernel
theorem cls0 : cls p0 = 3 := by decide +kernel
theorem own0 : ownN p0 c0 = 2 := by decide +kernel
theorem RPod.mono {w : World} {B B' : Nat} {cs : List Value} {p : Pod} (h : RPod w B cs p) (hb : B ≤ B') : RPod w B' cs p := by
  obtain ⟨cv, h1, h2, h3, A, cap, e1, e2, e3, h4⟩ := h
  refine ⟨cv, h1, h2, h3, A, cap, e1, e2, e3, ?_⟩
  rcases h4 with h4 | ⟨b, off, hA, hlt, h4⟩
  · exact .inl h4
  · refine .inr ⟨b, off, hA, by omega, fun i hi => ?_⟩
    obtain ⟨cs', hl, hc, dv, q1, q2, q3, q4, q5, q6, A2, cap2, f1, f2, f3, h5⟩ := h4 i hi
    refine ⟨cs', hl, hc, dv, q1, q2, q3, q4, q5, q6, A2, cap2, f1, f2, f3, ?_⟩
    rcases h5 with h5 | ⟨b2, off2, hA2, hlt2, h5⟩
    · exact .inl h5
    · exact .inr ⟨b2, off2, hA2, by omega, h5⟩
theorem same0 (W : World) : Calls Try.prog 16 #[.nilIface, .int .i64 0] W (RetB true W) := by
  rw [← errV_0]
  exact same_yes 0 (by omega) W
def C0 : Array Value := #[.string ⟨#[120]⟩, .int .i64 2000, .int .i64 5, .int .i64 2000, .int .i64 5, .slice none 0 0]
theorem rc0 (W : World) (B : Nat) : RCont W B C0.toList c0 :=
  ⟨_, rfl, by decide, by decide, by decide, by decide, by decide, none, 0, rfl, by simp [c0], by simp [maxLen], .inl rfl⟩
theorem rp0 (w : World) : RPod ((w.alloc (.cells C0 106)).alloc (.cells #[.string ⟨#[97]⟩, .int .i64 0, .slice (some ⟨w.heap.size, 0, none⟩) 1 1] 33)) (w.heap.size + 1) [.string ⟨#[97]⟩, .int .i64 0, .slice (some ⟨w.heap.size, 0, none⟩) 1 1] p0 := by
  have b := (Blk.new w 106 C0).alloc (.cells #[.string ⟨#[97]⟩, .int .i64 0, .slice (some ⟨w.heap.size, 0, none⟩) 1 1] 33)
  refine ⟨_, rfl, by decide, by decide, ?_⟩
  exact RS.blk (l := [c0]) (f := fun _ => C0.toList) (S := (· < w.heap.size + 1)) b (by simp) (by simp [maxLen]) (fun x _ => rfl) (fun x hx => by
    obtain rfl : x = c0 := by simpa using hx
    exact rc0 _ _) (by show w.heap.size < w.heap.size + 1; omega)
section
attribute [local irreducible] podFault cls ownN RPod RCont RSlice
set_option maxRecDepth 100000 in
set_option maxHeartbeats 4000000 in
theorem classes_any (w : World) : Calls Try.prog 58 #[] w (RetBB true w) := by
  have hbel : Below w.heap.size w ((w.alloc (.cells C0 106)).alloc (.cells #[.string ⟨#[97]⟩, .int .i64 0, .slice (some ⟨w.heap.size, 0, none⟩) 1 1] 33)) := ((Below.refl _ _).alloc (Nat.le_refl _) _).alloc (by simp) _
  have b0 := (Blk.new w 106 C0).alloc (.cells #[.string ⟨#[97]⟩, .int .i64 0, .slice (some ⟨w.heap.size, 0, none⟩) 1 1] 33)
  have b1 := Blk.new (w.alloc (.cells C0 106)) 33 #[.string ⟨#[97]⟩, .int .i64 0, .slice (some ⟨w.heap.size, 0, none⟩) 1 1]
  simp only [World.size_alloc] at b1
  have HP := Lib.hid (rp0 w)
  have hG0 := good_of pf0
  have HG := Lib.hid hG0
  have hgc : GoodC c0 := hG0.all 0 (by decide)
  have HGC := Lib.hid hgc
  clear hG0 hgc
  unfold C0 at hbel b0 b1 HP
  go_enter Try.func58, Try.ntmps58
  go_upto_region 2 with fail
  generalize (w.alloc (.cells #[.string ⟨#[120]⟩, .int .i64 2000, .int .i64 5, .int .i64 2000, .int .i64 5, .slice none 0 0] 106)).alloc (.cells #[.string ⟨#[97]⟩, .int .i64 0, .slice (some ⟨w.heap.size, 0, none⟩) 1 1] 33) = w2 at *
  have e0 := b0.cells
  have z0 := b0.lt
  have e1 := b1.cells
  have z1 := b1.lt
  have hI : Below w2.heap.size w2 w2.drew := (Below.refl _ _).drew
  refine Flo.region 18 [(0, true), (1, false), (2, false), (3, true), (4, true), (5, false), (6, true), (7, true), (8, true), (9, true), (10, true), (11, true), (12, true), (13, true), (14, false), (15, true), (16, true), (17, true)] (fun v => Below w2.heap.size w2 v) (by kernel_rfl) (by kernel_rfl) rfl hI ?_
  simp only [List.drop_succ_cons, List.drop_zero]
  iterate 1 (apply Flo.op rfl (hI := hI); (· intro v hv K hK; obtain ⟨hc, hf⟩ := Flo.bcl hv; go_wp2_with fail; all_goals first | exact Flo.noUndef (by with_reducible assumption) | exact hK); (· rfl))
  refine Flo.seq rfl fun K hK => ?_
  go_wp2_with fail
  refine (Check_any p0 _ (w.heap.size + 1) _ (by have := hI.size; omega) (HP.out.below (hI.mono (by omega)))).mono ?_
  rintro e y1 ⟨rfl, hb1⟩
  rw [pf0, errV_0]
  have hJ : Below w2.heap.size w2 y1 := hI.trans (hb1.mono hI.size)
  go_wp2_with fail
  refine hK _ _ hJ ?_
  clear hb1 hK hI
  refine Flo.seq rfl fun K hK => ?_
  go_wp2_with fail
  refine (same0 _).mono ?_
  rintro e yq ⟨rfl, rfl⟩
  go_wp2_with fail
  refine hK _ _ hJ ?_
  clear hK
  iterate 2 (apply Flo.op rfl (hI := hJ); (· intro v hv K hK; obtain ⟨hc, hf⟩ := Flo.bcl hv; go_wp2_with fail; all_goals first | exact Flo.noUndef (by with_reducible assumption) | exact hK); (· rfl))
  refine Flo.seq rfl fun K hK => ?_
  go_wp2_with fail
  refine (Class_any p0 HG.out _ (w.heap.size + 1) _ (by have := hJ.size; omega) (HP.out.below (hJ.mono (by omega)))).mono ?_
  rintro e y2 ⟨rfl, hb2⟩
  rw [cls0]
  have hJ2 : Below w2.heap.size w2 y2 := hJ.trans (hb2.mono hJ.size)
  go_wp2_with fail
  refine hK _ _ hJ2 ?_
  clear hb2 hK hJ
  iterate 8 (apply Flo.op rfl (hI := hJ2); (· intro v hv K hK; obtain ⟨hc, hf⟩ := Flo.bcl hv; go_wp2_with fail; all_goals first | exact Flo.noUndef (by with_reducible assumption) | exact hK); (· rfl))
  refine Flo.seq rfl fun K hK => ?_
  go_wp2_with fail
  refine (Own_any p0 HG.out c0 HGC.out _ _ (w.heap.size + 1) _ (by have := hJ2.size; omega) (HP.out.below (hJ2.mono (by omega))) (rc0 _ _)).mono ?_
  rintro e y3 ⟨rfl, hb3⟩
  rw [own0]
  have hJ3 : Below w2.heap.size w2 y3 := hJ2.trans (hb3.mono hJ2.size)
  go_wp2_with fail
  refine hK _ _ hJ3 ?_
  clear hb3 hK hJ2
  iterate 3 (apply Flo.op rfl (hI := hJ3); (· intro v hv K hK; obtain ⟨hc, hf⟩ := Flo.bcl hv; go_wp2_with fail; all_goals first | exact Flo.noUndef (by with_reducible assumption) | exact hK); (· rfl))
  refine Flo.tail fun K hK => ?_
  go_wp2_with fail
  go_ret
  exact ⟨rfl, hbel.trans (hJ3.mono hbel.size)⟩
end
end Go.Proofs.Yticmfflnenoplaa
