/- EngineSays: the closed fact. No statement is proved here. -/
import Derived.Test.YticmfflnenoplaaEnG
namespace Go.Proofs.Yticmfflnenoplaa
open Go.RowKit Dk
set_option maxRecDepth 100000 in
set_option maxHeartbeats 1000000 in
theorem engines_any (w : World) : Calls Try.prog 75 #[] w (RetBB true w) := by
  go_enter Try.func75, Try.ntmps75
  go_wp2_with fail
  refine (DkP.new_any _).mono ?_
  rintro e w1 ⟨b, rfl, hi, hbe, hb⟩
  have HBE := Lib.hid hbe
  clear hbe
  go_wp2_with fail
  refine (EnNew_any w.heap.size b w1).mono ?_
  rintro e w2 ⟨rfl, hE, hb2⟩
  have hd2 := hi.kept (S := fun _ => False) (Kept.of_below hb2) (fun h => h) (fun _ _ h => h)
  have hz2 := hb.size
  have hbb := hb.trans (hb2.mono hb.size)
  have hE2 := hE
  have hz3 := hE.blk.lt
  generalize w1.heap.size = be at *
  clear hi hE hb hb2
  go_upto_region 5 with fail
  have kd := Blk.new w2 3 #[.int .i64 2]
  have hb3 : Below w2.heap.size w2 (w2.alloc (.cells #[.int .i64 2] 3)) := (Below.refl _ _).alloc (Nat.le_refl _) _
  have hd3 := hd2.kept (S := fun _ => False) (Kept.of_below hb3) (fun h => h) (fun _ _ h => h)
  have hE3 := hE2.below hb3
  have hbb3 := hbb.trans (hb3.mono hbb.size)
  have hr3 : RdI (w2.alloc (.cells #[.int .i64 2] 3)) (fun q => ¬ Fp b (.slice none 0 0) q) (some ⟨w2.heap.size, 0, none⟩) [2] := by
    refine ⟨by simp, fun _ => ⟨w2.heap.size, 0, rfl, ?_, by simp, fun j u hu => ?_⟩⟩
    · rintro (hx | hx)
      · exact Blk.ne_ kd hd3.blk (by decide) hx
      · simp [Value.ownBlock] at hx
    · rw [Nat.zero_add, kd.cell]
      simpa [En.intsV] using hu
  have hst : En.startP Dk.new ([].map En.Run.pr) (En.Run.pr ⟨⟨#[97]⟩, ⟨#[120]⟩, 0, [2], some ⟨w2.heap.size, 0, none⟩, 1⟩) = (0, stepOk Dk.new, [⟨⟨#[97]⟩, ⟨#[120]⟩, 0, [2]⟩]) := rfl
  have HSA := Lib.hid (Start_any w.heap.size be b (.slice none 0 0) (.slice none 0 0) Dk.new [] ⟨⟨#[97]⟩, ⟨#[120]⟩, 0, [2], some ⟨w2.heap.size, 0, none⟩, 1⟩ _ hd3 (by decide) (by decide) hE3 hbb3.size (by simp) (by simp) hr3)
  rw [hst] at HSA
  clear hst hr3 hE3 hd3 hb3 kd hE2 hd2
  go_wp2_with fail
  refine HSA.out.mono ?_
  rintro e w3 ⟨wv', v', l', rfl, hd', -, hE', hpr, -, hk⟩
  rw [errV_0]
  dsimp only at hpr hd'
  have hb4 : Below w.heap.size w w3 := hbb3.trans (hk.below hbb3.size (by
    rintro k hlt ((rfl | hx) | rfl | hx)
    · have := HBE.out; omega
    · simp [Value.ownBlock] at hx
    · omega
    · simp [Value.ownBlock] at hx))
  have hdl : ∀ r ∈ l', r.devs.length ≤ 1000000 := by
    obtain ⟨r', rfl, hr'⟩ := List.map_eq_singleton_iff.1 hpr
    intro r hr
    obtain rfl : r = r' := by simpa using hr
    have := congrArg En.PR.devs hr'
    simp only [En.Run.pr] at this
    rw [this]
    decide
  have HLI := Lib.hid (List_any w.heap.size be b v' l' w3 hE' hdl)
  have HPR := Lib.hid hpr
  clear HSA hbb3 hk hd' hE' hdl hpr
  go_wp2_with fail
  refine HLI.out.mono ?_
  rintro e w4 ⟨A, c, l2, rfl, hp2, hown4, hdv4, hb5⟩
  rw [HPR.out] at hp2
  obtain ⟨r2, rfl, hr2⟩ := List.map_eq_singleton_iff.1 hp2
  obtain ⟨rp, rc, rx, rd, rA, rdc⟩ := r2
  simp only [En.Run.pr, En.PR.mk.injEq] at hr2
  obtain ⟨rfl, rfl, rfl, rfl⟩ := hr2
  obtain ⟨A', c', he, _, hc9, h3⟩ := own_form hown4
  simp only [Value.slice.injEq, true_and] at he
  obtain ⟨rfl, rfl⟩ := he
  obtain ⟨g, rfl, hg, _⟩ := h3 (by simp)
  have c3 := (hown4.cellAt 3 (by simp)).trans (En.flatR_at [⟨_, _, _, _, rA, rdc⟩] 0 (by simp) 3 (by omega))
  simp only [List.getElem_cons_zero, En.Run.cells] at c3
  have hd1 := hdv4 _ (List.mem_singleton.2 rfl)
  have hrd := RdI.own hd1
  have hb6 := hb4.trans (hb5.mono hb4.size)
  have HRD := Lib.hid hrd
  clear HLI hown4 hdv4 hb5 h3 hd1 hrd hp2 hb4
  go_wp2_with fail
  refine (same_yes 0 (by omega) _).mono ?_
  rintro e w5 ⟨rfl, rfl⟩
  have k2 := Blk.new w4 3 #[.int .i64 2]
  have hb7 : Below w4.heap.size w4 (w4.alloc (.cells #[.int .i64 2] 3)) := (Below.refl _ _).alloc (Nat.le_refl _) _
  have hr2 : RdI (w4.alloc (.cells #[.int .i64 2] 3)) (fun _ => True) (some ⟨w4.heap.size, 0, none⟩) [2] := by
    refine ⟨by simp, fun _ => ⟨w4.heap.size, 0, rfl, trivial, by simp, fun j u hu => ?_⟩⟩
    rw [Nat.zero_add, k2.cell]
    simpa [En.intsV] using hu
  have HSN := Lib.hid (SameI_any rA (some ⟨w4.heap.size, 0, none⟩) rdc 1 [2] _ _ _ (by simp) (HRD.out.below hb7) hr2)
  have hbb := hb6.trans (hb7.mono hb6.size)
  clear k2 hr2 hb7
  go_wp2_with fail
  refine HSN.out.mono ?_
  rintro e w5 ⟨rfl, hb8⟩
  go_wp2_with fail
  go_ret
  exact ⟨rfl, hbb.trans (hb8.mono hbb.size)⟩
end Go.Proofs.Yticmfflnenoplaa
