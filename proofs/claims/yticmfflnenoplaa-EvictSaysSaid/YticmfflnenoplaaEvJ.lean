/- EvictSays: its walk. No statement is proved here. -/
import Derived.Test.YticmfflnenoplaaEvI
import Derived.Test.YticmfflnenoplaaQosE
namespace Go.Proofs.Yticmfflnenoplaa
open Go.RowKit Go.Deep Da Qo Ev
theorem podFault_nn9 (p : Pod) : 0 ≤ podFault p := by
  have key : ∀ (f : Nat → Int), (∀ k, 0 ≤ f k) → ∀ n, 0 ≤ firstF f n := by
    intro f hf n
    induction n with
    | zero => simp [firstF]
    | succ n ih =>
      rw [firstF]
      split
      · exact hf n
      · exact ih
  have hn : ∀ l k, 0 ≤ needFault l k := fun l k => by rcases needFault_01 l k with h | h | h <;> omega
  have hc : ∀ c, 0 ≤ contFault c := by
    intro c
    unfold contFault
    split
    · omega
    · split
      · omega
      · split
        · omega
        · exact key _ (hn _) _
  have ha : ∀ l k, 0 ≤ atFault l k := by
    intro l k
    unfold atFault
    split
    · omega
    · split
      · omega
      · split
        · omega
        · exact hc _
  unfold podFault
  split
  · omega
  · split
    · omega
    · split
      · omega
      · exact key _ (ha _) _
def ApP (l : List Pod) (w : World) (e : Ending) (w' : World) : Prop := ∃ b : Bool, e = .returned (.bool b) ∧ (b = true → (∀ p ∈ l, podFault p = 0) ∧ (l.map fun p => (p.name : ByteArray)).Nodup) ∧ Below w.heap.size w w'
theorem ApP.no {l : List Pod} {w w' : World} (hb : Below w.heap.size w w') : ApP l w (.returned (.bool false)) w' := ⟨false, rfl, (fun h => by cases h), hb⟩
theorem nodup_of {l : List Pod} (h : ∀ i (hi : i < l.length) j (hj : j < l.length), j < i → sameS l[j].name l[i].name = false) : (l.map fun p => (p.name : ByteArray)).Nodup := by
  unfold List.Nodup
  rw [List.pairwise_iff_getElem]
  intro i j hi hj hij he
  have hi' : i < l.length := by simpa using hi
  have hj' : j < l.length := by simpa using hj
  have := h j hj' i hi' hij
  simp only [List.getElem_map] at he
  rw [he, sameS_self] at this
  cases this
section
attribute [local irreducible] podFault RPod RCont
set_option maxRecDepth 100000 in
set_option maxHeartbeats 4000000 in
theorem apart_any (v : Value) (l : List Pod) (B : Nat) (w : World) (hB : B ≤ w.heap.size) (h : RSlice w B 3 (RPod w B) [v] l) :
    Calls Try.prog 83 #[v] w (ApP l w) := by
  obtain ⟨A, cap, hv, hl, hcap, hA⟩ := h.form
  obtain rfl : v = _ := by simpa using hv
  unfold maxLen at hcap
  have HA := Lib.hid hA
  have HR := Lib.hid h
  clear h hv hA
  go_enter Try.func83, Try.ntmps83
  go_wp2_with fail
  go_loopw [3] (fun i wi => ∃ k : Nat, i = .int .i64 k ∧ k ≤ l.length ∧ Hid (∀ i (hi : i < l.length), i < k → podFault l[i] = 0 ∧ ∀ j (hj : j < l.length), j < i → sameS l[j].name l[i].name = false) ∧ Below w.heap.size w wi) (fun i _ => l.length - (intOf i).toNat)
  case atStart => exact ⟨0, rfl, by omega, Lib.hid (fun i hi h => by omega), Below.refl _ _⟩
  case round =>
    obtain ⟨k, rfl, hk, HN, hb⟩ := hrel
    by_cases hlt : k < l.length
    · obtain ⟨b, off, rfl⟩ := HA.out k hlt
      obtain ⟨hblt, cs', hc1, hc2, hp0⟩ := (HR.out.below (hb.mono hB)).at_ hlt
      have hp := hp0.below (hb.mono hB)
      obtain ⟨A8, n8, c8, hcs⟩ := rpod_open hp0
      have g0 := hc2 0 _ (by rw [hcs]; rfl)
      have g1 := hc2 1 _ (by rw [hcs]; rfl)
      have g2 := hc2 2 _ (by rw [hcs]; rfl)
      simp only [Nat.add_zero] at g0
      have HPF := Lib.hid (PodFault_any l[k] cs' B wr (by have := hb.size; omega) hp)
      rw [hcs] at HPF
      have hnn := podFault_nn9 l[k]
      have HK0 := Lib.hid (show podFault l[k] = 0 ∨ podFault l[k] ≠ 0 from by omega)
      have HST : Hid (podFault l[k] = 0 → (∀ j (hj : j < l.length), j < k → sameS l[j].name l[k].name = false) → ∀ i (hi : i < l.length), i < k + 1 → podFault l[i] = 0 ∧ ∀ j (hj : j < l.length), j < i → sameS l[j].name l[i].name = false) := Lib.hid (by
        intro h1 h2 i hi hik
        rcases (show i < k ∨ i = k by omega) with hx | rfl
        · exact HN.out i hi hx
        · exact ⟨h1, h2⟩)
      obtain ⟨rn, hrn⟩ : ∃ rn : ByteArray, rn = l[k].name := ⟨_, rfl⟩
      have HRN := Lib.hid hrn
      rw [← hrn] at g0 HPF
      generalize podFault l[k] = pf at *
      generalize l[k].prio = pr at *
      clear hc1 hc2 hcs hp hp0 HN hrn HK0
      by_cases hf : 0 < pf
      · clear HST
        go_wp2_with fail
        refine HPF.out.mono ?_
        rintro e w5 ⟨rfl, hb5⟩
        go_wp2_with fail
        go_ret
        exact ApP.no (hb.trans (hb5.mono hb.size))
      · obtain rfl : pf = 0 := by omega
        have HX := Lib.hid (HST.out rfl)
        clear HST hf hnn
        go_wp2_with fail
        refine HPF.out.mono ?_
        rintro e w5 ⟨rfl, hb5⟩
        have hb5' := hb.trans (hb5.mono hb.size)
        have g5 := (hb5.cell (p := ⟨b, off + k * 3, none⟩) (show b < wr.heap.size by have := hb.size; omega)).trans g0
        have HB5 := Lib.hid hb5'
        clear hb5 hb g0 g1 g2 HPF
        go_wp2_with fail
        go_loopw [4] (fun i wi => ∃ j : Nat, i = .int .i64 j ∧ j ≤ k ∧ Hid (∀ i (hi : i < l.length), i < j → sameS l[i].name rn = false) ∧ Below w.heap.size w wi) (fun i _ => k - (intOf i).toNat)
        case atStart => exact ⟨0, rfl, by omega, Lib.hid (fun i hi h => by omega), hb5'⟩
        case round =>
          clear hb5' g5 HB5
          obtain ⟨j, rfl, hj, HM, hb⟩ := hrel
          by_cases hjk : j < k
          · have hjl : j < l.length := by omega
            obtain ⟨_, cs1, _, hc12, hp1⟩ := (HR.out.below (hb.mono hB)).at_ hlt
            obtain ⟨_, cs2, _, hc22, hp2⟩ := (HR.out.below (hb.mono hB)).at_ hjl
            obtain ⟨A8, n8, c8, hcs1⟩ := rpod_open hp1
            obtain ⟨A9, n9, c9, hcs2⟩ := rpod_open hp2
            have g0 := hc12 0 _ (by rw [hcs1]; rfl)
            have d0 := hc22 0 _ (by rw [hcs2]; rfl)
            simp only [Nat.add_zero] at g0 d0
            rw [← HRN.out] at g0
            have HS : Hid (sameS l[j].name rn = false → ∀ i (hi : i < l.length), i < j + 1 → sameS l[i].name rn = false) := Lib.hid (by
              intro h i hi hij
              rcases (show i < j ∨ i = j by omega) with hx | rfl
              · exact HM.out i hi hx
              · exact h)
            generalize l[j].name = jn at *
            unfold sameS at HS
            clear hc12 hc22 hcs1 hcs2 hp1 hp2 HM
            cases hs : (jn.toList == rn.toList)
            · have HS2 := Lib.hid (HS.out hs)
              clear HS
              go_upto_region 9 with fail
              go_quiet (fail)
              go_wp2_with fail
              go_roundw
              case rel => exact ⟨j + 1, by go_num, by omega, HS2, below_drewN3 hb _⟩
              case measure => simp [intOf]; omega
            · clear HS
              go_upto_region 9 with fail
              go_quiet (fail)
              go_wp2_with fail
              go_ret
              exact ApP.no (below_drewN3 hb _)
          · obtain rfl : j = k := by omega
            have HM2 := Lib.hid (HX.out (fun i hi hij => by rw [← HRN.out]; exact HM.out i hi hij))
            clear HM HX
            go_wp2_with fail
            go_roundw
            case rel => exact ⟨j + 1, by go_num, by omega, HM2, hb⟩
            case measure => simp [intOf]; omega
    · obtain rfl : k = l.length := by omega
      go_wp2_with fail
      go_ret
      exact ⟨true, rfl, fun _ => ⟨fun p hp => by
        obtain ⟨i, hi, rfl⟩ := List.getElem_of_mem hp
        exact (HN.out i hi hi).1, nodup_of fun i hi j hj hji => (HN.out i hi hi).2 j hj hji⟩, hb⟩
end
end Go.Proofs.Yticmfflnenoplaa
