/- ostleryref.SameGroups, LightPods: their walks. -/
import Derived.Test.YticmfflnenoplabQosJ
import Derived.Test.YticmfflnenoplabLight
namespace Go.Proofs.Yticmfflnenoplab
open Go.RowKit Qo Da
def RG (cs : List Value) (g : Gr) : Prop := cs = g.cells
def lightPods (l : List Pod) : Bool := decide (l.length ≤ 16) && l.all lightPod
theorem podFault_nn (p : Pod) : 0 ≤ podFault p := by
  have key : ∀ (f : Nat → Int), (∀ k, 0 ≤ f k) → ∀ n, 0 ≤ firstF f n := by
    intro f hf n
    induction n with
    | zero => simp [firstF]
    | succ n ih =>
      rw [firstF]
      split
      · exact hf n
      · exact ih
  have hn : ∀ l k, 0 ≤ needFault l k := fun l k => by rcases needFault_01 l k with h | h | h <;> omega
  have hc : ∀ c, 0 ≤ contFault c := by
    intro c
    unfold contFault
    split
    · omega
    · split
      · omega
      · split
        · omega
        · exact key _ (hn _) _
  have ha : ∀ l k, 0 ≤ atFault l k := by
    intro l k
    unfold atFault
    split
    · omega
    · split
      · omega
      · split
        · omega
        · exact hc _
  unfold podFault
  split
  · omega
  · split
    · omega
    · split
      · omega
      · exact key _ (ha _) _
section
attribute [local irreducible] Gr.cells lightPod
set_option maxRecDepth 100000 in
set_option maxHeartbeats 2000000 in
theorem lightPods_any (v : Value) (l : List Pod) (w : World) (B : Nat) (hB : B ≤ w.heap.size) (h : RSlice w B 3 (RPod w B) [v] l) :
    Calls Try.prog 24 #[v] w (RetBB (lightPods l) w) := by
  obtain ⟨A, cap, hv, hl, hcap, hA⟩ := h.form
  obtain rfl : v = _ := by simpa using hv
  unfold maxLen at hcap
  have H := Lib.hid h
  have HA := Lib.hid hA
  clear h hA hv
  by_cases hn : 16 < l.length
  · have HF := Lib.hid (show lightPods l = false by simp [lightPods]; omega)
    go_enter Try.func24, Try.ntmps24
    go_wp2_with fail
    go_ret
    exact RetBB.mk' HF.out (Below.refl _ _)
  · have hlp := Lib.hid (show lightPods l = l.all lightPod by simp [lightPods]; omega)
    go_enter Try.func24, Try.ntmps24
    go_upto_region 4 with fail
    go_loopw [3] (fun i wi => ∃ k : Nat, i = .int .i64 k ∧ k ≤ l.length ∧ Hid ((l.take k).all lightPod = true) ∧ Below w.heap.size w wi) (fun i _ => l.length - (intOf i).toNat)
    case atStart => exact ⟨0, rfl, by omega, rfl, Below.refl _ _⟩
    case round =>
      obtain ⟨k, rfl, hk, ha, hbel⟩ := hrel
      by_cases hlt : k < l.length
      · obtain ⟨b, off, rfl⟩ := HA.out k hlt
        obtain ⟨A2, c2, hP, r0, r1, r2, h1, h2, h3, _⟩ := pod_at H.out (hbel.mono hB) hlt
        have hct := Lib.hid (lightPod_any _ l[k] wr B (Nat.le_trans hB hbel.size) hP)
        have hY := Lib.hid (fun hp => all_take_succ lightPod l k hlt ha.out hp)
        have hN := Lib.hid (fun hp => all_false lightPod l k hlt hp)
        unfold maxLen at h2 h3
        clear hP
        generalize l[k] = p at *
        cases hp : lightPod p
        · have HF := Lib.hid (hlp.out.trans (hN.out hp))
          rw [hp] at hct
          clear hp hY
          go_wp2_with fail
          refine hct.out.mono ?_
          rintro e w5 ⟨rfl, hb5⟩
          go_wp2_with fail
          go_ret
          exact RetBB.mk' HF.out (hbel.trans (hb5.mono hbel.size))
        · have HT := Lib.hid (hY.out hp)
          rw [hp] at hct
          clear hp hN
          go_wp2_with fail
          refine hct.out.mono ?_
          rintro e w5 ⟨rfl, hb5⟩
          go_wp2_with fail
          go_roundw
          case rel => exact ⟨k + 1, by go_num, by omega, HT.out, hbel.trans (hb5.mono hbel.size)⟩
          case measure => simp [intOf]; omega
      · obtain rfl : k = l.length := by omega
        have HF := Lib.hid (hlp.out.trans (all_full lightPod l l.length (Nat.le_refl _) ha.out))
        go_wp2_with fail
        go_ret
        exact RetBB.mk' HF.out hbel
end
end Go.Proofs.Yticmfflnenoplab
