/- LightPods: its walk (apart from the texts on groups). No statement is proved here. -/
import Derived.Test.YticmfflnenoplacQosH
import Derived.Test.YticmfflnenoplacLight
namespace Go.Proofs.Yticmfflnenoplac
open Go.RowKit Qo Da
def lightPods (l : List Pod) : Bool := decide (l.length ≤ 16) && l.all lightPod
theorem below_drewN3 {B : Nat} {a w : World} (h : Below B a w) (n : Nat) : Below B a (w.drewN n) := ⟨h.os, h.tape, h.output, h.size, h.block⟩
theorem pod_at {w w' : World} {B b off n cap : Nat} {l : List Pod} (h : RSlice w B 3 (RPod w B) [.slice (some ⟨b, off, none⟩) n cap] l) (hb : Below B w w') {k : Nat} (hk : k < l.length) :
    ∃ A2 c2, RPod w' B [.string l[k].name, .int .i64 l[k].prio, .slice A2 l[k].conts.length c2] l[k] ∧ w'.cell? ⟨b, off + k * 3, none⟩ = some (.string l[k].name) ∧ w'.cell? ⟨b, off + k * 3 + 1, none⟩ = some (.int .i64 l[k].prio) ∧
      w'.cell? ⟨b, off + k * 3 + 2, none⟩ = some (.slice A2 l[k].conts.length c2) ∧ l[k].conts.length ≤ c2 ∧ c2 ≤ maxLen ∧ l[k].name.size ≤ maxLen ∧ (∀ i, i < l[k].conts.length → ∃ b off, A2 = some ⟨b, off, none⟩ ∧ b < B) := by
  obtain ⟨hlt, cs', q1, q2, q3⟩ := (h.below hb).at_ hk
  have q3' := q3.below hb
  obtain ⟨A2, c2, e, h1, h2, h3⟩ := podR q3
  obtain ⟨cv, e', _, _, hC⟩ := q3
  obtain ⟨A3, c3, e3, _, _, hA⟩ := RS.form (RS.of hC)
  rw [e] at q2 q3' e'
  have hA2 : A3 = A2 := by
    simp only [List.cons.injEq, and_true, true_and] at e' e3
    rw [e3] at e'
    simp at e'
    exact e'.1.symm
  subst hA2
  exact ⟨A3, c2, q3', q2 0 _ rfl, q2 1 _ rfl, q2 2 _ rfl, h1, h2, h3, hA⟩
section
attribute [local irreducible] RPod RCont RSlice
set_option maxRecDepth 100000 in
set_option maxHeartbeats 2000000 in
theorem lightPods_any (v : Value) (l : List Pod) (w : World) (B : Nat) (hB : B ≤ w.heap.size) (h : RSlice w B 3 (RPod w B) [v] l) :
    Calls Try.prog 6 #[v] w (RetBB (lightPods l) w) := by
  obtain ⟨A, cap, hv, hl, hcap, hA⟩ := h.form
  obtain rfl : v = _ := by simpa using hv
  unfold maxLen at hcap
  have H := Lib.hid h
  have HA := Lib.hid hA
  clear h hA hv
  by_cases hn : 16 < l.length
  · have HF := Lib.hid (show lightPods l = false by simp [lightPods]; omega)
    go_enter Try.func6, Try.ntmps6
    go_wp2_with fail
    go_ret
    exact RetBB.mk' HF.out (Below.refl _ _)
  · have hlp := Lib.hid (show lightPods l = l.all lightPod by simp [lightPods]; omega)
    go_enter Try.func6, Try.ntmps6
    go_upto_region 4 with fail
    go_loopw [3] (fun i wi => ∃ k : Nat, i = .int .i64 k ∧ k ≤ l.length ∧ Hid ((l.take k).all lightPod = true) ∧ Below w.heap.size w wi) (fun i _ => l.length - (intOf i).toNat)
    case atStart => exact ⟨0, rfl, by omega, rfl, Below.refl _ _⟩
    case round =>
      obtain ⟨k, rfl, hk, ha, hbel⟩ := hrel
      by_cases hlt : k < l.length
      · obtain ⟨b, off, rfl⟩ := HA.out k hlt
        obtain ⟨A2, c2, hP, r0, r1, r2, h1, h2, h3, _⟩ := pod_at H.out (hbel.mono hB) hlt
        have hct := Lib.hid (lightPod_any _ l[k] wr B (Nat.le_trans hB hbel.size) hP)
        have hY := Lib.hid (fun hp => all_take_succ lightPod l k hlt ha.out hp)
        have hN := Lib.hid (fun hp => all_false lightPod l k hlt hp)
        unfold maxLen at h2 h3
        clear hP
        generalize l[k] = p at *
        cases hp : lightPod p
        · have HF := Lib.hid (hlp.out.trans (hN.out hp))
          rw [hp] at hct
          clear hp hY
          go_wp2_with fail
          refine hct.out.mono ?_
          rintro e w5 ⟨rfl, hb5⟩
          go_wp2_with fail
          go_ret
          exact RetBB.mk' HF.out (hbel.trans (hb5.mono hbel.size))
        · have HT := Lib.hid (hY.out hp)
          rw [hp] at hct
          clear hp hN
          go_wp2_with fail
          refine hct.out.mono ?_
          rintro e w5 ⟨rfl, hb5⟩
          go_wp2_with fail
          go_roundw
          case rel => exact ⟨k + 1, by go_num, by omega, HT.out, hbel.trans (hb5.mono hbel.size)⟩
          case measure => simp [intOf]; omega
      · obtain rfl : k = l.length := by omega
        have HF := Lib.hid (hlp.out.trans (all_full lightPod l l.length (Nat.le_refl _) ha.out))
        go_wp2_with fail
        go_ret
        exact RetBB.mk' HF.out hbel
end
end Go.Proofs.Yticmfflnenoplac
