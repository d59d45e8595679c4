/- SameNumbers: its walk. No statement is proved here. -/
import Derived.Test.YticmfflnenoplabDoorBiX
namespace Go.Proofs.YticmfflnenoplabDoor
open Go.RowKit Go.Deep Pop Bi Am
def RN (cs : List Value) (n : Int) : Prop := cs = [.int .i64 n]
set_option maxRecDepth 100000 in
set_option maxHeartbeats 2000000 in
theorem SameNumbers_any (l : List Int) (v v2 : Value) (S : Nat → Prop) (w : World) (hS : ∀ b, S b → b < w.heap.size) (h1 : RS w S 1 RN [v] l) (h2 : RS w S 1 RN [v2] l) :
    Calls Tryd.prog 10 #[v, v2] w (RetBB true w) := by
  obtain ⟨A, cap, e, hl, hcap, hA⟩ := h1.form
  obtain rfl : v = _ := by simpa using e
  obtain ⟨A2, cap2, e2, hl2, hcap2, hA2⟩ := h2.form
  obtain rfl : v2 = _ := by simpa using e2
  unfold maxLen at hcap hcap2
  have H1 := Lib.hid h1
  have H2 := Lib.hid h2
  have HA := Lib.hid hA
  have HA2 := Lib.hid hA2
  clear h1 h2 hA hA2 e e2
  go_enter Tryd.func10, Tryd.ntmps10
  go_upto_region 4 with fail
  go_loopw [5] (fun i wi => ∃ k : Nat, i = .int .i64 k ∧ k ≤ l.length ∧ Below w.heap.size w wi) (fun i _ => l.length - (intOf i).toNat)
  case atStart => exact ⟨0, rfl, by omega, Below.refl _ _⟩
  case round =>
    obtain ⟨k, rfl, hk, hbel⟩ := hrel
    by_cases hlt : k < l.length
    · obtain ⟨b, off, rfl, hb⟩ := HA.out k hlt
      obtain ⟨b2, off2, rfl, hb2⟩ := HA2.out k hlt
      obtain ⟨_, cs1, _, q, hq⟩ := H1.out.at_ hlt
      obtain ⟨_, cs2, _, q2, hq2⟩ := H2.out.at_ hlt
      have hbw := hS b hb
      have hbw2 := hS b2 hb2
      unfold RN at hq hq2
      subst hq hq2
      generalize l[k] = g at *
      have r0 := (hbel.cell (p := ⟨b, off + k * 1 + 0, none⟩) hbw).trans (q 0 _ rfl)
      have s0 := (hbel.cell (p := ⟨b2, off2 + k * 1 + 0, none⟩) hbw2).trans (q2 0 _ rfl)
      rw [Nat.add_zero, Nat.mul_one] at r0 s0
      clear q q2
      go_upto_region 6 with fail
      go_quiet (fail)
      go_wp2_with fail
      go_roundw
      case rel => exact ⟨k + 1, by go_num, by omega, ⟨hbel.os, hbel.tape, hbel.output, hbel.size, hbel.block⟩⟩
      case measure => simp [intOf]; omega
    · obtain rfl : k = l.length := by omega
      go_wp2_with fail
      go_ret
      exact ⟨rfl, hbel⟩
theorem rn_of {w : World} {base : Nat} {v : Value} {l : List Nat} (h : w.ownsRow base 3 1 v l.length (natV l)) : RS w (· < w.heap.size) 1 RN [v] (l.map fun n : Nat => (n : Int)) :=
  RS.own (l := l.map fun n : Nat => (n : Int)) (f := fun n => [.int .i64 n]) (by
    have : ((l.map fun n : Nat => (n : Int)).flatMap fun n => [Value.int .i64 n]) = natV l := by unfold natV; rw [List.flatMap_map, List.map_eq_flatMap]
    rw [this, List.length_map]
    exact h) (fun _ _ => rfl) (fun _ _ => rfl) (fun g hg => (h.lt g hg).2)
end Go.Proofs.YticmfflnenoplabDoor
