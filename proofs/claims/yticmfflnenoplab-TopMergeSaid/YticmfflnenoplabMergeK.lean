/- LightWishes, MergeSays: their walks. -/
import Derived.Test.YticmfflnenoplabMergeJ
import Derived.Test.YticmfflnenoplabMergeF
namespace Go.Proofs.Yticmfflnenoplab
open Go.RowKit Mk

def LightW (l : List Wi) (w : World) (e : Ending) (w' : World) : Prop := ∃ b, e = .returned (.bool b) ∧ (b = true → ∀ x, x ∈ l → x.hints.length ≤ 16) ∧ w = w'
def prodW (l : List Wi) : Nat → Nat
  | 0 => 1
  | k + 1 => prodW l k * 16
theorem prodW_eq (l : List Wi) (k : Nat) : prodW l k = 16 ^ k := by
  induction k with
  | zero => rfl
  | succ k ih => rw [prodW, ih, Nat.pow_succ]
theorem pow16 (k : Nat) (h : k ≤ 6) : 16 ^ k ≤ 16777216 := Nat.le_trans (Nat.pow_le_pow_right (by omega) h) (by omega)
theorem mul16 (a x k : Nat) (h : a ≤ 16 ^ k) (hx : x ≤ 16) : a * x ≤ 16 ^ (k + 1) := by
  rw [Nat.pow_succ]
  exact Nat.mul_le_mul h hx
section
set_option maxHeartbeats 2000000 in
theorem light_any (l : List Wi) (A : Option Addr) (c : Nat) (S : Nat → Prop) (w : World) (hR : RS w S 2 (RWish w S) [.slice A l.length c] l) :
    Calls Try.prog 9 #[.slice A l.length c] w (LightW l w) := by
  obtain ⟨A', c', e1, hc1, hc2, hA⟩ := hR.form
  simp only [List.cons.injEq, Value.slice.injEq, and_true, true_and] at e1
  obtain ⟨rfl, rfl⟩ := e1
  unfold maxLen at hc2
  have HA := Lib.hid hA
  have HR := Lib.hid hR
  clear hA hR
  by_cases h6 : l.length ≤ 6
  · go_enter Try.func9, Try.ntmps9
    go_upto_region 5 with fail
    go_loop [3, 4] (fun s i => ∃ k a : Nat, i = .int .i64 k ∧ k ≤ l.length ∧ s = .int .i64 a ∧ Hid (a ≤ 16 ^ k ∧ ∀ j, j < k → ∀ h : j < l.length, l[j].hints.length ≤ 16)) (fun _ i => l.length - (intOf i).toNat)
    case atStart => exact ⟨0, 1, rfl, by omega, rfl, by simp, fun j hj => by omega⟩
    case round =>
      obtain ⟨k, a, rfl, hk, rfl, hrg⟩ := hrel
      have ha := hrg.out.1
      have hpw := pow16 k (by omega)
      have hab : a ≤ 16777216 := Nat.le_trans ha hpw
      clear ha hpw
      by_cases hlt : k < l.length
      · obtain ⟨b, off, rfl, hb⟩ := HA.out k hlt
        obtain ⟨_, cs', e1, e2, hv, e3, e4⟩ := HR.out.at_ hlt
        obtain ⟨Ah, ch, e5, g1, g2, g3⟩ := e4.form
        obtain rfl : hv = _ := by simpa using e5
        have r1 := e2 1 _ (by rw [e3]; rfl)
        have hx : Hid (l[k].hints.length ≤ 16 → ∀ j, j < k + 1 → ∀ h : j < l.length, l[j].hints.length ≤ 16) := fun hle j hj h => by
          by_cases he : j = k
          · subst he; exact hle
          · exact hrg.out.2 j (by omega) h
        clear e1 e2 e3 e4 e5 g3
        generalize l[k].hints.length = m at *
        unfold maxLen at g2
        by_cases hm : m ≤ 16
        · have hmul : a * max 1 m ≤ 16 ^ (k + 1) := mul16 a _ k hrg.out.1 (by omega)
          have hmb : max 1 m ≤ 16 := by omega
          have hm2 : a * max 1 m ≤ 268435456 := Nat.mul_le_mul hab hmb
          have HMUL := Lib.hid hmul
          clear hmul
          obtain ⟨q, hq⟩ : ∃ q, max 1 m = q := ⟨_, rfl⟩
          rw [hq] at hm2 HMUL hmb
          have hq2 : (max 1 (m : Int)) = (q : Int) := by omega
          have hmi : (a : Int) * (q : Int) ≤ 268435456 := by have := Int.ofNat_le.2 hm2; rw [Int.natCast_mul] at this; exact this
          have hmi0 : 0 ≤ (a : Int) * (q : Int) := Int.mul_nonneg (by omega) (by omega)
          clear hq hm2
          go_wp2_with fail
          go_round
          case rel => exact ⟨k + 1, a * q, by go_num, by omega, by rw [Int.natCast_mul], HMUL.out, hx.out hm⟩
          case measure => simp [intOf]; omega
        · go_wp2_with fail
          go_ret
          exact ⟨false, rfl, by simp, rfl⟩
      · obtain rfl : k = l.length := by omega
        go_wp2_with fail
        go_ret
        refine ⟨_, rfl, fun _ x hx => ?_, rfl⟩
        obtain ⟨j, hj, rfl⟩ := List.mem_iff_getElem.1 hx
        exact hrg.out.2 j hj hj
  · go_enter Try.func9, Try.ntmps9
    go_wp2_with fail
    go_ret
    exact ⟨false, rfl, by simp, rfl⟩
end
theorem mergeP_nonneg (policy : Int) (n : Nat) (l : List Wi) : 0 ≤ (MergeP policy n l).2.2 := by
  unfold MergeP
  split
  · simp
  · split
    · simp
    · split <;> simp
section
attribute [local irreducible] MergeP listP mergeP
end
end Go.Proofs.Yticmfflnenoplab
