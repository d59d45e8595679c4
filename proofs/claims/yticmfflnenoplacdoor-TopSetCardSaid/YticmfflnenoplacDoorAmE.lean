/- Amounts: Milli: its walk. -/
import Derived.Test.YticmfflnenoplacDoorAmD
namespace Go.Proofs.YticmfflnenoplacDoor
open Go.RowKit Am
theorem one_cons (b : List UInt8) : (⟨#[49]⟩ : ByteArray) ++ ⟨b.toArray⟩ = ⟨(49 :: b).toArray⟩ := by
  apply ByteArray.ext
  rw [ByteArray.data_append]
  simp
theorem cut_lens (l p : List UInt8) : (Lib.cut l p).1.length ≤ l.length ∧ (Lib.cut l p).2.1.length ≤ l.length := by
  unfold Lib.cut
  split
  · exact ⟨by simp; omega, by simp⟩
  · exact ⟨Nat.le_refl _, by simp⟩
theorem trim_len (l p : List UInt8) : (Lib.trimSuffix l p).length ≤ l.length := by
  unfold Lib.trimSuffix
  split
  · simp
  · exact Nat.le_refl _
theorem milliP_m {l : List UInt8} (h : Lib.hasSuffix l [109] = true) : milliP l = fin (digP (Lib.trimSuffix l [109]) 9).1 (digP (Lib.trimSuffix l [109]) 9).2 := by
  unfold milliP; rw [if_pos h]
theorem milliP_p {l : List UInt8} (h : Lib.hasSuffix l [109] = false) (hp : (Lib.cut l [46]).2.2 = true) : milliP l = fin (pointP (Lib.cut l [46]).1 (Lib.cut l [46]).2.1).1 (pointP (Lib.cut l [46]).1 (Lib.cut l [46]).2.1).2 := by
  unfold milliP; rw [h, if_neg (by simp), if_pos hp]
theorem milliP_w {l : List UInt8} (h : Lib.hasSuffix l [109] = false) (hp : (Lib.cut l [46]).2.2 = false) : milliP l = fin (1000 * (digP (Lib.cut l [46]).1 6).1) (digP (Lib.cut l [46]).1 6).2 := by
  unfold milliP; rw [h, if_neg (by simp), hp, if_neg (by simp)]
section
attribute [local irreducible] digP milliP pointP fin Lib.cut Lib.trimSuffix Lib.hasSuffix
end
end Go.Proofs.YticmfflnenoplacDoor
