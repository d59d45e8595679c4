/- Amounts: amount.digits, Milli, MilliText, units, Bytes, BytesText: their walks. -/
import Derived.Test.YticmfflnenoplacDoorAmA
import Derived.Test.YticmfflnenoplacDoorComm
import Derived.Test.YticmfflnenoplacDoorSl
import Derived.Test.YticmfflnenoplacDoorShelf
namespace Go.Proofs.YticmfflnenoplacDoor
open Go.RowKit Am
theorem byte_at (s : ByteArray) (k : Nat) (h : k < s.size) : s.data.toList[k]'(by simpa using h) = s[k] := rfl
theorem data_len (s : ByteArray) : s.data.toList.length = s.size := rfl
theorem isEmpty_len (s : ByteArray) : s.toList.isEmpty = decide (s.size = 0) := by
  rw [ByteArray.toList_eq, Bool.eq_iff_iff, List.isEmpty_iff, decide_eq_true_eq, ← List.length_eq_zero_iff]
  rfl
theorem isEmpty_yes (s : ByteArray) (h : s.size = 0) : s.toList.isEmpty = true := by rw [isEmpty_len]; simp [h]
theorem isEmpty_no (s : ByteArray) (h : 1 ≤ s.size) : s.toList.isEmpty = false := by rw [isEmpty_len, decide_eq_false_iff_not]; omega
def RetDig (r : Nat × Bool) (w : World) (e : Ending) (w' : World) : Prop := e = .returned (.tuple #[.int .i64 (r.1 : Int), .bool r.2]) ∧ w = w'
theorem RetDig.of {r : Nat × Bool} {n : Int} {b : Bool} {w : World} (h : r = (n.toNat, b)) (hn : 0 ≤ n) : RetDig r w (.returned (.tuple #[.int .i64 n, .bool b])) w := by
  subst h
  exact ⟨by dsimp only; rw [Int.toNat_of_nonneg hn], rfl⟩
theorem dig_lead {s : ByteArray} (most : Nat) (h0 : 0 < s.size) (h1 : 1 < s.size) (hz : s[0] = 48) : digP s.data.toList most = (0, false) := by
  refine digP_no (.inl ?_)
  have : s.data.toList.head? = some 48 := by
    rw [List.head?_eq_getElem?, List.getElem?_eq_getElem (by simpa using h0)]
    exact congrArg some hz
  unfold okD lead
  rw [this, decide_eq_true (show 1 < s.data.toList.length by simpa using h1)]
  simp
theorem dig_bad {s : ByteArray} (most k : Nat) (h : k < s.size) (hk : isD s[k] = false) : digP s.data.toList most = (0, false) := by
  refine digP_no (.inl ?_)
  have : s.data.toList.all isD = false := by
    rw [List.all_eq_false]
    exact ⟨s[k], by rw [← byte_at s k h]; exact List.getElem_mem _, by simp [hk]⟩
  simp [okD, this]
theorem dig_good {s : ByteArray} (most : Nat) (h0 : 1 ≤ s.size) (hm : s.size ≤ most) (hl : ¬ (1 < s.size ∧ s[0]'(by omega) = 48)) (h : ∀ j (hj : j < s.size), isD s[j] = true) : digP s.data.toList most = (num (s.data.toList.take s.size), true) := by
  rw [digP_yes ?_ (by rw [data_len]; exact hm)]
  · rw [show s.size = s.data.toList.length from rfl, List.take_length]
  · have hall : s.data.toList.all isD = true := by
      rw [List.all_eq_true]
      intro c hc
      obtain ⟨j, hj, rfl⟩ := List.mem_iff_getElem.1 hc
      exact h j hj
    have hne : s.data.toList.isEmpty = false := by
      rw [Bool.eq_false_iff]
      intro he
      rw [List.isEmpty_iff, ← List.length_eq_zero_iff, data_len] at he
      omega
    unfold okD lead
    rw [hall, hne]
    by_cases h1 : 1 < s.size
    · have : s.data.toList.head? ≠ some 48 := by
        rw [List.head?_eq_getElem?, List.getElem?_eq_getElem (by rw [data_len]; omega)]
        intro he
        exact hl ⟨h1, Option.some.inj he⟩
      simp [this]
    · rw [data_len, decide_eq_false h1]
      simp
theorem num_step (s : ByteArray) (k : Nat) (h : k < s.size) : num (s.data.toList.take (k + 1)) = 10 * num (s.data.toList.take k) + (s[k].toNat - 48) := num_take _ k h
theorem u8_48 (c : UInt8) : (c.toNat : Int) = 48 ↔ c = 48 := by
  constructor
  · intro h
    exact UInt8.toNat_inj.1 (by simpa using (by omega : c.toNat = 48))
  · rintro rfl; rfl
theorem isD_iff (c : UInt8) : isD c = true ↔ 48 ≤ (c.toNat : Int) ∧ (c.toNat : Int) ≤ 57 := by
  simp only [isD, Bool.and_eq_true, decide_eq_true_eq]
  omega
section
attribute [local irreducible] digP num okD isD
end
end Go.Proofs.YticmfflnenoplacDoor
