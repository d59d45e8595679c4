/- Amounts: amount.digits, Milli, MilliText, units, Bytes, BytesText: their walks. -/
import Derived.Test.YticmfflnenoplabDoorAmA
import Derived.Test.YticmfflnenoplabDoorComm
import Derived.Test.YticmfflnenoplabDoorSl
import Derived.Test.YticmfflnenoplabDoorShelf
namespace Go.Proofs.YticmfflnenoplabDoor
open Go.RowKit Am
theorem byte_at (s : ByteArray) (k : Nat) (h : k < s.size) : s.data.toList[k]'(by simpa using h) = s[k] := rfl
theorem data_len (s : ByteArray) : s.data.toList.length = s.size := rfl
theorem isEmpty_len (s : ByteArray) : s.toList.isEmpty = decide (s.size = 0) := by
  rw [ByteArray.toList_eq, Bool.eq_iff_iff, List.isEmpty_iff, decide_eq_true_eq, ← List.length_eq_zero_iff]
  rfl
theorem isEmpty_yes (s : ByteArray) (h : s.size = 0) : s.toList.isEmpty = true := by rw [isEmpty_len]; simp [h]
theorem isEmpty_no (s : ByteArray) (h : 1 ≤ s.size) : s.toList.isEmpty = false := by rw [isEmpty_len, decide_eq_false_iff_not]; omega
def RetDig (r : Nat × Bool) (w : World) (e : Ending) (w' : World) : Prop := e = .returned (.tuple #[.int .i64 (r.1 : Int), .bool r.2]) ∧ w = w'
theorem RetDig.of {r : Nat × Bool} {n : Int} {b : Bool} {w : World} (h : r = (n.toNat, b)) (hn : 0 ≤ n) : RetDig r w (.returned (.tuple #[.int .i64 n, .bool b])) w := by
  subst h
  exact ⟨by dsimp only; rw [Int.toNat_of_nonneg hn], rfl⟩
theorem dig_lead {s : ByteArray} (most : Nat) (h0 : 0 < s.size) (h1 : 1 < s.size) (hz : s[0] = 48) : digP s.data.toList most = (0, false) := by
  refine digP_no (.inl ?_)
  have : s.data.toList.head? = some 48 := by
    rw [List.head?_eq_getElem?, List.getElem?_eq_getElem (by simpa using h0)]
    exact congrArg some hz
  unfold okD lead
  rw [this, decide_eq_true (show 1 < s.data.toList.length by simpa using h1)]
  simp
theorem dig_bad {s : ByteArray} (most k : Nat) (h : k < s.size) (hk : isD s[k] = false) : digP s.data.toList most = (0, false) := by
  refine digP_no (.inl ?_)
  have : s.data.toList.all isD = false := by
    rw [List.all_eq_false]
    exact ⟨s[k], by rw [← byte_at s k h]; exact List.getElem_mem _, by simp [hk]⟩
  simp [okD, this]
theorem dig_good {s : ByteArray} (most : Nat) (h0 : 1 ≤ s.size) (hm : s.size ≤ most) (hl : ¬ (1 < s.size ∧ s[0]'(by omega) = 48)) (h : ∀ j (hj : j < s.size), isD s[j] = true) : digP s.data.toList most = (num (s.data.toList.take s.size), true) := by
  rw [digP_yes ?_ (by rw [data_len]; exact hm)]
  · rw [show s.size = s.data.toList.length from rfl, List.take_length]
  · have hall : s.data.toList.all isD = true := by
      rw [List.all_eq_true]
      intro c hc
      obtain ⟨j, hj, rfl⟩ := List.mem_iff_getElem.1 hc
      exact h j hj
    have hne : s.data.toList.isEmpty = false := by
      rw [Bool.eq_false_iff]
      intro he
      rw [List.isEmpty_iff, ← List.length_eq_zero_iff, data_len] at he
      omega
    unfold okD lead
    rw [hall, hne]
    by_cases h1 : 1 < s.size
    · have : s.data.toList.head? ≠ some 48 := by
        rw [List.head?_eq_getElem?, List.getElem?_eq_getElem (by rw [data_len]; omega)]
        intro he
        exact hl ⟨h1, Option.some.inj he⟩
      simp [this]
    · rw [data_len, decide_eq_false h1]
      simp
theorem num_step (s : ByteArray) (k : Nat) (h : k < s.size) : num (s.data.toList.take (k + 1)) = 10 * num (s.data.toList.take k) + (s[k].toNat - 48) := num_take _ k h
theorem u8_48 (c : UInt8) : (c.toNat : Int) = 48 ↔ c = 48 := by
  constructor
  · intro h
    exact UInt8.toNat_inj.1 (by simpa using (by omega : c.toNat = 48))
  · rintro rfl; rfl
theorem isD_iff (c : UInt8) : isD c = true ↔ 48 ≤ (c.toNat : Int) ∧ (c.toNat : Int) ≤ 57 := by
  simp only [isD, Bool.and_eq_true, decide_eq_true_eq]
  omega
section
attribute [local irreducible] digP num okD isD
set_option maxHeartbeats 1000000 in
theorem digits_any (s : ByteArray) (hs : s.size ≤ maxLen) (most : Nat) (hm : most ≤ 16) (w : World) : Calls Tryd.prog 47 #[.string s, .int .i64 most] w (RetDig (digP s.data.toList most) w) := by
  unfold maxLen at hs
  rcases (show s.size = 0 ∨ 1 ≤ s.size by omega) with h0 | h0
  · have he := isEmpty_yes s h0
    have HF := Lib.hid (digP_no (s := s.data.toList) (most := most) (.inl (by
      have : s.data.toList = [] := List.length_eq_zero_iff.1 h0
      rw [this]
      unfold okD
      rfl)))
    go_enter Tryd.func47, Tryd.ntmps47
    go_wp2_with fail
    go_ret2
    exact RetDig.of HF.out (by omega)
  · have he := isEmpty_no s h0
    by_cases hmo : most < s.size
    · have HF := Lib.hid (digP_no (s := s.data.toList) (most := most) (.inr hmo))
      go_enter Tryd.func47, Tryd.ntmps47
      go_wp2_with fail
      go_ret2
      exact RetDig.of HF.out (by omega)
    · have hi0 : 0 < s.size := by omega
      by_cases hl : 1 < s.size ∧ s[0] = 48
      · obtain ⟨h1, h48⟩ := hl
        have HF := Lib.hid (dig_lead (s := s) most hi0 h1 h48)
        have hb := (u8_48 s[0]).2 h48
        clear h48
        go_enter Tryd.func47, Tryd.ntmps47
        go_wp2_with fail
        go_ret2
        exact RetDig.of HF.out (by omega)
      · have HL := Lib.hid hl
        have hb : (s.size = 1 ∧ (s[0].toNat : Int) = 48) ∨ (s.size = 1 ∧ ¬ ((s[0].toNat : Int) = 48)) ∨ (1 < s.size ∧ ¬ ((s[0].toNat : Int) = 48)) := by
          have hq : 1 < s.size → ¬ ((s[0].toNat : Int) = 48) := fun h1 h2 => hl ⟨h1, (u8_48 s[0]).1 h2⟩
          omega
        clear hl
        rcases hb with ⟨hb1, hb⟩ | ⟨hb1, hb⟩ | ⟨hb1, hb⟩
        all_goals
          go_enter Tryd.func47, Tryd.ntmps47
          go_upto_region 5 with fail
          go_loop [6, 28] (fun a i => ∃ k n : Nat, i = .int .i64 k ∧ k ≤ s.size ∧ a = .int .i64 n ∧ n < 10000000000000000 ∧ Hid (n = num (s.data.toList.take k) ∧ n < 10 ^ k ∧ ∀ j (hj : j < s.size), j < k → isD s[j] = true)) (fun _ i => s.size - (intOf i).toNat)
          case atStart => exact ⟨0, 0, rfl, by omega, rfl, by omega, by unfold num; rfl, by omega, fun j hj hj2 => by omega⟩
          case round =>
            obtain ⟨k, n, rfl, hk, rfl, hn, hI⟩ := hrel
            by_cases hlt : k < s.size
            · have hbb := s[k].toNat_lt
              by_cases hd : isD s[k] = true
              · have ⟨d1, d2⟩ := (isD_iff s[k]).1 hd
                have hI2 : Hid (10 * n + (s[k].toNat - 48) = num (s.data.toList.take (k + 1)) ∧ 10 * n + (s[k].toNat - 48) < 10 ^ (k + 1) ∧ ∀ j (hj : j < s.size), j < k + 1 → isD s[j] = true) := by
                  obtain ⟨a1, a2, a3⟩ := hI.out
                  refine ⟨by rw [num_step s k hlt, a1], by rw [Nat.pow_succ]; omega, fun j hj hj2 => ?_⟩
                  by_cases he : j = k
                  · subst he; exact hd
                  · exact a3 j hj (by omega)
                have hn2 : 10 * n + (s[k].toNat - 48) < 10000000000000000 := Nat.lt_of_lt_of_le hI2.out.2.1 (Nat.pow_le_pow_right (by omega) (show k + 1 ≤ 16 by omega))
                clear hI hd
                go_wp2_with fail
                go_round
                case rel => exact ⟨k + 1, 10 * n + (s[k].toNat - 48), by go_num, by omega, by go_num, hn2, hI2.out⟩
                case measure => simp [intOf]; omega
              · have HF := Lib.hid (dig_bad (s := s) most k hlt (by simpa using hd))
                have hd2 : (s[k].toNat : Int) < 48 ∨ 57 < (s[k].toNat : Int) := by
                  have : ¬ (48 ≤ (s[k].toNat : Int) ∧ (s[k].toNat : Int) ≤ 57) := fun h => hd ((isD_iff s[k]).2 h)
                  omega
                clear hI hd
                rcases hd2 with hd2 | hd2
                all_goals
                  go_wp2_with fail
                  go_ret2
                  exact RetDig.of HF.out (by omega)
            · obtain rfl : k = s.size := by omega
              have HF := Lib.hid (dig_good (s := s) most h0 (by omega) HL.out (fun j hj => hI.out.2.2 j hj hj))
              rw [← hI.out.1] at HF
              go_wp2_with fail
              go_ret2
              exact RetDig.of (by rw [HF.out]; simp) (by omega)
end
end Go.Proofs.YticmfflnenoplabDoor
