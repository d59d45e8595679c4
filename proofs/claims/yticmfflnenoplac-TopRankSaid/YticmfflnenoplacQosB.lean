/- Names: devices.Name, ostleryref.NameMay: their walks. -/
import Derived.Test.YticmfflnenoplacQosA
import Derived.Test.YticmfflnenoplacComm
namespace Go.Proofs.Yticmfflnenoplac
open Go.RowKit Qo
theorem okAt_eq (s : ByteArray) (k : Nat) (h : k < s.size) : okAt s k = ((decide (97 ≤ s[k].toNat) && decide (s[k].toNat ≤ 122)) || (decide (0 < k) && decide (48 ≤ s[k].toNat) && decide (s[k].toNat ≤ 57))) := by
  unfold okAt
  rw [byteAt_eq s k h]
theorem ok_cases (s : ByteArray) (k : Nat) (h : k < s.size) :
    (okAt s k = true ∧ ((97 ≤ (s[k].toNat : Int) ∧ (s[k].toNat : Int) ≤ 122) ∨ (0 < k ∧ 48 ≤ (s[k].toNat : Int) ∧ (s[k].toNat : Int) ≤ 57))) ∨
    (okAt s k = false ∧ ((k = 0 ∧ (s[k].toNat : Int) < 97) ∨ (k = 0 ∧ 122 < (s[k].toNat : Int)) ∨ (0 < k ∧ (s[k].toNat : Int) < 48) ∨ (0 < k ∧ 57 < (s[k].toNat : Int) ∧ (s[k].toNat : Int) < 97) ∨ (0 < k ∧ 122 < (s[k].toNat : Int)))) := by
  rw [okAt_eq s k h]
  generalize s[k].toNat = b
  simp only [Bool.or_eq_true, Bool.and_eq_true, decide_eq_true_eq, Bool.or_eq_false_iff, Bool.and_eq_false_iff, decide_eq_false_iff_not]
  omega
theorem okAll_succ (s : ByteArray) (k : Nat) (h : ∀ j, j < k → okAt s j = true) (hk : okAt s k = true) : ∀ j, j < k + 1 → okAt s j = true := by
  intro j hj
  by_cases he : j = k
  · rw [he]; exact hk
  · exact h j (by omega)
theorem beq_zero_false (k : Nat) (h : 0 < k) : (((k : Nat) : Int) == 0) = false := by
  rw [beq_eq_false_iff_ne]
  omega
theorem isEmpty_len (s : ByteArray) : s.toList.isEmpty = decide (s.size = 0) := by
  rw [ByteArray.toList_eq, Bool.eq_iff_iff, List.isEmpty_iff, decide_eq_true_eq, ← List.length_eq_zero_iff]
  rfl
theorem isEmpty_yes (s : ByteArray) (h : s.size = 0) : s.toList.isEmpty = true := by rw [isEmpty_len]; simp [h]
theorem isEmpty_no (s : ByteArray) (h : 1 ≤ s.size) : s.toList.isEmpty = false := by rw [isEmpty_len, decide_eq_false_iff_not]; omega
theorem RetB.of {b b' : Bool} {w : World} (h : b = b') : RetB b w (.returned (.bool b')) w := ⟨by rw [h], rfl⟩
section
attribute [local irreducible] okAt nameMay
set_option maxHeartbeats 2000000 in
theorem Name_any (s : ByteArray) (hs : s.size ≤ maxLen) (w : World) : Calls Try.prog 20 #[.string s] w (RetB (nameMay s) w) := by
  unfold maxLen at hs
  go_enter Try.func20, Try.ntmps20
  go_upto_region 2 with fail
  go_loop [6] (fun i => ∃ k : Nat, i = .int .i64 k ∧ k ≤ s.size ∧ Hid (∀ j, j < k → okAt s j = true)) (fun i => s.size - (intOf i).toNat)
  case atStart => exact ⟨0, rfl, by omega, fun j hj => by omega⟩
  case round =>
    obtain ⟨k, rfl, hk, hall⟩ := hrel
    by_cases hlt : k < s.size
    · rcases ok_cases s k hlt with ⟨ho, hd⟩ | ⟨ho, hd⟩
      · have HN := Lib.hid (okAll_succ s k hall.out ho)
        clear ho
        rcases hd with hd | ⟨hd0, hd⟩
        · go_wp2_with fail
          go_round
          case rel => exact ⟨k + 1, by go_num, by omega, HN.out⟩
          case measure => simp [intOf]; omega
        · have hz := beq_zero_false k hd0
          have hc : ((s[k].toNat : Nat) : Int) < 97 := by omega
          go_wp2_with fail
          go_round
          case rel => exact ⟨k + 1, by go_num, by omega, HN.out⟩
          case measure => simp [intOf]; omega
      · have HF := Lib.hid (nameMay_no s k hlt ho)
        clear ho
        rcases hd with ⟨rfl, hd⟩ | ⟨rfl, hd⟩ | ⟨hd0, hd⟩ | ⟨hd0, hd, hd2⟩ | ⟨hd0, hd⟩
        all_goals
          go_wp2_with fail
          go_ret
          exact RetB.of (by rw [HF.out] <;> simp <;> omega)
    · obtain rfl : k = s.size := by omega
      rcases (show s.size = 0 ∨ (1 ≤ s.size ∧ s.size ≤ 8) ∨ 8 < s.size by omega) with h0 | ⟨h1, h2⟩ | h8
      · have he := isEmpty_yes s h0
        have HF := Lib.hid (nameMay_len s (.inl (by omega)))
        clear h0
        go_wp2_with fail
        go_ret
        exact RetB.of (by rw [HF.out] <;> simp <;> omega)
      · have he := isEmpty_no s h1
        have HF := Lib.hid (nameMay_yes s h1 h2 hall.out)
        go_wp2_with fail
        go_ret
        exact RetB.of (by rw [HF.out] <;> simp <;> omega)
      · have he := isEmpty_no s (by omega)
        have HF := Lib.hid (nameMay_len s (.inr h8))
        go_wp2_with fail
        go_ret
        exact RetB.of (by rw [HF.out] <;> simp <;> omega)
end
end Go.Proofs.Yticmfflnenoplac
