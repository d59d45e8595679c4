/- Amounts: ostleryref.digits, MilliText, Milli: their walks. -/
import Derived.Test.YticmfflnenoplabDoorAmG
namespace Go.Proofs.YticmfflnenoplabDoor
open Go.RowKit Am
theorem digR_no {s : List UInt8} {most : Nat} (h : okD s = false) : digR s most = (0, false) := by simp [digR, h]
theorem digR_yes {s : List UInt8} {most : Nat} (h : okD s = true) : digR s most = (min (clip s most s.length) (most + 1), true) := by
  rw [clip_full s most]
  simp [digR, h]
theorem ok_lead {s : ByteArray} (h0 : 0 < s.size) (h1 : 1 < s.size) (hz : s[0] = 48) : okD s.data.toList = false := by
  have := dig_lead (s := s) s.size h0 h1 hz
  rcases digP_or s.data.toList s.size with ⟨_, _, a⟩ | ⟨a, _⟩
  · rw [a] at this; simp at this
  · rcases a with a | a
    · exact a
    · rw [data_len] at a; omega
theorem ok_bad {s : ByteArray} (k : Nat) (h : k < s.size) (hk : isD s[k] = false) : okD s.data.toList = false := by
  have := dig_bad (s := s) s.size k h hk
  rcases digP_or s.data.toList s.size with ⟨_, _, a⟩ | ⟨a, _⟩
  · rw [a] at this; simp at this
  · rcases a with a | a
    · exact a
    · rw [data_len] at a; omega
theorem ok_good {s : ByteArray} (h0 : 1 ≤ s.size) (hl : ¬ (1 < s.size ∧ s[0]'(by omega) = 48)) (h : ∀ j (hj : j < s.size), isD s[j] = true) : okD s.data.toList = true := by
  have := dig_good (s := s) s.size h0 (Nat.le_refl _) hl h
  rcases digP_or s.data.toList s.size with ⟨a, _, _⟩ | ⟨_, a⟩
  · exact a
  · rw [a] at this; simp at this
theorem clip_step (s : ByteArray) (most k : Nat) (h : k < s.size) : clip s.data.toList most (k + 1) = if clip s.data.toList most k ≤ most then 10 * clip s.data.toList most k + (s[k].toNat - 48) else clip s.data.toList most k := clip_next _ most k h
section
attribute [local irreducible] digR num okD isD clip
set_option maxHeartbeats 1000000 in
theorem digitsR_any (s : ByteArray) (hs : s.size ≤ maxLen) (most : Nat) (hm : most ≤ 1125899906842624) (w : World) : Calls Tryd.prog 39 #[.string s, .int .i64 most] w (RetDig (digR s.data.toList most) w) := by
  unfold maxLen at hs
  rcases (show s.size = 0 ∨ 1 ≤ s.size by omega) with h0 | h0
  · have he := isEmpty_yes s h0
    have HF := Lib.hid (digR_no (s := s.data.toList) (most := most) (by
      have : s.data.toList = [] := List.length_eq_zero_iff.1 h0
      rw [this]
      unfold okD
      rfl))
    go_enter Tryd.func39, Tryd.ntmps39
    go_wp2_with fail
    go_ret2
    exact RetDig.of HF.out (by omega)
  · have he := isEmpty_no s h0
    have hi0 : 0 < s.size := by omega
    by_cases hl : 1 < s.size ∧ s[0] = 48
    · obtain ⟨h1, h48⟩ := hl
      have HF := Lib.hid (digR_no (most := most) (ok_lead (s := s) hi0 h1 h48))
      have hb := (u8_48 s[0]).2 h48
      clear h48
      go_enter Tryd.func39, Tryd.ntmps39
      go_wp2_with fail
      go_ret2
      exact RetDig.of HF.out (by omega)
    · have HL := Lib.hid hl
      have hb : (s.size = 1 ∧ (s[0].toNat : Int) = 48) ∨ (s.size = 1 ∧ ¬ ((s[0].toNat : Int) = 48)) ∨ (1 < s.size ∧ ¬ ((s[0].toNat : Int) = 48)) := by
        have hq : 1 < s.size → ¬ ((s[0].toNat : Int) = 48) := fun h1 h2 => hl ⟨h1, (u8_48 s[0]).1 h2⟩
        omega
      clear hl
      have HC0 := Lib.hid (show clip s.data.toList most 0 = 0 by unfold clip; rfl)
      have HC := Lib.hid (clip_step s most)
      rcases hb with ⟨hb1, hb⟩ | ⟨hb1, hb⟩ | ⟨hb1, hb⟩
      all_goals
        go_enter Tryd.func39, Tryd.ntmps39
        go_upto_region 5 with fail
        go_loop [6, 7] (fun a i => ∃ k n : Nat, i = .int .i64 k ∧ k ≤ s.size ∧ a = .int .i64 n ∧ n ≤ 10 * most + 9 ∧ Hid (n = clip s.data.toList most k ∧ ∀ j (hj : j < s.size), j < k → isD s[j] = true)) (fun _ i => s.size - (intOf i).toNat)
        case atStart => exact ⟨0, 0, rfl, by omega, rfl, by omega, HC0.out.symm, fun j hj hj2 => by omega⟩
        case round =>
          obtain ⟨k, n, rfl, hk, rfl, hn, hI⟩ := hrel
          by_cases hlt : k < s.size
          · have hbb := s[k].toNat_lt
            by_cases hd : isD s[k] = true
            · have ⟨d1, d2⟩ := (isD_iff s[k]).1 hd
              have hall : Hid (∀ j (hj : j < s.size), j < k + 1 → isD s[j] = true) := Lib.hid (fun j hj hj2 => by
                by_cases he : j = k
                · subst he; exact hd
                · exact hI.out.2 j hj (by omega))
              have hst := HC.out k hlt
              rw [← hI.out.1] at hst
              clear hd
              by_cases hc : n ≤ most
              · rw [if_pos hc] at hst
                have HST := Lib.hid hst
                clear hst
                go_wp2_with fail
                go_round
                case rel => exact ⟨k + 1, 10 * n + (s[k].toNat - 48), by go_num, by omega, by go_num, by omega, HST.out.symm, hall.out⟩
                case measure => simp [intOf]; omega
              · rw [if_neg hc] at hst
                have HST := Lib.hid hst
                clear hst
                go_wp2_with fail
                go_round
                case rel => exact ⟨k + 1, n, by go_num, by omega, rfl, hn, HST.out.symm, hall.out⟩
                case measure => simp [intOf]; omega
            · have HF := Lib.hid (digR_no (most := most) (ok_bad (s := s) k hlt (by simpa using hd)))
              have hd2 : (s[k].toNat : Int) < 48 ∨ 57 < (s[k].toNat : Int) := by
                have : ¬ (48 ≤ (s[k].toNat : Int) ∧ (s[k].toNat : Int) ≤ 57) := fun h => hd ((isD_iff s[k]).2 h)
                omega
              clear hI hd
              rcases hd2 with hd2 | hd2
              all_goals
                go_wp2_with fail
                go_ret2
                exact RetDig.of HF.out (by omega)
          · obtain rfl : k = s.size := by omega
            have HF := Lib.hid (digR_yes (most := most) (ok_good (s := s) h0 HL.out (fun j hj => hI.out.2 j hj hj)))
            rw [data_len, ← hI.out.1] at HF
            go_wp2_with fail
            go_ret2
            exact RetDig.of (by rw [HF.out]; congr 1; omega) (by omega)
end
end Go.Proofs.YticmfflnenoplabDoor
