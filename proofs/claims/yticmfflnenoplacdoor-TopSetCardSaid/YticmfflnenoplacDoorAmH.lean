/- Amounts: ostleryref.digits, MilliText, Milli: their walks. -/
import Derived.Test.YticmfflnenoplacDoorAmG
namespace Go.Proofs.YticmfflnenoplacDoor
open Go.RowKit Am
theorem digR_no {s : List UInt8} {most : Nat} (h : okD s = false) : digR s most = (0, false) := by simp [digR, h]
theorem digR_yes {s : List UInt8} {most : Nat} (h : okD s = true) : digR s most = (min (clip s most s.length) (most + 1), true) := by
  rw [clip_full s most]
  simp [digR, h]
theorem ok_lead {s : ByteArray} (h0 : 0 < s.size) (h1 : 1 < s.size) (hz : s[0] = 48) : okD s.data.toList = false := by
  have := dig_lead (s := s) s.size h0 h1 hz
  rcases digP_or s.data.toList s.size with ⟨_, _, a⟩ | ⟨a, _⟩
  · rw [a] at this; simp at this
  · rcases a with a | a
    · exact a
    · rw [data_len] at a; omega
theorem ok_bad {s : ByteArray} (k : Nat) (h : k < s.size) (hk : isD s[k] = false) : okD s.data.toList = false := by
  have := dig_bad (s := s) s.size k h hk
  rcases digP_or s.data.toList s.size with ⟨_, _, a⟩ | ⟨a, _⟩
  · rw [a] at this; simp at this
  · rcases a with a | a
    · exact a
    · rw [data_len] at a; omega
theorem ok_good {s : ByteArray} (h0 : 1 ≤ s.size) (hl : ¬ (1 < s.size ∧ s[0]'(by omega) = 48)) (h : ∀ j (hj : j < s.size), isD s[j] = true) : okD s.data.toList = true := by
  have := dig_good (s := s) s.size h0 (Nat.le_refl _) hl h
  rcases digP_or s.data.toList s.size with ⟨a, _, _⟩ | ⟨_, a⟩
  · exact a
  · rw [a] at this; simp at this
theorem clip_step (s : ByteArray) (most k : Nat) (h : k < s.size) : clip s.data.toList most (k + 1) = if clip s.data.toList most k ≤ most then 10 * clip s.data.toList most k + (s[k].toNat - 48) else clip s.data.toList most k := clip_next _ most k h
section
attribute [local irreducible] digR num okD isD clip
end
end Go.Proofs.YticmfflnenoplacDoor
