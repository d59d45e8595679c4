/- Sets of processors: the reference's text, Inside, Count: their walks. No statement is proved here. -/
import Derived.Test.YticmfflnenoplacDoorBiD
namespace Go.Proofs.YticmfflnenoplacDoor
open Go.RowKit Go.Deep Pop Bi
namespace Bi
theorem map_nil_iff {ps : List (Nat × Nat)} : (ps.map spanT = []) ↔ ps = [] := List.map_eq_nil_iff
theorem itoa_pos (n : Nat) (h : n < 64) : 0 < (Lib.itoa (n : Int)).length := by
  rw [Am.itoa_nat]
  rcases Nat.eq_zero_or_pos (Lib.decDigits n).length with h | h
  · have := List.length_eq_zero_iff.1 h
    have h2 : ∀ m : Nat, m < 64 → Lib.decDigits m ≠ [] := by decide +kernel
    exact absurd this (h2 n (by assumption))
  · exact h
theorem spanT_pos {p : Nat × Nat} (h : p.1 < 64) : 0 < (spanT p).length := by
  have := itoa_pos p.1 h
  unfold spanT
  rw [List.length_append]
  omega
theorem join_pos {ps : List (Nat × Nat)} (hp : ∀ p ∈ ps, p.1 < 64 ∧ p.2 < 64) (h : ps ≠ []) : 0 < (Lib.join (ps.map spanT) [44]).length := by
  cases ps with
  | nil => exact absurd rfl h
  | cons p ps =>
    have h1 := spanT_pos (hp p (by simp)).1
    cases ps with
    | nil => simpa [Lib.join, List.intercalate] using h1
    | cons q ps =>
      have e : Lib.join ((p :: q :: ps).map spanT) [44] = spanT p ++ 44 :: Lib.join ((q :: ps).map spanT) [44] := by simp [Lib.join, List.intercalate]
      rw [e, List.length_append]
      omega
/-- The text so far, and one more span. -/
theorem text_more {ps : List (Nat × Nat)} {p : Nat × Nat} : Lib.join ((ps ++ [p]).map spanT) [44] = if ps = [] then spanT p else Lib.join (ps.map spanT) [44] ++ 44 :: spanT p := by
  rw [List.map_append, List.map_cons, List.map_nil, join_snoc]
  simp only [map_nil_iff]
end Bi
theorem str_isE (l : List UInt8) (h : 0 < l.length) : ((⟨l.toArray⟩ : ByteArray).toList.isEmpty) = false := by
  rw [ByteArray.toList_eq]
  cases l with
  | nil => simp at h
  | cons a l => rfl
theorem tx_one {T : ByteArray} {J : List UInt8} (b : UInt8) (t : List UInt8) (hT : T = ⟨J.toArray⟩) : (T ++ ⟨#[b]⟩) ++ ⟨t.toArray⟩ = ⟨(J ++ b :: t).toArray⟩ := by
  rw [hT, show (⟨#[b]⟩ : ByteArray) = ⟨[b].toArray⟩ from rfl, str_app, str_app]
  simp
theorem tx_nil (t : List UInt8) : (⟨#[]⟩ : ByteArray) ++ ⟨t.toArray⟩ = ⟨t.toArray⟩ := by
  rw [show (⟨#[]⟩ : ByteArray) = ⟨([] : List UInt8).toArray⟩ from rfl, str_app]
  rfl
theorem str_size (l : List UInt8) : (⟨l.toArray⟩ : ByteArray).size = l.length := rfl
section
attribute [local irreducible] inS spans endR spanT Lib.itoa Lib.join
end
end Go.Proofs.YticmfflnenoplacDoor
