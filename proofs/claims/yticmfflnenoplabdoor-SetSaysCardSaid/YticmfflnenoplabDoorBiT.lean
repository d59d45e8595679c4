/- Sets of processors: the reference's reading: its walk. No statement is proved here. -/
import Derived.Test.YticmfflnenoplabDoorBiS
namespace Go.Proofs.YticmfflnenoplabDoor
open Go.RowKit Go.Deep Pop Bi Am
namespace Bi
theorem index_atc (c : UInt8) (p r : List UInt8) (h : c ∉ p) : Lib.indexByte (p ++ c :: r) c = p.length := by
  induction p with
  | nil => simp [Lib.indexByte]
  | cons d p ih =>
    simp only [List.mem_cons, not_or] at h
    have hc : (d == c) = false := by simp; exact fun e => h.1 e.symm
    rw [List.cons_append, Lib.indexByte, hc, ih h.2]
    simp
theorem index_none (c : UInt8) (p : List UInt8) (h : c ∉ p) : Lib.indexByte p c = -1 := by
  induction p with
  | nil => simp [Lib.indexByte]
  | cons d p ih =>
    simp only [List.mem_cons, not_or] at h
    have hc : (d == c) = false := by simp; exact fun e => h.1 e.symm
    rw [Lib.indexByte, hc, ih h.2]
    simp
/-- Where a dash stands first, at j or behind it. -/
def DashI (l : List UInt8) (j : Nat) (v : Int) : Prop :=
  (v = -1 ∧ ∀ i (h : i < l.length), j ≤ i → l[i] ≠ 45) ∨ ∃ d, ∃ hd : d < l.length, v = d ∧ l[d] = 45 ∧ ∀ i (h : i < l.length), j ≤ i → i < d → l[i] ≠ 45
theorem dash_start (l : List UInt8) : DashI l l.length (-1) := .inl ⟨rfl, fun i h hj => absurd h (by omega)⟩
theorem dash_hit {l : List UInt8} {j : Nat} (hj : j < l.length) (hc : l[j] = 45) : DashI l j j := .inr ⟨j, hj, rfl, hc, fun i _ h1 h2 => absurd h1 (by omega)⟩
theorem dash_go {l : List UInt8} {j : Nat} {v : Int} (h : DashI l (j + 1) v) (hj : j < l.length) (hc : l[j] ≠ 45) : DashI l j v := by
  rcases h with ⟨hv, h⟩ | ⟨d, hd, hv, h1, h⟩
  · refine .inl ⟨hv, fun i hi hji => ?_⟩
    rcases Nat.lt_or_eq_of_le hji with h' | rfl
    · exact h i hi h'
    · exact hc
  · refine .inr ⟨d, hd, hv, h1, fun i hi hji hid => ?_⟩
    rcases Nat.lt_or_eq_of_le hji with h' | rfl
    · exact h i hi h' hid
    · exact hc
theorem dash_end {l : List UInt8} {v : Int} (h : DashI l 0 v) : (v = -1 ∧ wordA l = l ∧ wordB l = l) ∨ ∃ d, d < l.length ∧ v = (d : Int) ∧ wordA l = l.take d ∧ wordB l = l.drop (d + 1) := by
  rcases h with ⟨hv, h⟩ | ⟨d, hd, hv, h1, h⟩
  · have hn : (45 : UInt8) ∉ l := fun hm => by
      obtain ⟨i, hi, he⟩ := List.mem_iff_getElem.1 hm
      exact h i hi (Nat.zero_le _) he
    have hc : Lib.cut l [45] = (l, [], false) := by
      unfold Lib.cut
      rw [Lib.index_one, index_none _ _ hn]
      rfl
    exact .inl ⟨hv, by rw [wordA, hc], by rw [wordB, hc]; rfl⟩
  · have hn : (45 : UInt8) ∉ l.take d := fun hm => by
      obtain ⟨i, hi, he⟩ := List.mem_iff_getElem.1 hm
      rw [List.length_take] at hi
      rw [List.getElem_take] at he
      exact h i (by omega) (Nat.zero_le _) (by omega) he
    have hl : l = l.take d ++ 45 :: l.drop (d + 1) := by
      conv => lhs; rw [← List.take_append_drop d l, List.drop_eq_getElem_cons hd, h1]
    have hx : Lib.index l [45] = (d : Int) := by
      rw [Lib.index_one]
      conv => lhs; rw [hl]
      rw [index_atc _ _ _ hn, List.length_take]
      congr 1
      omega
    have hc : Lib.cut l [45] = (l.take d, l.drop (d + 1), true) := by
      unfold Lib.cut
      rw [hx, if_pos (by omega)]
      rfl
    exact .inr ⟨d, hd, hv, by rw [wordA, hc], by rw [wordB, hc]; rfl⟩
theorem numB_is (a : List UInt8) : numB a = (okD a && intB a) := by
  cases h : okD a
  · simp [numB, h]
  · rw [intB_num h]; rfl
theorem digR_is (a : List UInt8) : digR a 1000 = (if okD a then (min (num a) 1001, true) else (0, false)) := rfl
theorem wordsP_ne (s : List UInt8) : wordsP s ≠ [] := by
  have key : ∀ (l p : List UInt8), splitP p l ≠ [] := by
    intro l
    induction l with
    | nil => intro p; simp [splitP]
    | cons c l ih => intro p; simp only [splitP]; split; · simp
                     · exact ih _
  rw [wordsP_is]
  exact key _ _
end Bi
end Go.Proofs.YticmfflnenoplabDoor
