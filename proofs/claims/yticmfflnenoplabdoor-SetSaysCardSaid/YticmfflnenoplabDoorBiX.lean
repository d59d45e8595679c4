/- Sets of processors: SetSays: its walk. No statement is proved here. -/
import Derived.Test.YticmfflnenoplabDoorBiW
namespace Go.Proofs.YticmfflnenoplabDoor
open Go.RowKit Go.Deep Pop Bi Am
theorem ofP_lt (l : List Int) : (ofP l).1 < 18446744073709551616 ∧ ((ofP l).2 = 0 ∨ (ofP l).2 = 1) := by
  have key : ∀ (l : List Int) (a : Nat), a < 18446744073709551616 → (ofA a l).1 < 18446744073709551616 ∧ ((ofA a l).2 = 0 ∨ (ofA a l).2 = 1) := by
    intro l
    induction l with
    | nil => intro a ha; exact ⟨ha, .inl rfl⟩
    | cons x l ih =>
      intro a ha
      rw [ofA]
      split
      · exact ⟨by decide, .inr rfl⟩
      · exact ih _ (or_lt ha (pow_lt (by omega)))
  exact key l 0 (by omega)
theorem goW_sure (L : List (List UInt8)) : ∀ a, a < 18446744073709551616 → (goW a L).1 < 18446744073709551616 ∧ 0 ≤ (goW a L).2 := by
  induction L with
  | nil => intro a ha; exact ⟨ha, by simp [goW]⟩
  | cons x L ih =>
    intro a ha
    rw [goW]
    split
    · exact ⟨by decide, by decide⟩
    · rename_i h1
      split
      · exact ⟨by decide, by decide⟩
      · have h3 : ¬ num (wordB x) < num (wordA x) := fun h => h1 (by simp [h])
        exact ih _ (orR_lt ha (by omega))
theorem parseP_sure (s : List UInt8) : (parseP s).1 < 18446744073709551616 ∧ 0 ≤ (parseP s).2 := by
  unfold parseP
  split
  · exact ⟨by decide, by decide⟩
  · split
    · exact ⟨by decide, by decide⟩
    · exact goW_sure _ 0 (by omega)
end Go.Proofs.YticmfflnenoplabDoor
