/- A slice that is read: its elements' cells lie in a block of a kind. No statement is proved here. -/
import Derived.Test.YticmfflnenoplabDoorComm
import Derived.Test.YticmfflnenoplabDoorData
namespace Go.Proofs.YticmfflnenoplabDoor
open Go.RowKit

/-- Like RSlice, its block of the kind S. -/
def RS {α : Type} (w : World) (S : Nat → Prop) (C : Nat) (R : List Value → α → Prop) (cs : List Value) (l : List α) : Prop :=
  ∃ A cap, cs = [.slice A l.length cap] ∧ l.length ≤ cap ∧ cap ≤ maxLen ∧
    (l.length = 0 ∨ ∃ b off, A = some ⟨b, off, none⟩ ∧ S b ∧ ∀ i (h : i < l.length), ∃ cs', cs'.length = C ∧ (∀ j u, cs'[j]? = some u → w.cell? ⟨b, off + i * C + j, none⟩ = some u) ∧ R cs' l[i])
theorem RS.of {α : Type} {w : World} {B C : Nat} {R : List Value → α → Prop} {cs : List Value} {l : List α} (h : RSlice w B C R cs l) : RS w (· < B) C R cs l := h
section
variable {α : Type} {w w' : World} {S S' : Nat → Prop} {C : Nat} {R R' : List Value → α → Prop} {cs : List Value} {l : List α}
theorem RS.move (h : RS w S C R cs l) (hw : ∀ b, S b → w'.heap[b]? = w.heap[b]?) (hS : ∀ b, S b → S' b) (hR : ∀ cs x, x ∈ l → R cs x → R' cs x) : RS w' S' C R' cs l := by
  obtain ⟨A, cap, h1, h2, h3, h4⟩ := h
  refine ⟨A, cap, h1, h2, h3, ?_⟩
  rcases h4 with h4 | ⟨b, off, hA, hb, h4⟩
  · exact .inl h4
  · refine .inr ⟨b, off, hA, hS b hb, fun i hi => ?_⟩
    obtain ⟨cs', hl, hc, hr⟩ := h4 i hi
    exact ⟨cs', hl, fun j u hu => (World.cell?_of_block (w := w) (a := ⟨b, off + i * C + j, none⟩) (hw b hb)).trans (hc j u hu), hR _ _ (List.getElem_mem _) hr⟩
theorem RS.form (h : RS w S C R cs l) : ∃ A cap, cs = [.slice A l.length cap] ∧ l.length ≤ cap ∧ cap ≤ maxLen ∧ (∀ k, k < l.length → ∃ b off, A = some ⟨b, off, none⟩ ∧ S b) := by
  obtain ⟨A, cap, h1, h2, h3, h4⟩ := h
  refine ⟨A, cap, h1, h2, h3, fun k hk => ?_⟩
  rcases h4 with h4 | ⟨b, off, hA, hb, _⟩
  · omega
  · exact ⟨b, off, hA, hb⟩
theorem RS.at_ {b off n cap : Nat} (h : RS w S C R [.slice (some ⟨b, off, none⟩) n cap] l) {i : Nat} (hi : i < l.length) :
    S b ∧ ∃ cs', cs'.length = C ∧ (∀ j u, cs'[j]? = some u → w.cell? ⟨b, off + i * C + j, none⟩ = some u) ∧ R cs' l[i] := by
  obtain ⟨A, cap', h1, h2, h3, h4⟩ := h
  rcases h4 with h4 | ⟨b', off', hA, hlt, h4⟩
  · omega
  · simp only [List.cons.injEq, Value.slice.injEq, and_true] at h1
    obtain ⟨hA', _⟩ := h1
    rw [hA] at hA'
    simp only [Option.some.injEq, Addr.mk.injEq, and_true] at hA'
    obtain ⟨rfl, rfl⟩ := hA'
    exact ⟨hlt, h4 i hi⟩
/-- All but the first. -/
theorem RS.tail {b off n cap : Nat} {x : α} (h : RS w S C R [.slice (some ⟨b, off, none⟩) n cap] (x :: l)) (A : Option Addr) (hA : 0 < l.length → A = some ⟨b, off + C, none⟩) : RS w S C R [.slice A (n - 1) (cap - 1)] l := by
  have hat := fun i (hi : i < l.length) => h.at_ (i := i + 1) (by simpa using hi)
  obtain ⟨A', cap', h1, h2, h3, h4⟩ := h
  simp only [List.cons.injEq, Value.slice.injEq, and_true] at h1
  obtain ⟨_, hn, rfl⟩ := h1
  simp only [List.length_cons] at hn h2
  refine ⟨A, cap - 1, by rw [hn]; simp, by omega, by omega, ?_⟩
  by_cases hz : l.length = 0
  · exact .inl hz
  · refine .inr ⟨b, off + C, hA (by omega), (hat 0 (by omega)).1, fun i hi => ?_⟩
    obtain ⟨_, cs', e1, e2, e3⟩ := hat i hi
    refine ⟨cs', e1, fun j u hu => ?_, by simpa using e3⟩
    have := e2 j u hu
    rw [show off + C + i * C + j = off + (i + 1) * C + j by rw [Nat.add_mul]; omega]
    exact this
theorem flatMap_at {f : α → List Value} (l : List α) (hf : ∀ x, x ∈ l → (f x).length = C) (i : Nat) (hi : i < l.length) (j : Nat) (hj : j < C) : (l.flatMap f)[i * C + j]? = (f l[i])[j]? := by
  induction l generalizing i with
  | nil => simp at hi
  | cons x l ih =>
    have hx := hf x (by simp)
    rw [List.flatMap_cons]
    cases i with
    | zero =>
      rw [List.getElem?_append_left (by omega)]
      simp
    | succ i =>
      rw [List.getElem?_append_right (by rw [hx, Nat.add_mul]; omega), hx, show (i + 1) * C + j - C = i * C + j by rw [Nat.add_mul]; omega, ih (fun y hy => hf y (by simp [hy])) i (by simpa using hi)]
      simp
/-- A slice of the call's own, read. -/
theorem RS.own {base : Nat} {e : TypeId} {v : Value} {f : α → List Value} (h : w.ownsRow base e C v l.length (l.flatMap f)) (hf : ∀ x, x ∈ l → (f x).length = C) (hR : ∀ x, x ∈ l → R (f x) x) (hS : ∀ g, v.ownBlock = some g → S g) : RS w S C R [v] l := by
  obtain ⟨A, cap, rfl, h1, h2, h3⟩ := own_form h
  refine ⟨A, cap, rfl, h1, h2, ?_⟩
  by_cases hz : l.length = 0
  · exact .inl hz
  · obtain ⟨g, rfl, _, _⟩ := h3 (by omega)
    refine .inr ⟨g, 0, rfl, hS g rfl, fun i hi => ⟨f l[i], hf _ (List.getElem_mem _), fun j u hu => ?_, hR _ (List.getElem_mem _)⟩⟩
    have hj : j < C := by
      have := (List.getElem?_eq_some_iff.1 hu).1
      rw [hf _ (List.getElem_mem _)] at this
      exact this
    have hlt : i * C + j < l.length * C := by
      have : i * C + C ≤ l.length * C := by rw [← Nat.succ_mul]; exact Nat.mul_le_mul_right _ hi
      omega
    rw [Nat.zero_add, h.cellAt _ hlt, flatMap_at l hf i hi j hj, hu]
/-- A block that was just made, read as a slice. -/
theorem RS.blk {g : Nat} {t : TypeId} {arr : Array Value} {f : α → List Value} (h : Blk w g t arr) (ha : arr.toList = l.flatMap f) (hl : l.length ≤ maxLen) (hf : ∀ x, x ∈ l → (f x).length = C) (hR : ∀ x, x ∈ l → R (f x) x) (hS : S g) : RS w S C R [.slice (some ⟨g, 0, none⟩) l.length l.length] l := by
  refine ⟨_, _, rfl, Nat.le_refl _, hl, .inr ⟨g, 0, rfl, hS, fun i hi => ⟨f l[i], hf _ (List.getElem_mem _), fun j u hu => ?_, hR _ (List.getElem_mem _)⟩⟩⟩
  have hj : j < C := by
    have := (List.getElem?_eq_some_iff.1 hu).1
    rw [hf _ (List.getElem_mem _)] at this
    exact this
  rw [Nat.zero_add, h.cell, ← Array.getElem?_toList, ha, flatMap_at l hf i hi j hj, hu]
end
end Go.Proofs.YticmfflnenoplabDoor
