/- TopPool: what is taken is good; who holds what, in memory. No statement is proved here. -/
import Derived.Test.YticmfflnenoplabDvI
import Derived.Test.YticmfflnenoplabLight
import Derived.Deep.CutBlock
namespace Go.Proofs.Yticmfflnenoplab
open Go.RowKit Dv Da Mk
namespace Dv
def padT (u : List Bool) : List Value := (List.range 16).map fun i => .bool (u.getD i false)
theorem padT_at (u : List Bool) (i : Nat) (hi : i < 16) : (padT u).toArray[i]? = some (.bool (u.getD i false)) := by
  simp [padT, List.getElem?_range hi]
theorem padT_set (u : List Bool) (i : Nat) (hi : i < u.length) (b : Bool) : (padT u).toArray.setIfInBounds i (.bool b) = (padT (u.set i b)).toArray := by
  apply Array.ext'
  rw [Array.toList_setIfInBounds]
  simp only []
  apply List.ext_getElem?
  intro j
  unfold padT
  rw [List.getElem?_set]
  by_cases hj : j < 16
  · by_cases hij : i = j
    · subst hij
      simp [hj, hi]
    · simp [hj, hij, List.getD, List.getElem?_set]
  · by_cases hij : i = j
    · subst hij
      simp [hj]
    · have hnn : (List.range 16)[j]? = none := by rw [List.getElem?_eq_none_iff]; simp; omega
      rw [if_neg hij, List.getElem?_map, List.getElem?_map, hnn]
      rfl
theorem padT_none (n : Nat) : padT (List.replicate n false) = List.replicate 16 (.bool false) := by
  unfold padT
  have h : (fun i => Value.bool ((List.replicate n false).getD i false)) = fun _ => .bool false := by
    funext i
    by_cases hn : i < n <;> simp [List.getD, hn]
  rw [h]
  rfl
theorem getD_at {u : List Bool} {i : Nat} (h : i < u.length) : u.getD i false = u[i] := by simp [List.getD, h]
theorem markU_atI (b : Bool) : ∀ (xs : List Int) (u : List Bool) (j : Nat) (_ : ∀ x ∈ xs, 0 ≤ x) (hj : j < u.length), (markU u b xs)[j]'(by rw [markU_len]; exact hj) = if (j : Int) ∈ xs then b else u[j]
  | [], u, j, _, hj => by simp [markU]
  | x :: xs, u, j, h0, hj => by
    have ih := markU_atI b xs (u.set x.toNat b) j (fun y hy => h0 y (List.mem_cons_of_mem _ hy)) (by simpa using hj)
    have e : markU u b (x :: xs) = markU (u.set x.toNat b) b xs := rfl
    simp only [e]
    rw [ih, List.getElem_set]
    have hx := h0 x (by simp)
    by_cases h1 : (j : Int) ∈ xs
    · simp [h1]
    · by_cases h2 : x.toNat = j
      · have : (j : Int) = x := by omega
        simp [h2, this]
      · have : ¬ (j : Int) = x := fun h => h2 (by omega)
        simp [h1, h2, this]
theorem both_nd (k : ByteArray) (on : Nat) (l : List Dev) (u : List Bool) : (both k on l u).Nodup := by
  unfold both
  rw [List.nodup_append]
  refine ⟨List.nodup_range.filter _, List.nodup_range.filter _, fun a ha b hb hab => ?_⟩
  subst hab
  have h1 := (Bool.and_eq_true _ _ ▸ (List.mem_filter.1 ha).2).2
  have h2 := (Bool.and_eq_true _ _ ▸ (List.mem_filter.1 hb).2).2
  rw [h1] at h2
  cases h2
theorem both_want {k : ByteArray} {on : Nat} {l : List Dev} {u : List Bool} {x : Nat} (h : x ∈ both k on l u) : want k l u x = true := by
  rcases List.mem_append.1 h with h | h
  · exact (Bool.and_eq_true _ _ ▸ (List.mem_filter.1 h).2).1
  · exact (Bool.and_eq_true _ _ ▸ (List.mem_filter.1 h).2).1
/-- What is taken: free, well, of the kind. -/
theorem took {k : ByteArray} {many : Int} {on : Nat} {l : List Dev} {u : List Bool} (hu : u.length = l.length) {x : Int} (h : x ∈ takeL k many on l u) : ∃ n : Nat, ∃ hn : n < l.length, x = n ∧ u[n]'(by omega) = false ∧ hit k l[n] = true := by
  have h1 := (srt_perm _).mem_iff.1 h
  obtain ⟨n, hn, rfl⟩ := List.mem_map.1 h1
  have hb := List.mem_of_mem_take hn
  have hlt := both_lt hb
  have hw := both_want hb
  rw [want_at hlt hu, Bool.and_eq_true, Bool.not_eq_true'] at hw
  exact ⟨n, hlt, rfl, hw.2, hw.1⟩
theorem took_nd (k : ByteArray) (many : Int) (on : Nat) (l : List Dev) (u : List Bool) : (takeL k many on l u).Nodup := by
  unfold takeL
  refine (srt_perm _).nodup_iff.2 ?_
  unfold chosen
  have h := (both_nd k on l u).sublist (List.take_sublist many.toNat _)
  unfold List.Nodup at *
  rw [List.pairwise_map]
  exact h.imp fun h e => h (Int.ofNat.inj e)
theorem took_lt (k : ByteArray) (many : Int) (on : Nat) (l : List Dev) (u : List Bool) (i : Nat) (h0 : 0 < i) (hi : i < (takeL k many on l u).length) : (takeL k many on l u)[i - 1]'(by omega) < (takeL k many on l u)[i] := by
  have h1 : (takeL k many on l u)[i - 1]'(by omega) ≤ (takeL k many on l u)[i] := List.pairwise_iff_getElem.1 (srt_le _) (i - 1) i (by unfold takeL at hi; omega) hi (by omega)
  have h2 : (takeL k many on l u)[i - 1]'(by omega) ≠ (takeL k many on l u)[i] := List.pairwise_iff_getElem.1 (took_nd k many on l u) (i - 1) i (by omega) hi (by omega)
  omega
theorem took_not (k : ByteArray) (many : Int) (on : Nat) (l : List Dev) (u : List Bool) (i : Nat) (hi : i < (takeL k many on l u).length) : (takeL k many on l u)[i] ∉ (takeL k many on l u).take i := fun h => by
  obtain ⟨j, hj, he⟩ := List.getElem_of_mem h
  rw [List.getElem_take] at he
  simp at hj
  exact List.pairwise_iff_getElem.1 (took_nd k many on l u) j i (by omega) hi (by omega) he
theorem took_len {k : ByteArray} {many : Int} {on : Nat} {l : List Dev} {u : List Bool} (h : takeF k many on l u = 0) : ((takeL k many on l u).length : Int) = many := by
  unfold takeF at h
  split at h
  · cases h
  · split at h
    · cases h
    · unfold takeL
      rw [srt_len]
      unfold chosen
      rw [List.length_map, List.length_take]
      omega
end Dv
end Go.Proofs.Yticmfflnenoplab
