/- Who goes first: the reference's order, plain. No program is named here; no statement is proved here. -/
import Derived.Test.YticmfflnenoplacEvD
namespace Go.Proofs.Yticmfflnenoplac
open Da Qo
namespace Ev
/-- Pods that may be ranked, of unlike names. -/
structure Apart (us : List Use) (l : List Pod) : Prop where
  fit : ∀ p ∈ l, Fit us p
  nd : (l.map fun p => (p.name : ByteArray)).Nodup
theorem Fit.name {us : List Use} {p : Pod} (h : Fit us p) : (rowOf us p).name = p.name := by rw [h.row]
theorem rank_names {us : List Use} {l : List Pod} (h : Apart us l) : ((rankL us l).map Row.name).Perm (l.map fun p => (p.name : ByteArray)) := by
  have h1 := (sortR_perm (l.map (rowOf us))).map Row.name
  rw [List.map_map] at h1
  have h2 : l.map (Row.name ∘ rowOf us) = l.map fun p => (p.name : ByteArray) := List.map_congr_left fun p hp => (h.fit p hp).name
  rw [h2] at h1
  exact h1
theorem rank_nd {us : List Use} {l : List Pod} (h : Apart us l) : ((rankL us l).map Row.name).Nodup := (rank_names h).nodup_iff.2 h.nd
/-- Has it gone, behind the first k? -/
def doneB (S : List Row) (k : Nat) (p : Pod) : Bool := (S.take k).any fun r => sameS r.name p.name
def doneL (S : List Row) (k : Nat) (l : List Pod) : List Bool := l.map (doneB S k)
def boolsV (u : List Bool) : List Value := u.map Value.bool
theorem boolsV_at (u : List Bool) (i : Nat) (hi : i < u.length) : (boolsV u)[i]? = some (.bool u[i]) := by simp [boolsV, hi]
theorem boolsV_set (u : List Bool) (i : Nat) (b : Bool) : (boolsV u).set i (.bool b) = boolsV (u.set i b) := by unfold boolsV; rw [List.map_set]
theorem done_iff {S : List Row} {k : Nat} {p : Pod} : doneB S k p = true ↔ ∃ i, ∃ hi : i < S.length, i < k ∧ S[i].name = p.name := by
  unfold doneB
  rw [List.any_eq_true]
  constructor
  · rintro ⟨r, hr, hs⟩
    obtain ⟨i, hi, rfl⟩ := List.getElem_of_mem hr
    rw [List.getElem_take] at hs
    simp at hi
    exact ⟨i, by omega, by omega, str_of hs⟩
  · rintro ⟨i, hi, hk, he⟩
    exact ⟨S[i], by rw [List.mem_take_iff_getElem]; exact ⟨i, by omega, rfl⟩, by rw [he]; exact sameS_self _⟩
theorem doneL_zero (S : List Row) (l : List Pod) : doneL S 0 l = List.replicate l.length false := by
  unfold doneL
  rw [List.eq_replicate_iff]
  refine ⟨by simp, fun b hb => ?_⟩
  obtain ⟨p, _, rfl⟩ := List.mem_map.1 hb
  simp [doneB]
section
variable {us : List Use} {l : List Pod}
theorem nd_at {S : List Row} (h : (S.map Row.name).Nodup) {i j : Nat} (hi : i < S.length) (hj : j < S.length) (he : S[i].name = S[j].name) : i = j := by
  rcases Nat.lt_trichotomy i j with h1 | h1 | h1
  · have := List.pairwise_iff_getElem.1 h i j (by simpa using hi) (by simpa using hj) h1
    simp only [List.getElem_map] at this
    exact absurd he this
  · exact h1
  · have := List.pairwise_iff_getElem.1 h j i (by simpa using hj) (by simpa using hi) h1
    simp only [List.getElem_map] at this
    exact absurd he.symm this
theorem ndp_at (h : Apart us l) {i j : Nat} (hi : i < l.length) (hj : j < l.length) (he : l[i].name = l[j].name) : i = j := by
  rcases Nat.lt_trichotomy i j with h1 | h1 | h1
  · have := List.pairwise_iff_getElem.1 h.nd i j (by simpa using hi) (by simpa using hj) h1
    simp only [List.getElem_map] at this
    exact absurd he this
  · exact h1
  · have := List.pairwise_iff_getElem.1 h.nd j i (by simpa using hj) (by simpa using hi) h1
    simp only [List.getElem_map] at this
    exact absurd he.symm this
/-- The k-th in order is somebody's row, and has not gone. -/
theorem next_is (h : Apart us l) {k : Nat} (hk : k < (rankL us l).length) : ∃ j, ∃ hj : j < l.length, rowOf us l[j] = (rankL us l)[k] ∧ doneB (rankL us l) k l[j] = false := by
  have hm : (rankL us l)[k] ∈ l.map (rowOf us) := (sortR_perm _).mem_iff.1 (List.getElem_mem hk)
  obtain ⟨p, hp, he⟩ := List.mem_map.1 hm
  obtain ⟨j, hj, rfl⟩ := List.getElem_of_mem hp
  refine ⟨j, hj, he, ?_⟩
  cases hd : doneB (rankL us l) k l[j]
  · rfl
  · obtain ⟨i, hi, hik, hn⟩ := done_iff.1 hd
    have := nd_at (rank_nd h) hi hk (by rw [hn, ← he, (h.fit _ hp).name])
    omega
/-- The best of those that have not gone is the next one. -/
theorem best_is (h : Apart us l) {k j : Nat} (hk : k < (rankL us l).length) (hj : j < l.length) (hd : doneB (rankL us l) k l[j] = false) (hb : ∀ i (hi : i < l.length), doneB (rankL us l) k l[i] = false → ltB (rowOf us l[i]) (rowOf us l[j]) = false) : rowOf us l[j] = (rankL us l)[k] := by
  obtain ⟨j1, hj1, e1, d1⟩ := next_is h hk
  have hb1 := hb j1 hj1 d1
  rw [e1] at hb1
  refine tot _ _ ?_ hb1
  have hm : rowOf us l[j] ∈ rankL us l := (sortR_perm _).mem_iff.2 (List.mem_map_of_mem (List.getElem_mem hj))
  obtain ⟨i, hi, he⟩ := List.getElem_of_mem hm
  have hki : k ≤ i := by
    rcases Nat.lt_or_ge i k with h1 | h1
    · have : doneB (rankL us l) k l[j] = true := done_iff.2 ⟨i, hi, h1, by rw [he, (h.fit _ (List.getElem_mem hj)).name]⟩
      rw [hd] at this
      cases this
    · exact h1
  rw [← he]
  rcases Nat.lt_or_ge k i with h1 | h1
  · exact List.pairwise_iff_getElem.1 (sortR_sorted (l.map (rowOf us))) k i hk hi h1
  · obtain rfl : i = k := by omega
    exact swo.irrefl _
theorem done_next (h : Apart us l) {k j : Nat} (hk : k < (rankL us l).length) (hj : j < l.length) (he : rowOf us l[j] = (rankL us l)[k]) : doneL (rankL us l) (k + 1) l = (doneL (rankL us l) k l).set j true := by
  apply List.ext_getElem
  · simp [doneL]
  · intro i h1 h2
    have hi : i < l.length := by simpa [doneL] using h1
    rw [List.getElem_set]
    simp only [doneL, List.getElem_map]
    rw [Bool.eq_iff_iff]
    split
    · rename_i hij
      subst hij
      simp only [iff_true]
      exact done_iff.2 ⟨k, hk, by omega, by rw [← he, (h.fit _ (List.getElem_mem hj)).name]⟩
    · rename_i hij
      rw [done_iff, done_iff]
      constructor
      · rintro ⟨q, hq, hqk, hn⟩
        rcases Nat.lt_or_ge q k with h3 | h3
        · exact ⟨q, hq, h3, hn⟩
        · obtain rfl : q = k := by omega
          exfalso
          apply hij
          refine ndp_at h hj hi ?_
          rw [← hn, ← he, (h.fit _ (List.getElem_mem hj)).name]
      · rintro ⟨q, hq, hqk, hn⟩
        exact ⟨q, hq, by omega, hn⟩
end
/-- What the inner loop knows: b is the best of those below i that have not gone; below 0: all have gone. -/
def Best (us : List Use) (l : List Pod) (k i : Nat) (b : Int) : Prop :=
  (b = -1 ∧ ∀ j (hj : j < l.length), j < i → doneB (rankL us l) k l[j] = true) ∨
  (∃ j, ∃ hj : j < l.length, b = j ∧ j < i ∧ doneB (rankL us l) k l[j] = false ∧ ∀ m (hm : m < l.length), m < i → doneB (rankL us l) k l[m] = false → ltB (rowOf us l[m]) (rowOf us l[j]) = false)
section
variable {us : List Use} {l : List Pod} {k i : Nat} {b : Int}
theorem best_cases (h : Best us l k i b) : (b = -1 ∧ ∀ j (hj : j < l.length), j < i → doneB (rankL us l) k l[j] = true) ∨
  (∃ j, ∃ hj : j < l.length, b = j ∧ j < i ∧ doneB (rankL us l) k l[j] = false ∧ ∀ m (hm : m < l.length), m < i → doneB (rankL us l) k l[m] = false → ltB (rowOf us l[m]) (rowOf us l[j]) = false) := h
theorem best_zero : Best us l k 0 (-1) := .inl ⟨rfl, fun j hj h => by omega⟩
theorem best_done (h : Best us l k i b) (hi : i < l.length) (hd : doneB (rankL us l) k l[i] = true) : Best us l k (i + 1) b := by
  rcases h with ⟨h1, h2⟩ | ⟨j, hj, h1, h2, h3, h4⟩
  · refine .inl ⟨h1, fun m hm hmi => ?_⟩
    rcases (show m < i ∨ m = i by omega) with h | rfl
    · exact h2 m hm h
    · exact hd
  · refine .inr ⟨j, hj, h1, by omega, h3, fun m hm hmi hdm => ?_⟩
    rcases (show m < i ∨ m = i by omega) with h | rfl
    · exact h4 m hm h hdm
    · rw [hd] at hdm; cases hdm
theorem best_first (h : ∀ j (hj : j < l.length), j < i → doneB (rankL us l) k l[j] = true) (hi : i < l.length) (hd : doneB (rankL us l) k l[i] = false) : Best us l k (i + 1) i := by
  refine .inr ⟨i, hi, rfl, by omega, hd, fun m hm hmi hdm => ?_⟩
  rcases (show m < i ∨ m = i by omega) with h' | rfl
  · rw [h m hm h'] at hdm; cases hdm
  · exact swo.irrefl _
theorem best_new {j : Nat} (hj : j < l.length) (h : ∀ m (hm : m < l.length), m < i → doneB (rankL us l) k l[m] = false → ltB (rowOf us l[m]) (rowOf us l[j]) = false) (hi : i < l.length) (hd : doneB (rankL us l) k l[i] = false) (hlt : ltB (rowOf us l[i]) (rowOf us l[j]) = true) : Best us l k (i + 1) i := by
  refine .inr ⟨i, hi, rfl, by omega, hd, fun m hm hmi hdm => ?_⟩
  rcases (show m < i ∨ m = i by omega) with h' | rfl
  · have h1 := h m hm h' hdm
    cases h2 : ltB (rowOf us l[m]) (rowOf us l[i])
    · rfl
    · rw [swo.trans _ _ _ h2 hlt] at h1
      cases h1
  · exact swo.irrefl _
theorem best_old {j : Nat} (hj : j < l.length) (hji : j < i) (hdj : doneB (rankL us l) k l[j] = false) (h : ∀ m (hm : m < l.length), m < i → doneB (rankL us l) k l[m] = false → ltB (rowOf us l[m]) (rowOf us l[j]) = false) (hi : i < l.length) (hlt : ltB (rowOf us l[i]) (rowOf us l[j]) = false) : Best us l k (i + 1) j := by
  refine .inr ⟨j, hj, rfl, by omega, hdj, fun m hm hmi hdm => ?_⟩
  rcases (show m < i ∨ m = i by omega) with h' | rfl
  · exact h m hm h' hdm
  · exact hlt
theorem best_end (ha : Apart us l) (hk : k < (rankL us l).length) (h : Best us l k l.length b) : ∃ j, ∃ hj : j < l.length, b = j ∧ rowOf us l[j] = (rankL us l)[k] := by
  rcases h with ⟨h1, h2⟩ | ⟨j, hj, h1, h2, h3, h4⟩
  · obtain ⟨j, hj, _, hd⟩ := next_is ha hk
    rw [h2 j hj hj] at hd
    cases hd
  · exact ⟨j, hj, h1, best_is ha hk hj h3 fun m hm hd => h4 m hm hm hd⟩
end
end Ev
end Go.Proofs.Yticmfflnenoplac
