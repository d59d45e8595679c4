/- TopRank: plain: the others, in the other order. No statement is proved here. -/
import Derived.Test.YticmfflnenoplacEvL
namespace Go.Proofs.Yticmfflnenoplac
open Go.RowKit Go.Deep Da Qo Ev
namespace Ev
theorem sorted_one : ∀ (l m : List Row), l.Perm m → l.Pairwise (fun x y => ltB y x = false) → m.Pairwise (fun x y => ltB y x = false) → l = m
  | [], m, hp, _, _ => by rw [List.nil_perm.1 hp]
  | a :: l, [], hp, _, _ => by simp at hp
  | a :: l, b :: m, hp, h1, h2 => by
    have hab : a = b := by
      have ha : a ∈ b :: m := hp.mem_iff.1 (by simp)
      have hb : b ∈ a :: l := hp.mem_iff.2 (by simp)
      rcases List.mem_cons.1 ha with h | ha
      · exact h
      · rcases List.mem_cons.1 hb with h | hb
        · exact h.symm
        · exact tot _ _ ((List.pairwise_cons.1 h2).1 a ha) ((List.pairwise_cons.1 h1).1 b hb)
    subst hab
    rw [sorted_one l m (List.perm_cons a |>.1 hp) (List.pairwise_cons.1 h1).2 (List.pairwise_cons.1 h2).2]
/-- The indices but one, from the end on. -/
def restI (n k : Nat) : Nat → List Nat
  | 0 => []
  | j + 1 => restI n k j ++ (if n - 1 - j = k then [] else [n - 1 - j])
theorem restI_mem {n k : Nat} : ∀ {j : Nat}, j ≤ n → ∀ i, i ∈ restI n k j ↔ (n - j ≤ i ∧ i < n ∧ i ≠ k)
  | 0, _, i => by simp [restI]; omega
  | j + 1, hj, i => by
    rw [restI, List.mem_append, restI_mem (by omega) i]
    split
    · rename_i h
      simp only [List.not_mem_nil, or_false]
      omega
    · rename_i h
      simp only [List.mem_singleton]
      omega
theorem restI_nd {n k : Nat} : ∀ {j : Nat}, j ≤ n → (restI n k j).Nodup
  | 0, _ => by simp [restI]
  | j + 1, hj => by
    rw [restI, List.nodup_append]
    refine ⟨restI_nd (by omega), by split <;> simp, fun a ha b hb hab => ?_⟩
    rw [restI_mem (by omega)] at ha
    split at hb
    · cases hb
    · have := List.mem_singleton.1 hb
      omega
def pD : Pod := ⟨⟨#[]⟩, 0, []⟩
def restP (l : List Pod) (k j : Nat) : List Pod := (restI l.length k j).map fun i => l.getD i pD
theorem restP_no {l : List Pod} {k j : Nat} (h : l.length - 1 - j = k) : restP l k (j + 1) = restP l k j := by simp [restP, restI, h]
theorem restP_yes {l : List Pod} {k j : Nat} (h : l.length - 1 - j ≠ k) (hj : l.length - 1 - j < l.length) : restP l k (j + 1) = restP l k j ++ [l[l.length - 1 - j]] := by
  simp [restP, restI, h, List.getD, hj]
theorem restP_fit {us : List Use} {l : List Pod} (h : Apart us l) (k : Nat) : ∀ p ∈ restP l k l.length, Fit us p := by
  intro p hp
  obtain ⟨i, hi, rfl⟩ := List.mem_map.1 hp
  have := (restI_mem (Nat.le_refl _) i).1 hi
  rw [List.getD, List.getElem?_eq_getElem this.2.1]
  exact h.fit _ (List.getElem_mem _)
theorem restP_len (l : List Pod) (k : Nat) : (restP l k l.length).length ≤ l.length := by
  have key : ∀ j, (restI l.length k j).length ≤ j := by
    intro j
    induction j with
    | zero => simp [restI]
    | succ j ih =>
      rw [restI, List.length_append]
      split <;> simp <;> omega
  simpa [restP] using key l.length
def others (n : ByteArray) (S : List Row) : List Row := S.filter fun r => !sameS r.name n
theorem others_snoc_no {n : ByteArray} {S : List Row} {r : Row} (h : sameS r.name n = true) : others n (S ++ [r]) = others n S := by simp [others, h]
theorem others_snoc_yes {n : ByteArray} {S : List Row} {r : Row} (h : sameS r.name n = false) : others n (S ++ [r]) = others n S ++ [r] := by simp [others, h]
theorem rest_rank {us : List Use} {l : List Pod} (h : Apart us l) {k : Nat} (hk : k < l.length) : rankL us (restP l k l.length) = others l[k].name (rankL us l) := by
  refine sorted_one _ _ ?_ (sortR_sorted _) ((sortR_sorted _).sublist List.filter_sublist)
  refine (sortR_perm _).trans ?_
  refine List.Perm.trans ?_ ((sortR_perm (l.map (rowOf us))).filter _).symm
  obtain ⟨kn, hkn⟩ : ∃ kn : ByteArray, kn = l[k].name := ⟨_, rfl⟩
  rw [← hkn]
  have e2 : l = (List.range l.length).map fun i => l.getD i pD := by
    apply List.ext_getElem
    · simp
    · intro i h1 h2
      simp [List.getD, h1]
  have e4 : (l.filter fun p => !sameS (rowOf us p).name kn) = ((List.range l.length).filter fun i => decide (i ≠ k)).map fun i => l.getD i pD := by
    conv => lhs; rw [e2]
    rw [List.filter_map]
    congr 1
    apply List.filter_congr
    intro i hi
    have hi' : i < l.length := List.mem_range.1 hi
    simp only [Function.comp, List.getD, List.getElem?_eq_getElem hi', Option.getD_some]
    rw [(h.fit _ (List.getElem_mem hi')).name, Bool.eq_iff_iff, Bool.not_eq_true', decide_eq_true_eq]
    constructor
    · intro hs hik
      subst hik
      rw [hkn, sameS_self] at hs
      cases hs
    · intro hik
      exact sameS_ne fun he => hik (ndp_at h hi' hk (by rw [he, hkn]))
  have e1 : (l.map (rowOf us)).filter (fun r => !sameS r.name kn) = (((List.range l.length).filter fun i => decide (i ≠ k)).map fun i => l.getD i pD).map (rowOf us) := by
    rw [List.filter_map, ← e4]
    rfl
  rw [e1]
  unfold restP
  refine List.Perm.map _ (List.Perm.map _ ?_)
  refine (List.perm_ext_iff_of_nodup (restI_nd (Nat.le_refl _)) (List.nodup_range.filter _)).2 fun i => ?_
  rw [restI_mem (Nat.le_refl _), List.mem_filter, List.mem_range, decide_eq_true_eq]
  omega
end Ev
end Go.Proofs.Yticmfflnenoplac
