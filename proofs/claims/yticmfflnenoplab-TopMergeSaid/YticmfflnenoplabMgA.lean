/- TopMerge: plain facts: no place is better; a stricter policy lets in no more. No statement is proved here. -/
import Derived.Test.YticmfflnenoplabMergeG
namespace Go.Proofs.Yticmfflnenoplab
open Go.RowKit Mk
namespace Mk
theorem list_good (x : Wi) (n : Nat) (b : Hint) (h : b ∈ listP x 3 n) (hg : b.good = true) : b ∈ listP x 2 n := by
  unfold listP at h ⊢
  cases hx : x.any
  · rw [hx] at h
    simp only [Bool.false_eq_true, if_false] at h ⊢
    have hf : x.hints.filter (lets 2) = x.hints := List.filter_eq_self.2 fun a _ => by simp [lets]
    rw [hf]
    split at h
    · simp at h
      rw [h] at hg
      simp at hg
    · have hm := (List.mem_filter.1 h).1
      split
      · rename_i he
        have : x.hints = [] := by simpa using he
        rw [this] at hm
        simp at hm
      · exact hm
  · rw [hx] at h
    exact h
theorem Comb.goods (n : Nat) : ∀ (l : List Wi) (so c : Hint), Comb (l.map fun x => listP x 3 n) so c → c.good = true → Comb (l.map fun x => listP x 2 n) so c ∧ so.good = true
  | [], so, c, h, hg => ⟨h, by rw [← (show c = so from h)]; exact hg⟩
  | x :: xs, so, c, ⟨b, hb, hc⟩, hg => by
    have ⟨h1, h2⟩ := Comb.goods n xs (comb so b) c hc hg
    have h3 : so.good = true ∧ b.good = true := by simpa [comb] using h2
    exact ⟨⟨b, list_good x n b hb h3.2, h1⟩, h3.1⟩
def bst (policy : Int) (n : Nat) (l : List Wi) : Hint := mergeP (l.map fun x => listP x policy n) ⟨n, true⟩ ⟨n, false⟩
theorem bst_best (policy : Int) (n : Nat) (hn : n < 256) (l : List Wi) : Best (fun h => h = ⟨n, false⟩ ∨ (Comb (l.map fun x => listP x policy n) ⟨n, true⟩ h ∧ h.mask ≠ 0)) (bst policy n l) := mergeP_best _ _ _ hn hn
theorem bst_lt (policy : Int) (n : Nat) (hn : n < 256) (l : List Wi) : (bst policy n l).mask < 256 := mergeP_lt _ _ _ hn hn
theorem key_good (h : Hint) (hm : h.mask < 256) : h.good = decide (key h < 100000) := by
  have := nodes_le h.mask
  unfold key
  cases h.good <;> simp <;> omega
theorem single_in (n : Nat) (hn : n < 256) (l : List Wi) (h : (bst 3 n l).good = true) : (bst 2 n l).good = true := by
  have h3 := bst_best 3 n hn l
  have h2 := bst_best 2 n hn l
  rcases h3.mem with he | ⟨hc, hz⟩
  · rw [he] at h
    simp at h
  · have hle := h2.le _ (.inr ⟨(Comb.goods n l _ _ hc h).1, hz⟩)
    rw [key_good _ (bst_lt 3 n hn l)] at h
    rw [key_good _ (bst_lt 2 n hn l)]
    simp at h ⊢
    omega
/-- None of what wishes have in common is better than a place. -/
def NoBetter (n : Nat) (l : List Wi) (so h : Hint) : Prop := ∀ c, Comb (l.map fun x => listP x 2 n) so c → c.mask ≠ 0 → key h ≤ key c
theorem none_better (n : Nat) (hn : n < 256) (l : List Wi) : NoBetter n l ⟨n, true⟩ (bst 2 n l) := fun c hc hz => (bst_best 2 n hn l).le c (.inr ⟨hc, hz⟩)
theorem NoBetter.any {n : Nat} {x : Wi} {l : List Wi} {so h : Hint} (hh : NoBetter n (x :: l) so h) (hs : so.mask &&& n = so.mask) (hx : x.any = true) : NoBetter n l so h := fun c hc hz => by
  refine hh c ⟨⟨n, true⟩, by simp [listP, hx], ?_⟩ hz
  have : comb so ⟨n, true⟩ = so := by simp [comb, hs]
  rw [this]
  exact hc
theorem NoBetter.none {n : Nat} {x : Wi} {l : List Wi} {so h : Hint} (hh : NoBetter n (x :: l) so h) (hs : so.mask &&& n = so.mask) (hx : x.any = false) (hl : x.hints.length = 0) : NoBetter n l ⟨so.mask, false⟩ h := fun c hc hz => by
  have h0 : x.hints = [] := List.length_eq_zero_iff.1 hl
  refine hh c ⟨⟨n, false⟩, by simp [listP, hx, h0], ?_⟩ hz
  have : comb so ⟨n, false⟩ = ⟨so.mask, false⟩ := by simp [comb, hs]
  rw [this]
  exact hc
theorem NoBetter.one {n : Nat} {x : Wi} {l : List Wi} {so h : Hint} (hh : NoBetter n (x :: l) so h) (hx : x.any = false) (i : Nat) (hi : i < x.hints.length) : NoBetter n l (comb so x.hints[i]) h := fun c hc hz => by
  refine hh c ⟨x.hints[i], ?_, hc⟩ hz
  have hf : x.hints.filter (lets 2) = x.hints := List.filter_eq_self.2 fun a _ => by simp [lets]
  have hne : x.hints ≠ [] := by intro h0; rw [h0] at hi; simp at hi
  simp [listP, hx, hf, hne]
theorem comb_in (a b : Hint) (n : Nat) (h : a.mask &&& n = a.mask) : (comb a b).mask &&& n = (comb a b).mask := by
  show a.mask &&& b.mask &&& n = a.mask &&& b.mask
  rw [Nat.and_assoc, Nat.and_comm b.mask, ← Nat.and_assoc, h]
theorem NoBetter.leaf {n : Nat} {so h : Hint} (hh : NoBetter n [] so h) (hz : so.mask ≠ 0) (hs : so.mask < 256) (hm : h.mask < 256) :
    (so.good = h.good ∧ (nodes h.mask < nodes so.mask ∨ nodes so.mask = nodes h.mask ∧ h.mask ≤ so.mask)) ∨ (h.good = true ∧ so.good = false) := by
  have hk := hh so rfl hz
  have n1 := nodes_le so.mask
  have n2 := nodes_le h.mask
  unfold key at hk
  obtain ⟨sm, sg⟩ := so
  obtain ⟨pm, pg⟩ := h
  dsimp only at *
  cases sg <;> cases pg <;> simp at hk ⊢ <;> omega
end Mk
end Go.Proofs.Yticmfflnenoplab
