/- Merge of wishes, as plain data: the document's way (all places of one mask at once, then the best) tells what the program's walk tells. -/
import Derived.Test.YticmfflnenoplabMergeA
namespace Go.Proofs.Yticmfflnenoplab
open Go.RowKit Mk

namespace Mk
def key (h : Hint) : Nat := (if h.good then 0 else 100000) + nodes h.mask * 1000 + h.mask
theorem better_key (a b : Hint) (ha : a.mask < 256) (hb : b.mask < 256) : better a b = decide (key a < key b) := by
  have h1 := nodes_le a.mask
  have h2 := nodes_le b.mask
  obtain ⟨am, ag⟩ := a
  obtain ⟨bm, bg⟩ := b
  unfold better key
  dsimp only at *
  rw [Bool.eq_iff_iff]
  cases ag <;> cases bg <;> simp <;> (try omega)
  all_goals
    by_cases h : nodes am = nodes bm
    · simp [h]
    · simp [h]; omega
theorem key_inj (a b : Hint) (ha : a.mask < 256) (hb : b.mask < 256) (h : key a = key b) : a = b := by
  have h1 := nodes_le a.mask
  have h2 := nodes_le b.mask
  obtain ⟨am, ag⟩ := a
  obtain ⟨bm, bg⟩ := b
  unfold key at h
  dsimp only at *
  by_cases hn : nodes am = nodes bm
  · rw [hn] at h
    cases ag <;> cases bg <;> simp at h ⊢ <;> omega
  · cases ag <;> cases bg <;> simp at h ⊢ <;> omega
/-- r is the best of those that are P. -/
structure Best (P : Hint → Prop) (r : Hint) : Prop where
  mem : P r
  le : ∀ h, P h → key r ≤ key h
theorem Best.eq {P : Hint → Prop} {r s : Hint} (hP : ∀ h, P h → h.mask < 256) (h1 : Best P r) (h2 : Best P s) : r = s :=
  key_inj r s (hP _ h1.mem) (hP _ h2.mem) (Nat.le_antisymm (h1.le _ h2.mem) (h2.le _ h1.mem))
def comb (a b : Hint) : Hint := ⟨a.mask &&& b.mask, a.good && b.good⟩
def Comb : List (List Hint) → Hint → Hint → Prop
  | [], so, h => h = so
  | x :: xs, so, h => ∃ b, b ∈ x ∧ Comb xs (comb so b) h
theorem comb_zero (a b : Hint) (h : a.mask = 0) : (comb a b).mask = 0 := by simp [comb, h]
theorem Comb.zero : ∀ (l : List (List Hint)) (so h : Hint), Comb l so h → so.mask = 0 → h.mask = 0
  | [], so, h, hc, hz => by rw [hc]; exact hz
  | _ :: xs, so, h, ⟨b, _, hc⟩, hz => Comb.zero xs _ h hc (comb_zero _ _ hz)
theorem Comb.lt : ∀ (l : List (List Hint)) (so h : Hint), Comb l so h → so.mask < 256 → h.mask < 256
  | [], so, h, hc, hz => by rw [hc]; exact hz
  | _ :: xs, so, h, ⟨b, _, hc⟩, hz => Comb.lt xs _ h hc (and_lt _ _ hz)
theorem mergeP_best : ∀ (l : List (List Hint)) (so best : Hint), so.mask < 256 → best.mask < 256 → Best (fun h => h = best ∨ (Comb l so h ∧ h.mask ≠ 0)) (mergeP l so best)
  | l, so, best, h1, h2 => by
    by_cases hz : so.mask = 0
    · rw [mergeP_zero _ _ _ hz]
      refine ⟨.inl rfl, fun h hh => ?_⟩
      rcases hh with rfl | ⟨hc, hn⟩
      · exact Nat.le_refl _
      · exact absurd (Comb.zero _ _ _ hc hz) hn
    · match l with
      | [] =>
        rw [mergeP_nil _ _ hz, better_key so best h1 h2]
        by_cases hk : key so < key best
        · rw [if_pos (by simpa using hk)]
          refine ⟨.inr ⟨rfl, hz⟩, fun h hh => ?_⟩
          rcases hh with rfl | ⟨hc, _⟩
          · omega
          · rw [show h = so from hc]
            exact Nat.le_refl _
        · rw [if_neg (by simpa using hk)]
          refine ⟨.inl rfl, fun h hh => ?_⟩
          rcases hh with rfl | ⟨hc, _⟩
          · exact Nat.le_refl _
          · rw [show h = so from hc]
            omega
      | x :: xs =>
        rw [mergeP_cons _ _ _ _ hz]
        have : ∀ (y : List Hint) (b : Hint), b.mask < 256 → Best (fun h => h = b ∨ ((∃ c, c ∈ y ∧ Comb xs (comb so c) h) ∧ h.mask ≠ 0)) (y.foldl (fun b h => mergeP xs ⟨so.mask &&& h.mask, so.good && h.good⟩ b) b) := by
          intro y
          induction y with
          | nil =>
            intro b hb
            refine ⟨.inl rfl, fun h hh => ?_⟩
            rcases hh with rfl | ⟨⟨c, hc, _⟩, _⟩
            · exact Nat.le_refl _
            · simp at hc
          | cons c y ih =>
            intro b hb
            have hlt : (comb so c).mask < 256 := and_lt _ _ h1
            have hm := mergeP_best xs (comb so c) b hlt hb
            have hr := ih (mergeP xs (comb so c) b) (mergeP_lt xs _ _ hlt hb)
            simp only [List.foldl_cons]
            refine ⟨?_, fun h hh => ?_⟩
            · rcases hr.mem with hq | ⟨⟨d, hd, hq⟩, hn⟩
              · have : y.foldl (fun b h => mergeP xs ⟨so.mask &&& h.mask, so.good && h.good⟩ b) (mergeP xs ⟨so.mask &&& c.mask, so.good && c.good⟩ b) = mergeP xs (comb so c) b := hq
                rw [this]
                rcases hm.mem with hq2 | ⟨hq2, hn⟩
                · exact .inl hq2
                · exact .inr ⟨⟨c, by simp, hq2⟩, hn⟩
              · exact .inr ⟨⟨d, by simp [hd], hq⟩, hn⟩
            · have hle := hr.le _ (.inl rfl)
              rcases hh with rfl | ⟨⟨d, hd, hq⟩, hn⟩
              · exact Nat.le_trans hle (hm.le _ (.inl rfl))
              · rcases List.mem_cons.1 hd with rfl | hd
                · exact Nat.le_trans hle (hm.le _ (.inr ⟨hq, hn⟩))
                · exact hr.le _ (.inr ⟨⟨d, hd, hq⟩, hn⟩)
        exact this x best h2
/-! ### The document's way -/
def has (P : List Hint) (g : Bool) (m : Nat) : Bool := P.any fun h => h.mask == m && h.good == g
def outR (P : List Hint) : Nat → List Hint
  | 0 => []
  | k + 1 => if k = 0 then [] else (outR P k ++ (if has P true k then [⟨k, true⟩] else [])) ++ (if has P false k then [⟨k, false⟩] else [])
/-- The pairs of the first i of one list, and of the next one with the first j of the other. -/
def prs (so l : List Hint) (i j : Nat) : List Hint := ((so.take i).flatMap fun a => l.map (comb a)) ++ ((so[i]?).toList.flatMap fun a => (l.take j).map (comb a))
def stepR (so l : List Hint) : List Hint := outR (prs so l so.length 0) 256
def bestR (so : List Hint) (b : Hint) : Hint := so.foldl (fun b h => if better h b then h else b) b
theorem has_nil (g : Bool) (m : Nat) : has [] g m = false := rfl
theorem has_snoc (P : List Hint) (h : Hint) (g : Bool) (m : Nat) : has (P ++ [h]) g m = (has P g m || (h.mask == m && h.good == g)) := by simp [has]
theorem prs_zero (so l : List Hint) : prs so l 0 0 = [] := by cases so <;> simp [prs]
theorem prs_next (so l : List Hint) (i j : Nat) (hi : i < so.length) (hj : j < l.length) : prs so l i (j + 1) = prs so l i j ++ [comb so[i] l[j]] := by
  simp [prs, List.getElem?_eq_getElem hi, List.take_succ_eq_append_getElem hj, -List.take_append_getElem]
theorem prs_full (so l : List Hint) (i : Nat) (hi : i < so.length) : prs so l i l.length = prs so l (i + 1) 0 := by
  simp [prs, List.getElem?_eq_getElem hi, List.take_succ_eq_append_getElem hi, -List.take_append_getElem]
theorem outR_one (P : List Hint) : outR P 1 = [] := rfl
theorem outR_next (P : List Hint) (k : Nat) (h : 1 ≤ k) : outR P (k + 1) = (outR P k ++ (if has P true k then [⟨k, true⟩] else [])) ++ (if has P false k then [⟨k, false⟩] else []) := by
  simp only [outR]
  rw [if_neg (by omega)]
theorem outR_len (P : List Hint) (k : Nat) : (outR P k).length ≤ 2 * k := by
  induction k with
  | zero => simp [outR]
  | succ k ih =>
    simp only [outR]
    split
    · simp
    · simp only [List.length_append]
      split <;> split <;> simp <;> omega
theorem outR_mem (P : List Hint) (k : Nat) (h : Hint) : h ∈ outR P k ↔ 1 ≤ h.mask ∧ h.mask < k ∧ h ∈ P := by
  have hh : ∀ g m, has P g m = true ↔ (⟨m, g⟩ : Hint) ∈ P := by
    intro g m
    unfold has
    rw [List.any_eq_true]
    constructor
    · rintro ⟨x, hx, he⟩
      simp only [Bool.and_eq_true, beq_iff_eq] at he
      obtain ⟨xm, xg⟩ := x
      simp only at he
      rw [← he.1, ← he.2]
      exact hx
    · intro hx
      exact ⟨_, hx, by simp⟩
  induction k with
  | zero => simp [outR]
  | succ k ih =>
    simp only [outR]
    split
    · simp; omega
    · simp only [List.mem_append, ih]
      obtain ⟨hm, hg⟩ := h
      dsimp only
      constructor
      · rintro ((⟨h1, h2, h3⟩ | h1) | h1)
        · exact ⟨h1, by omega, h3⟩
        · split at h1
          · rename_i hq
            simp only [List.mem_singleton, Hint.mk.injEq] at h1
            rw [h1.1, h1.2]
            exact ⟨by omega, by omega, (hh _ _).1 hq⟩
          · simp at h1
        · split at h1
          · rename_i hq
            simp only [List.mem_singleton, Hint.mk.injEq] at h1
            rw [h1.1, h1.2]
            exact ⟨by omega, by omega, (hh _ _).1 hq⟩
          · simp at h1
      · rintro ⟨h1, h2, h3⟩
        by_cases he : hm = k
        · subst he
          cases hg
          · right
            rw [if_pos ((hh _ _).2 h3)]
            simp
          · left; right
            rw [if_pos ((hh _ _).2 h3)]
            simp
        · exact .inl (.inl ⟨h1, by omega, h3⟩)
theorem stepR_mem (so l : List Hint) (h : Hint) : h ∈ stepR so l ↔ h.mask ≠ 0 ∧ h.mask < 256 ∧ ∃ a, a ∈ so ∧ ∃ b, b ∈ l ∧ h = comb a b := by
  unfold stepR
  rw [outR_mem]
  have : h ∈ prs so l so.length 0 ↔ ∃ a, a ∈ so ∧ ∃ b, b ∈ l ∧ h = comb a b := by
    simp [prs, eq_comm]
  rw [this]
  constructor
  · rintro ⟨h1, h2, h3⟩; exact ⟨by omega, h2, h3⟩
  · rintro ⟨h1, h2, h3⟩; exact ⟨by omega, h2, h3⟩
theorem stepR_lt (so l : List Hint) : ∀ h, h ∈ stepR so l → h.mask < 256 := fun h hh => ((stepR_mem so l h).1 hh).2.1
theorem stepR_len (so l : List Hint) : (stepR so l).length ≤ 512 := outR_len _ 256
/-- What has come of the first k wishes. -/
def soAt (ls : List (List Hint)) (n : Nat) (k : Nat) : List Hint := (ls.take k).foldl stepR [⟨n, true⟩]
theorem soAt_zero (ls : List (List Hint)) (n : Nat) : soAt ls n 0 = [⟨n, true⟩] := rfl
theorem soAt_next (ls : List (List Hint)) (n k : Nat) (h : k < ls.length) : soAt ls n (k + 1) = stepR (soAt ls n k) ls[k] := by
  unfold soAt
  rw [List.take_succ_eq_append_getElem h, List.foldl_append]
  rfl
theorem soAt_lt (ls : List (List Hint)) (n : Nat) (hn : n < 256) (k : Nat) (hk : k ≤ ls.length) : ∀ h, h ∈ soAt ls n k → h.mask < 256 := by
  cases k with
  | zero => intro h hh; rw [soAt_zero] at hh; simp at hh; subst hh; exact hn
  | succ k => rw [soAt_next _ _ _ (by omega)]; exact stepR_lt _ _
theorem soAt_len (ls : List (List Hint)) (n : Nat) (k : Nat) (hk : k ≤ ls.length) : (soAt ls n k).length ≤ 512 := by
  cases k with
  | zero => simp [soAt_zero]
  | succ k => rw [soAt_next _ _ _ (by omega)]; exact stepR_len _ _
theorem fold_mem : ∀ (ls : List (List Hint)) (S : List Hint), (∀ s, s ∈ S → s.mask ≠ 0 ∧ s.mask < 256) → ∀ h, h ∈ ls.foldl stepR S ↔ ∃ s, s ∈ S ∧ Comb ls s h ∧ h.mask ≠ 0
  | [], S, hS, h => by
    simp only [List.foldl_nil, Comb]
    constructor
    · intro hh; exact ⟨h, hh, rfl, (hS h hh).1⟩
    · rintro ⟨s, hs, rfl, _⟩; exact hs
  | x :: xs, S, hS, h => by
    simp only [List.foldl_cons]
    rw [fold_mem xs (stepR S x) (fun s hs => by have := (stepR_mem S x s).1 hs; exact ⟨this.1, this.2.1⟩) h]
    constructor
    · rintro ⟨s, hs, hc, hn⟩
      obtain ⟨_, _, a, ha, b, hb, rfl⟩ := (stepR_mem S x s).1 hs
      exact ⟨a, ha, ⟨b, hb, hc⟩, hn⟩
    · rintro ⟨a, ha, ⟨b, hb, hc⟩, hn⟩
      have hz : (comb a b).mask ≠ 0 := fun hz => hn (Comb.zero _ _ _ hc hz)
      exact ⟨comb a b, (stepR_mem S x _).2 ⟨hz, and_lt _ _ (hS a ha).2, a, ha, b, hb, rfl⟩, hc, hn⟩
theorem bestR_best : ∀ (so : List Hint) (b : Hint), (∀ s, s ∈ so → s.mask < 256) → b.mask < 256 → Best (fun h => h = b ∨ h ∈ so) (bestR so b)
  | [], b, _, hb => ⟨.inl rfl, fun h hh => by rcases hh with rfl | hh; exact Nat.le_refl _; simp at hh⟩
  | s :: so, b, hs, hb => by
    have h1 := hs s (by simp)
    show Best _ (bestR so (if better s b then s else b))
    rw [better_key s b h1 hb]
    have hr := bestR_best so (if decide (key s < key b) then s else b) (fun x hx => hs x (by simp [hx])) (by split <;> assumption)
    refine ⟨?_, fun h hh => ?_⟩
    · rcases hr.mem with hq | hq
      · by_cases hk : key s < key b
        · right
          rw [hq, if_pos (by simpa using hk)]
          simp
        · left
          rw [hq, if_neg (by simpa using hk)]
      · exact .inr (List.mem_cons_of_mem _ hq)
    · have hle := hr.le _ (.inl rfl)
      by_cases hk : key s < key b
      · have hd : decide (key s < key b) = true := by simpa using hk
        rw [hd] at hle ⊢
        rw [if_pos rfl] at hle ⊢
        rcases hh with rfl | hh
        · exact Nat.le_trans hle (Nat.le_of_lt hk)
        · rcases List.mem_cons.1 hh with rfl | hh
          · exact hle
          · have := hr.le _ (.inr hh)
            rw [hd, if_pos rfl] at this
            exact this
      · have hd : decide (key s < key b) = false := by simpa using hk
        rw [hd] at hle ⊢
        rw [if_neg (by simp)] at hle ⊢
        rcases hh with rfl | hh
        · exact hle
        · rcases List.mem_cons.1 hh with rfl | hh
          · exact Nat.le_trans hle (by omega)
          · have := hr.le _ (.inr hh)
            rw [hd, if_neg (by simp)] at this
            exact this
/-- Both ways tell the same. -/
theorem both_ways (ls : List (List Hint)) (n : Nat) (hn : n < 256) (hz : n ≠ 0) : bestR (soAt ls n ls.length) ⟨n, false⟩ = mergeP ls ⟨n, true⟩ ⟨n, false⟩ := by
  have h1 := mergeP_best ls ⟨n, true⟩ ⟨n, false⟩ hn hn
  have h2 := bestR_best (soAt ls n ls.length) ⟨n, false⟩ (soAt_lt ls n hn _ (Nat.le_refl _)) hn
  have he : ∀ h, h ∈ soAt ls n ls.length ↔ Comb ls ⟨n, true⟩ h ∧ h.mask ≠ 0 := by
    intro h
    unfold soAt
    rw [List.take_length, fold_mem ls [⟨n, true⟩] (fun s hs => by simp at hs; subst hs; exact ⟨hz, hn⟩) h]
    simp
  have h3 : Best (fun h => h = ⟨n, false⟩ ∨ (Comb ls ⟨n, true⟩ h ∧ h.mask ≠ 0)) (bestR (soAt ls n ls.length) ⟨n, false⟩) := by
    refine ⟨?_, fun h hh => h2.le h ?_⟩
    · rcases h2.mem with hq | hq
      · exact .inl hq
      · exact .inr ((he _).1 hq)
    · rcases hh with hh | hh
      · exact .inl hh
      · exact .inr ((he _).2 hh)
  refine Best.eq (fun h hh => ?_) h3 h1
  rcases hh with rfl | ⟨hc, _⟩
  · exact hn
  · exact Comb.lt _ _ _ hc hn
/-- What has been found in the first k. -/
def bestAt (so : List Hint) (b : Hint) (k : Nat) : Hint := bestR (so.take k) b
theorem bestAt_zero (so : List Hint) (b : Hint) : bestAt so b 0 = b := rfl
theorem bestAt_next (so : List Hint) (b : Hint) (k : Nat) (h : k < so.length) : bestAt so b (k + 1) = if better so[k] (bestAt so b k) then so[k] else bestAt so b k := by
  unfold bestAt bestR
  rw [List.take_succ_eq_append_getElem h, List.foldl_append]
  rfl
theorem bestAt_full (so : List Hint) (b : Hint) : bestAt so b so.length = bestR so b := by simp [bestAt]
theorem bestAt_lt (so : List Hint) (b : Hint) (k : Nat) (hs : ∀ s, s ∈ so → s.mask < 256) (hb : b.mask < 256) : (bestAt so b k).mask < 256 := by
  rcases (bestR_best (so.take k) b (fun s h => hs s (List.mem_of_mem_take h)) hb).mem with h | h
  · unfold bestAt; rw [h]; exact hb
  · exact hs _ (List.mem_of_mem_take h)
/-! ### Arrays of what is there -/
def bArr (f : Nat → Bool) : Array Value := ((List.range 256).map fun m => Value.bool (f m)).toArray
theorem bArr_at (f : Nat → Bool) (m : Nat) (h : m < 256) : (bArr f)[m]? = some (.bool (f m)) := by simp [bArr, h]
theorem bArr_set (f g : Nat → Bool) (k : Nat) (h : ∀ m, g m = (f m || k == m)) : (bArr f).setIfInBounds k (.bool true) = bArr g := by
  apply Array.ext (by simp [bArr])
  intro m h1 h2
  have hm : m < 256 := by simpa [bArr] using h2
  by_cases he : k = m
  · simp [bArr, he, h]
  · simp [bArr, he, h]
theorem bArr_next (P : List Hint) (h : Hint) : (bArr (has P h.good)).setIfInBounds h.mask (.bool true) = bArr (has (P ++ [h]) h.good) := bArr_set _ _ _ fun m => by rw [has_snoc]; simp
theorem bArr_other (P : List Hint) (h : Hint) (g : Bool) (hg : h.good ≠ g) : bArr (has (P ++ [h]) g) = bArr (has P g) := by
  congr 1
  funext m
  rw [has_snoc]
  simp [hg]
end Mk
end Go.Proofs.Yticmfflnenoplab
