/- Devices: which devices are taken: the plain law: who marks in two rounds marks the same. No statement is proved here. -/
import Derived.Test.YticmfflnenoplaaDvH
namespace Go.Proofs.Yticmfflnenoplaa
open Dv Mk
namespace Dv
def sum4 (a : A4) : Int := a.a0 + a.a1 + a.a2 + a.a3
theorem sum_bump (a : A4) (n : Nat) : sum4 (bump a n) = sum4 a + 1 := by
  unfold bump sum4
  split <;> dsimp only <;> omega
theorem sum_free (k : ByteArray) (on : Nat) (l : List Dev) (u : List Bool) (hu : u.length = l.length) (i : Nat) (hi : i ≤ l.length) : sum4 (free_ k l u i) = ((nears k on l u i).length : Int) + (fars k on l u i).length := by
  induction i with
  | zero => rfl
  | succ i ih =>
    have hlt : i < l.length := by omega
    have hw := want_at (k := k) hlt hu
    have ih := ih (by omega)
    cases hh : hit k l[i]
    · rw [free_miss k l u hu i hlt (.inl hh)]
      have := step_none (on := on) (hw.trans (by rw [hh]; rfl))
      rw [this.1, this.2]
      exact ih
    · cases hb : u[i]'(by omega)
      · rw [free_hit k l u hu i hlt hh hb, sum_bump]
        have hwt : want k l u i = true := hw.trans (by rw [hh, hb]; rfl)
        cases hn : nearB on l i
        · have := step_far hwt hn
          rw [this.1, this.2, List.length_append]
          simp
          omega
        · have := step_near hwt hn
          rw [this.1, this.2, List.length_append]
          simp
          omega
      · rw [free_miss k l u hu i hlt (.inr hb)]
        have := step_none (on := on) (hw.trans (by rw [hh, hb]; rfl))
        rw [this.1, this.2]
        exact ih
theorem sum_both (k : ByteArray) (on : Nat) (l : List Dev) (u : List Bool) (hu : u.length = l.length) : sum4 (cFree k l u) = (both k on l u).length := by
  rw [← free_full k l u hu, sum_free k on l u hu l.length (Nat.le_refl _)]
  simp [both]
theorem markU_at (b : Bool) : ∀ (xs : List Nat) (u : List Bool) (j : Nat) (hj : j < u.length), (markU u b (xs.map Int.ofNat))[j]'(by rw [markU_len]; exact hj) = if j ∈ xs then b else u[j]
  | [], u, j, hj => by simp [markU]
  | x :: xs, u, j, hj => by
    have ih := markU_at b xs (u.set x b) j (by simpa using hj)
    have e : markU u b ((x :: xs).map Int.ofNat) = markU (u.set x b) b (xs.map Int.ofNat) := rfl
    simp only [e]
    rw [ih, List.getElem_set]
    by_cases h1 : j ∈ xs
    · simp [h1]
    · by_cases h2 : x = j
      · subst h2; simp [h1]
      · have : ¬ j = x := fun h => h2 h.symm
        simp [h1, h2, this]
theorem nears_mem {k : ByteArray} {on : Nat} {l : List Dev} {u : List Bool} {i x : Nat} : x ∈ nears k on l u i ↔ x < i ∧ want k l u x = true ∧ nearB on l x = true := by
  unfold nears
  rw [List.mem_filter, List.mem_range, Bool.and_eq_true]
theorem fars_mem {k : ByteArray} {on : Nat} {l : List Dev} {u : List Bool} {i x : Nat} : x ∈ fars k on l u i ↔ x < i ∧ want k l u x = true ∧ nearB on l x = false := by
  unfold fars
  rw [List.mem_filter, List.mem_range, Bool.and_eq_true, Bool.not_eq_true']
theorem nears_pre {k : ByteArray} {on : Nat} {l : List Dev} {u : List Bool} {i n : Nat} (h : i ≤ n) : nears k on l u i <+: nears k on l u n := by
  obtain ⟨m, rfl⟩ : ∃ m, n = i + m := ⟨n - i, by omega⟩
  unfold nears
  rw [List.range_add, List.filter_append]
  exact List.prefix_append _ _
theorem fars_pre {k : ByteArray} {on : Nat} {l : List Dev} {u : List Bool} {i n : Nat} (h : i ≤ n) : fars k on l u i <+: fars k on l u n := by
  obtain ⟨m, rfl⟩ : ∃ m, n = i + m := ⟨n - i, by omega⟩
  unfold fars
  rw [List.range_add, List.filter_append]
  exact List.prefix_append _ _
theorem take_pre {α : Type} {a b : List α} {q : Nat} (h : a <+: b) (hq : q ≤ a.length) : b.take q = a.take q := by
  obtain ⟨r, rfl⟩ := h
  rw [List.take_append_of_le_length hq]
/-- What is marked in round r ahead of i. -/
def marks (k : ByteArray) (on : Nat) (l : List Dev) (u : List Bool) (q : Nat) : Nat → Nat → List Nat
  | 0, i => (nears k on l u i).take q
  | _ + 1, i => (nears k on l u l.length ++ fars k on l u i).take q
theorem marks_start (k : ByteArray) (on : Nat) (l : List Dev) (u : List Bool) (q : Nat) : marks k on l u q 0 0 = [] := by
  simp [marks, nears_zero]
theorem marks_next (k : ByteArray) (on : Nat) (l : List Dev) (u : List Bool) (q : Nat) : marks k on l u q 1 0 = marks k on l u q 0 l.length := by
  simp [marks, fars_zero]
theorem marks_end (k : ByteArray) (on : Nat) (l : List Dev) (u : List Bool) (q : Nat) : marks k on l u q 1 l.length = (both k on l u).take q := rfl
/-- If nothing is left, nothing more is marked. -/
theorem marks_stop (k : ByteArray) (on : Nat) (l : List Dev) (u : List Bool) (q r i : Nat) (hi : i ≤ l.length) (h : (marks k on l u q r i).length = q) : marks k on l u q r l.length = marks k on l u q r i := by
  cases r with
  | zero =>
    simp only [marks] at h ⊢
    exact take_pre (nears_pre hi) (by simp at h; omega)
  | succ r =>
    simp only [marks] at h ⊢
    exact take_pre (List.prefix_append_right_inj _ |>.2 (fars_pre hi)) (by simp at h; simp; omega)
theorem marks_le (k : ByteArray) (on : Nat) (l : List Dev) (u : List Bool) (q r i : Nat) : (marks k on l u q r i).length ≤ q := by
  cases r <;> simp [marks] <;> omega
theorem marks_lt {k : ByteArray} {on : Nat} {l : List Dev} {u : List Bool} {q r i x : Nat} (hi : i ≤ l.length) (h : x ∈ marks k on l u q r i) : x < l.length := by
  cases r with
  | zero => have := nears_lt (List.mem_of_mem_take h); omega
  | succ r =>
    rcases List.mem_append.1 (List.mem_of_mem_take h) with h | h
    · exact nears_lt h
    · have := fars_lt h; omega
/-- Is the device to be marked in this round, as the reference asks? -/
def askB (k : ByteArray) (on : Nat) (l : List Dev) (r i : Nat) (used : Bool) (hi : i < l.length) : Bool := hit k l[i] && !used && (nearB on l i || decide (r = 1))
theorem take_all {α : Type} {a : List α} {q : Nat} (h : (a.take q).length < q) : a.take q = a := by
  rw [List.length_take] at h
  exact List.take_of_length_le (by omega)
/-- A step of the reference's rounds. -/
theorem marks_step (k : ByteArray) (on : Nat) (l : List Dev) (u : List Bool) (hu : u.length = l.length) (q r i : Nat) (hr : r = 0 ∨ r = 1) (hi : i < l.length) (hq : (marks k on l u q r i).length < q) :
    marks k on l u q r (i + 1) = if askB k on l r i ((markU u true ((marks k on l u q r i).map Int.ofNat))[i]'(by rw [markU_len]; omega)) hi then marks k on l u q r i ++ [i] else marks k on l u q r i := by
  have hw := want_at (k := k) hi hu
  have hmark := markU_at true (marks k on l u q r i) u i (by omega)
  rcases hr with rfl | rfl
  · have hall := take_all (a := nears k on l u i) (q := q) hq
    have hM : marks k on l u q 0 i = nears k on l u i := hall
    rw [hM] at hmark hq ⊢
    have hni : i ∉ nears k on l u i := fun h => absurd (nears_lt h) (by omega)
    rw [if_neg hni] at hmark
    simp only [askB, hmark]
    show (nears k on l u (i + 1)).take q = _
    cases hwt : want k l u i
    · rw [(step_none (on := on) hwt).1]
      rw [hwt] at hw
      rw [← hw]
      simpa [hM] using hall
    · rw [hwt] at hw
      cases hn : nearB on l i
      · rw [(step_far hwt hn).1, ← hw]
        simpa using hall
      · rw [(step_near hwt hn).1, ← hw]
        simp only [Bool.true_or, Bool.and_self, if_true]
        exact List.take_of_length_le (by simp; omega)
  · have hall := take_all (a := nears k on l u l.length ++ fars k on l u i) (q := q) hq
    have hM : marks k on l u q 1 i = nears k on l u l.length ++ fars k on l u i := hall
    rw [hM] at hmark hq ⊢
    simp only [askB]
    show (nears k on l u l.length ++ fars k on l u (i + 1)).take q = _
    cases hwt : want k l u i
    · rw [(step_none (on := on) hwt).2]
      have hni : i ∉ nears k on l u l.length ++ fars k on l u i := fun h => by
        rcases List.mem_append.1 h with h | h
        · rw [(nears_mem.1 h).2.1] at hwt; cases hwt
        · rw [(fars_mem.1 h).2.1] at hwt; cases hwt
      rw [if_neg hni] at hmark
      rw [hmark, ← hw.symm.trans hwt |>.symm] at *
      simp only at *
      simpa using hall
    · rw [hwt] at hw
      cases hn : nearB on l i
      · rw [(step_far hwt hn).2]
        have hni : i ∉ nears k on l u l.length ++ fars k on l u i := fun h => by
          rcases List.mem_append.1 h with h | h
          · rw [(nears_mem.1 h).2.2] at hn; cases hn
          · exact absurd (fars_lt h) (by omega)
        rw [if_neg hni] at hmark
        rw [hmark, ← hw]
        simp only [Bool.or_true, decide_true, Bool.and_self, if_true]
        rw [← List.append_assoc]
        exact List.take_of_length_le (by simp at hq ⊢; omega)
      · rw [(step_near hwt hn).2]
        have hni : i ∈ nears k on l u l.length ++ fars k on l u i := List.mem_append.2 (.inl (nears_mem.2 ⟨hi, hwt, hn⟩))
        rw [if_pos hni] at hmark
        rw [hmark]
        simpa using hall
theorem both_nodup (k : ByteArray) (on : Nat) (l : List Dev) (u : List Bool) : (both k on l u).Nodup := by
  unfold both
  rw [List.nodup_append]
  refine ⟨List.nodup_range.filter _, List.nodup_range.filter _, fun a ha b hb hab => ?_⟩
  subst hab
  have h1 := (nears_mem.1 ha).2.2
  have h2 := (fars_mem.1 hb).2.2
  rw [h1] at h2
  cases h2
/-- The rows of those that are marked, rising. -/
def rising (M : List Nat) (i : Nat) : List Int := ((List.range i).filter fun j => decide (j ∈ M)).map Int.ofNat
theorem rising_zero (M : List Nat) : rising M 0 = [] := rfl
theorem rising_in {M : List Nat} {i : Nat} (h : i ∈ M) : rising M (i + 1) = rising M i ++ [(i : Int)] := by
  unfold rising
  rw [List.range_succ, List.filter_append]
  simp [h]
theorem rising_out {M : List Nat} {i : Nat} (h : i ∉ M) : rising M (i + 1) = rising M i := by
  unfold rising
  rw [List.range_succ, List.filter_append]
  simp [h]
theorem rising_len (M : List Nat) (i : Nat) : (rising M i).length ≤ i := by
  unfold rising
  rw [List.length_map]
  exact Nat.le_trans (List.length_filter_le _ _) (by simp)
theorem rising_srt (k : ByteArray) (on : Nat) (l : List Dev) (u : List Bool) (q : Nat) (hl : l.length ≤ 16) : takeL k q on l u = rising ((both k on l u).take q) 16 := by
  unfold takeL chosen
  rw [Int.toNat_natCast]
  have hnd : ((both k on l u).take q).Nodup := (both_nodup k on l u).sublist (List.take_sublist _ _)
  have hlt : ∀ x ∈ (both k on l u).take q, x < 16 := fun x hx => by
    have := both_lt (List.mem_of_mem_take hx)
    omega
  generalize (both k on l u).take q = M at *
  refine srt_eq ?_ ?_
  · unfold rising
    refine List.Perm.map _ ((List.perm_ext_iff_of_nodup hnd (List.nodup_range.filter _)).2 fun a => ?_)
    rw [List.mem_filter, List.mem_range, decide_eq_true_eq]
    exact ⟨fun h => ⟨hlt a h, h⟩, fun h => h.2⟩
  · unfold rising
    rw [List.pairwise_map]
    refine List.Pairwise.sublist (List.filter_sublist) ?_
    exact (List.pairwise_lt_range (n := 16)).imp fun h => by simp; omega
end Dv
end Go.Proofs.Yticmfflnenoplaa
