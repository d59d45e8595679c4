/- TopTopo: plain facts: nodes, sockets and cores part processors. No statement is proved here. -/
import Derived.Test.YticmfflnenoplabTopoD
import Derived.Test.YticmfflnenoplabTopoC
namespace Go.Proofs.Yticmfflnenoplab
open Go.RowKit Tp Pop
namespace Tp
def W (f : Cpu → Bool) (l : List Cpu) : Nat := wh f l l.length
theorem W_bit (f : Cpu → Bool) (l : List Cpu) (i : Nat) : (W f l).testBit i = (l[i]?).any f := by
  unfold W
  rw [wh_bit]
  by_cases h : i < l.length
  · simp [h]
  · simp [h]
theorem W_lt (f : Cpu → Bool) (l : List Cpu) (hl : l.length ≤ 64) : W f l < 18446744073709551616 := wh_lt64 f l l.length hl
theorem W_and (f g : Cpu → Bool) (l : List Cpu) : W f l &&& W g l = W (fun c => f c && g c) l := by
  refine Nat.eq_of_testBit_eq fun i => ?_
  rw [Nat.testBit_and, W_bit, W_bit, W_bit]
  cases l[i]? <;> rfl
theorem W_or (f g : Cpu → Bool) (l : List Cpu) : W f l ||| W g l = W (fun c => f c || g c) l := by
  refine Nat.eq_of_testBit_eq fun i => ?_
  rw [Nat.testBit_or, W_bit, W_bit, W_bit]
  cases l[i]? <;> rfl
theorem W_congr (f g : Cpu → Bool) (l : List Cpu) (h : ∀ c, c ∈ l → f c = g c) : W f l = W g l := by
  refine Nat.eq_of_testBit_eq fun i => ?_
  rw [W_bit, W_bit]
  cases hi : l[i]? with
  | none => rfl
  | some c => exact h c (List.mem_of_getElem? hi)
theorem W_none (f : Cpu → Bool) (l : List Cpu) (h : ∀ c, c ∈ l → f c = false) : W f l = 0 := by
  refine Nat.eq_of_testBit_eq fun i => ?_
  rw [W_bit, Nat.zero_testBit]
  cases hi : l[i]? with
  | none => rfl
  | some c => exact h c (List.mem_of_getElem? hi)
theorem W_some (f : Cpu → Bool) (l : List Cpu) (c : Cpu) (hc : c ∈ l) (h : f c = true) : W f l ≠ 0 := by
  intro h0
  obtain ⟨i, hi, rfl⟩ := List.mem_iff_getElem.1 hc
  have := W_bit f l i
  rw [h0, Nat.zero_testBit, List.getElem?_eq_getElem hi] at this
  simp [h] at this
structure Fine (l : List Cpu) : Prop where
  len : 1 ≤ l.length ∧ l.length ≤ 64
  core : ∀ c, c ∈ l → 0 ≤ c.core ∧ c.core ≤ 63
  sock : ∀ c, c ∈ l → 0 ≤ c.socket ∧ c.socket ≤ 63
  node : ∀ c, c ∈ l → 0 ≤ c.node ∧ c.node ≤ 3
  one : ∀ c d, c ∈ l → d ∈ l → c.core = d.core → c = d
theorem fine_of (l : List Cpu) (h : Fault l = 0) : Fine l := by
  unfold Fault at h
  split at h
  · omega
  rename_i hl
  have key := fun i hi => fault_ok l l.length h i hi hi
  have hb : ∀ c, c ∈ l → badB c = false := by
    intro c hc
    obtain ⟨i, hi, rfl⟩ := List.mem_iff_getElem.1 hc
    exact (key i hi).1
  refine ⟨by omega, ?_, ?_, ?_, ?_⟩
  · intro c hc
    have := hb c hc
    simp only [badB, Bool.or_eq_false_iff, decide_eq_false_iff_not] at this
    omega
  · intro c hc
    have := hb c hc
    simp only [badB, Bool.or_eq_false_iff, decide_eq_false_iff_not] at this
    omega
  · intro c hc
    have := hb c hc
    simp only [badB, Bool.or_eq_false_iff, decide_eq_false_iff_not] at this
    omega
  · have lt : ∀ i j (hi : i < l.length) (hj : j < l.length), i < j → l[i].core = l[j].core → l[i] = l[j] := by
      intro i j hi hj hij he
      by_cases hne : l[i] = l[j]
      · exact hne
      · have h1 := (clash_iff l j l[j]).2 ⟨i, hi, hij, he, hne⟩
        rw [(key j hj).2] at h1
        cases h1
    intro c d hc hd he
    obtain ⟨i, hi, rfl⟩ := List.mem_iff_getElem.1 hc
    obtain ⟨j, hj, rfl⟩ := List.mem_iff_getElem.1 hd
    rcases Nat.lt_trichotomy i j with hij | hij | hij
    · exact lt i j hi hj hij he
    · subst hij; rfl
    · exact (lt j i hj hi hij he.symm).symm
/-- Those whose part's number is below n. -/
def low (g : Cpu → Int) (l : List Cpu) (n : Nat) : Nat := W (fun c => decide (g c < (n : Int))) l
theorem low_zero (g : Cpu → Int) (l : List Cpu) (h : ∀ c, c ∈ l → 0 ≤ g c) : low g l 0 = 0 :=
  W_none _ l fun c hc => by have := h c hc; simp; omega
theorem low_disj (g : Cpu → Int) (l : List Cpu) (n : Nat) : low g l n &&& W (fun c => g c == (n : Int)) l = 0 := by
  unfold low
  rw [W_and]
  refine W_none _ l fun c _ => ?_
  by_cases h : g c < (n : Int)
  · have : (g c == (n : Int)) = false := by rw [beq_eq_false_iff_ne]; omega
    simp [this]
  · simp [h]
theorem low_next (g : Cpu → Int) (l : List Cpu) (n : Nat) : low g l n ||| W (fun c => g c == (n : Int)) l = low g l (n + 1) := by
  unfold low
  rw [W_or]
  refine W_congr _ _ l fun c _ => ?_
  rw [Bool.eq_iff_iff]
  simp only [Bool.or_eq_true, decide_eq_true_eq, beq_iff_eq]
  omega
theorem low_all (g : Cpu → Int) (l : List Cpu) (n : Nat) (h : ∀ c, c ∈ l → g c < (n : Int)) : low g l n = W (fun _ => true) l :=
  W_congr _ _ l fun c hc => by have := h c hc; simpa using this
/-- A core lies in a socket, or has nothing in common with it. -/
theorem core_sock (l : List Cpu) (h : Fine l) (n k : Int) : W (fun c => c.core == n) l &&& W (fun c => c.socket == k) l = 0 ∨ W (fun c => c.core == n) l &&& W (fun c => c.socket == k) l = W (fun c => c.core == n) l := by
  rw [W_and]
  by_cases hex : ∃ c, c ∈ l ∧ c.core = n ∧ c.socket = k
  · obtain ⟨c, hc, h1, h2⟩ := hex
    right
    refine W_congr _ _ l fun d hd => ?_
    by_cases hd1 : d.core = n
    · have := h.one c d hc hd (by rw [h1, hd1])
      subst this
      simp [h1, h2]
    · have : (d.core == n) = false := beq_eq_false_iff_ne.2 hd1
      simp [this]
  · left
    refine W_none _ l fun d hd => ?_
    by_cases hd1 : d.core = n
    · have : (d.socket == k) = false := beq_eq_false_iff_ne.2 fun h2 => hex ⟨d, hd, hd1, h2⟩
      simp [this]
    · have : (d.core == n) = false := beq_eq_false_iff_ne.2 hd1
      simp [this]
theorem nods_bit (l : List Cpu) (k q : Nat) : (nods l k).testBit q = decide (∃ i, i < k ∧ ∃ h : i < l.length, l[i].node.toNat = q) := by
  induction k with
  | zero => simp [nods]
  | succ k ih =>
    simp only [nods]
    rw [Nat.testBit_or, ih, Bool.eq_iff_iff]
    simp only [Bool.or_eq_true, decide_eq_true_eq]
    by_cases hk : k < l.length
    · rw [List.getElem?_eq_getElem hk]
      simp only [Nat.testBit_two_pow, decide_eq_true_eq]
      constructor
      · rintro (⟨i, h1, h2, h3⟩ | h)
        · exact ⟨i, by omega, h2, h3⟩
        · exact ⟨k, by omega, hk, h⟩
      · rintro ⟨i, h1, h2, h3⟩
        by_cases he : i = k
        · subst he; exact .inr h3
        · exact .inl ⟨i, by omega, h2, h3⟩
    · rw [List.getElem?_eq_none (Nat.le_of_not_lt hk)]
      simp only [Nat.zero_testBit, Bool.false_eq_true, or_false]
      constructor
      · rintro ⟨i, h1, h2, h3⟩
        exact ⟨i, by omega, h2, h3⟩
      · rintro ⟨i, h1, h2, h3⟩
        exact ⟨i, by omega, h2, h3⟩
/-- There is one on a node just if the node is there. -/
theorem node_there (l : List Cpu) (h : Fine l) (n : Nat) : (bit (nods l l.length) n = 1 ∧ W (fun c => c.node == (n : Int)) l ≠ 0) ∨ (bit (nods l l.length) n = 0 ∧ W (fun c => c.node == (n : Int)) l = 0) := by
  rw [bit_of, nods_bit]
  by_cases hex : ∃ i, i < l.length ∧ ∃ h : i < l.length, l[i].node.toNat = n
  · left
    rw [decide_eq_true hex]
    obtain ⟨i, _, hi, he⟩ := hex
    have := h.node _ (List.getElem_mem hi)
    exact ⟨rfl, W_some _ l _ (List.getElem_mem hi) (by simp; omega)⟩
  · right
    rw [decide_eq_false hex]
    refine ⟨rfl, W_none _ l fun c hc => ?_⟩
    obtain ⟨i, hi, rfl⟩ := List.mem_iff_getElem.1 hc
    have := h.node _ hc
    rw [beq_eq_false_iff_ne]
    intro he
    exact hex ⟨i, hi, hi, by omega⟩
theorem cnt_all (l : List Cpu) (k : Nat) : cnt (W (fun _ => true) l) k = min k l.length := by
  induction k with
  | zero => simp [cnt]
  | succ k ih =>
    simp only [cnt]
    rw [ih, bit_of, W_bit]
    by_cases h : k < l.length
    · simp [List.getElem?_eq_getElem h]; omega
    · simp [List.getElem?_eq_none (Nat.le_of_not_lt h)]; omega
theorem on_node (l : List Cpu) (h : Fine l) (n : Nat) : wh (fun c => onB (2 ^ n) c) l l.length = W (fun c => c.node == (n : Int)) l :=
  wh_congr _ _ l (fun c hc => onB_pow n c (h.node c hc).1) l.length
end Tp
end Go.Proofs.Yticmfflnenoplab
